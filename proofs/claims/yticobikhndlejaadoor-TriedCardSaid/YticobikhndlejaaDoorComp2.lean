/- Complete by contract: the walk. -/
import Derived.Test.YticobikhndlejaaDoorComp
namespace Go.Proofs.YticobikhndlejaaDoor
open Go.RowKit Go.Shelf Go.Lib

set_option maxRecDepth 100000 in
theorem complete_no (q : Nat) (s : Sta) (F : Nat → Prop) (w : World) (k : Int) (fault : Bool) (h : QAt w q s F) (hk : k < 0 ∨ (s.cs.length : Int) ≤ k) :
    Calls Tryd.prog 25 #[ptr q, .int .i64 k, .bool fault] w fun x w' => x = .returned (errK 10) ∧ Below w.heap.size w w' := by
  obtain ⟨tb, mb, clock, fv, hq, hF⟩ := h
  have c2 := hq.c2
  obtain ⟨fa, fc, rfl⟩ := own_slice hq.fl
  clear hq hF
  by_cases h0 : k < 0
  · have d0 : decide (k < 0) = true := by simpa using h0
    go_enter Tryd.func25, Tryd.ntmps25
    go_wp2_with fail
    go_ret
    exact ⟨rfl, Below.refl _ _⟩
  · have d0 : decide (k < 0) = false := by simpa using h0
    have d1 : decide (k ≥ (s.cs.length : Int)) = true := by simp; omega
    go_enter Tryd.func25, Tryd.ntmps25
    go_wp2_with fail
    go_ret
    exact ⟨rfl, Below.refl _ _⟩

set_option maxRecDepth 100000 in
set_option maxHeartbeats 2000000 in
theorem complete_any (q : Nat) (s : Sta) (F : Nat → Prop) (w : World) (k : Nat) (fault : Bool) (c : Cmd × Value) (h : QAt w q s F) (hk : s.cs[k]? = some c) (hn : 0 ≤ s.now ∧ s.now < 2 ^ 60) (h4 : s.cs.length ≤ 4) (hlen : c.1.nums.length ≤ 1000000)
    (hall : ∀ j (hj : j < c.1.nums.length), ∃ e, LandOk (landsS fault { s with cs := s.cs.eraseIdx k } (c.1.nums.take j)) (c.1.nums[j]'hj) e) :
    Calls Tryd.prog 25 #[ptr q, .int .i64 k, .bool fault] w fun x w' => x = .returned .nilIface ∧ QAt w' q (landsS fault { s with cs := s.cs.eraseIdx k } c.1.nums) F ∧ Chg F w w' := by
  obtain ⟨tb, mb, clock, fv, hq, hF⟩ := h
  have c2 := hq.c2
  obtain ⟨hkl, hck⟩ := List.getElem?_eq_some_iff.1 hk
  obtain ⟨n, hnn⟩ : ∃ n, s.cs.length = n := ⟨_, rfl⟩
  obtain ⟨g, cap, cur, rfl, _, hg2, hg3, hg4, hg5, hg6⟩ : ∃ g cap cur, fv = .slice (some ⟨g, 0, none⟩) n cap ∧ 0 ≤ g ∧ w.heap[g]? = some (.cells cur 34 (0, 0)) ∧ n ≤ cap ∧ cap ≤ maxLen ∧ cur.size = cap * 4 ∧ cur.toList.take (n * 4) = s.cs.flatMap cmdCells := by
    rcases hq.fl.2 with ⟨_, h0⟩ | h1
    · omega
    · rw [hnn] at h1; exact h1
  rw [hnn] at hkl
  have d0 : decide ((k : Int) < 0) = false := by simp
  have d1 : decide ((k : Int) ≥ (n : Int)) = false := by simp; omega
  have hki : (k : Int) < (n : Int) := by omega
  -- the command's cells
  have hcell : ∀ i v, (cmdCells c)[i]? = some v → w.cell? ⟨g, k * 4 + i, none⟩ = some v := fun i v hv => by
    refine cell_of hg2 ?_
    have hi : i < 4 := (List.getElem?_eq_some_iff.1 hv).1
    have hfl : ∀ (l : List (Cmd × Value)) (k : Nat), l[k]? = some c → (l.flatMap cmdCells)[k * 4 + i]? = some v := fun l => by
      induction l with
      | nil => intro k hk; simp at hk
      | cons x l ih =>
        intro k hk
        match k, hk with
        | 0, hk =>
          simp at hk; subst hk
          rw [List.flatMap_cons, List.getElem?_append_left (by simp [cmdCells]; omega)]
          simpa using hv
        | k + 1, hk =>
          rw [List.flatMap_cons, List.getElem?_append_right (by simp [cmdCells]; omega)]
          have := ih k (by simpa using hk)
          rw [show (k + 1) * 4 + i - (cmdCells x).length = k * 4 + i from by simp [cmdCells]; omega]
          exact this
    have h1 := hfl s.cs k hk
    rw [← hg6, List.getElem?_take_of_lt (by omega)] at h1
    rw [← Array.getElem?_toList]; exact h1
  obtain ⟨b, v⟩ := c
  have z0 : w.cell? ⟨g, k * 4, none⟩ = some (.bool b.write) := hcell 0 _ rfl
  have z1 : w.cell? ⟨g, k * 4 + 1, none⟩ = some (.int .i64 b.page) := hcell 1 _ rfl
  have z2 : w.cell? ⟨g, k * 4 + 2, none⟩ = some (.int .i64 b.count) := hcell 2 _ rfl
  have z3 : w.cell? ⟨g, k * 4 + 3, none⟩ = some v := hcell 3 _ rfl
  have hmem : (b, v) ∈ s.cs := by rw [← hck]; exact List.getElem_mem _
  have hrow : w.ownsRow 0 3 1 v b.nums.length (b.nums.map fun n => Value.int .i64 n) := hq.rows _ hmem
  obtain ⟨m, hm⟩ : ∃ m, b.nums.length = m := ⟨_, rfl⟩
  rw [hm] at hrow
  obtain ⟨va, vc, rfl⟩ := own_slice hrow
  have h1c : ∀ c ∈ s.cs, c.2.oneCell' = true := fun c hc => by
    obtain ⟨a, d, e⟩ := own_slice (hq.rows c hc)
    rw [e]; rfl
  obtain ⟨W1, hW1⟩ : ∃ W1, w.alloc (.cells #[.bool b.write, .int .i64 b.page, .int .i64 b.count, .slice va m vc] 34) = W1 := ⟨_, rfl⟩
  have hB1 : Below w.heap.size w W1 := by rw [← hW1]; exact (Below.refl _ _).alloc (Nat.le_refl _) _
  have hr1 : W1.heap[w.heap.size]? = some (.cells #[.bool b.write, .int .i64 b.page, .int .i64 b.count, .slice va m vc] 34 (0, 0)) := by rw [← hW1]; exact World.alloc_heap_new w _
  have hs1 : W1.heap.size = w.heap.size + 1 := by rw [← hW1]; simp
  have c2' : W1.cell? ⟨q, 2, none⟩ = some (.slice (some ⟨g, 0, none⟩) n cap) := by rw [← hnn]; exact (hB1.cell (p := ⟨q, 2, none⟩) (lt_of_heap hq.que)).trans (by rw [hnn]; exact c2)
  have HB1 := Lib.hid hB1
  have HR1 := Lib.hid hr1
  have HQ := Lib.hid hq
  have HF := Lib.hid hF
  have HROW := Lib.hid hrow
  have HM := Lib.hid hmem
  have H1 := Lib.hid h1c
  have HG2 := Lib.hid hg2
  have HG5 := Lib.hid hg5
  have HG6 := Lib.hid hg6
  have HA := Lib.hid hall
  have hqlt := lt_of_heap hq.que
  clear hB1 hr1 hq hF hrow hcell hmem h1c hg2 hg5 hg6 hall hck hk
  go_enter Tryd.func25, Tryd.ntmps25
  go_wp2_with fail
  rw [show (k : Int) + 1 = ((k + 1 : Nat) : Int) from by omega]
  refine (del_any g n cap k (k + 1) rfl cur s.cs W1 hnn hkl ((HB1.out.block g (lt_of_heap HG2.out)).trans HG2.out) hg3 HG5.out HG6.out H1.out).mono ?_
  rintro x w2 ⟨rfl, hc2, cur2, e1, e2, e3⟩
  have hgl := lt_of_heap HG2.out
  have hqg : q ≠ g := HQ.out.ne_qf rfl
  have hq2 : w2.heap[q]? = some (.cells (qCells tb (.slice (some ⟨g, 0, none⟩) n cap) s) 70 (0, 0)) := (hc2.block q (by omega) hqg).trans ((HB1.out.block q hqlt).trans HQ.out.que)
  have f2 : w2.frozen? ⟨q, 2, none⟩ = false := free_of hq2
  have g2 : w2.cell? ⟨q, 2, none⟩ = some (.slice (some ⟨g, 0, none⟩) n cap) := cell_of hq2 rfl
  have hQ3 := HQ.out.dropc HB1.out hc2 (by omega) hg4 hnn e1 e2 e3 hkl
  obtain ⟨W3, hW3⟩ : ∃ W3, w2.setCell ⟨q, 2, none⟩ (.slice (some ⟨g, 0, none⟩) (n - 1 : Nat) cap) = W3 := ⟨_, rfl⟩
  rw [hW3] at hQ3
  have hc3 : Chg (fun i => i = g ∨ i = q) w W3 := by
    rw [← hW3]
    exact ((chgB HB1.out _).then (hc2.mono fun _ _ h => .inl h)).then ((chg_set _).mono fun _ _ h => .inr h)
  have hr3 : W3.heap[w.heap.size]? = some (.cells #[.bool b.write, .int .i64 b.page, .int .i64 b.count, .slice va m vc] 34 (0, 0)) := by
    rw [← hW3]
    refine (heap_setCell_ne _ (by show w.heap.size ≠ q; omega)).trans ((hc2.block _ (by omega) (by omega)).trans HR1.out)
  have y3 : W3.cell? ⟨w.heap.size, 3, none⟩ = some (.slice va m vc) := cell_of hr3 rfl
  have HQ3 := Lib.hid hQ3
  have HC3 := Lib.hid hc3
  clear hc2 e1 e2 e3 hq2 hQ3 hc3 hr3
  go_wp2_with fail
  have hrow3 : W3.ownsRow 0 3 1 (.slice va m vc) m (b.nums.map fun n => Value.int .i64 n) := ownsRow_chg HROW.out HC3.out fun i hi hh => by
    obtain ⟨cr, hcr⟩ := own_heap HROW.out hi
    rcases hh with e | e
    · rw [e, HG2.out] at hcr; simp at hcr
    · exact HQ.out.ne_qr HM.out (k := i) hi e.symm
  have HR3 := Lib.hid hrow3
  have hmN : m = b.nums.length := hm.symm
  have HMN := Lib.hid hmN
  clear hrow3 hm hmN
  go_loopg [43] m (fun kk i wr => ∃ j : Nat, kk = m - j ∧ j ≤ m ∧ i = .int .i64 j ∧ QB wr q tb mb clock (.slice (some ⟨g, 0, none⟩) (n - 1 : Nat) cap) (landsS fault { s with cs := s.cs.eraseIdx k } (b.nums.take j)) ∧ Chg (fun k => k = q ∨ k = mb ∨ ∃ e ∈ s.es, k = e.p) W3 wr)
  case atStart => exact ⟨0, by simp, Nat.zero_le _, rfl, HQ3.out, Chg.refl _ _⟩
  case round =>
    obtain ⟨j, rfl, hj, rfl, hQr, hCr⟩ := hrel
    by_cases hlt : j < m
    · have hjb : j < b.nums.length := by have := HMN.out; omega
      obtain ⟨e, hLe⟩ := HA.out j hjb
      obtain ⟨sj, hsj⟩ : ∃ sj, landsS fault { s with cs := s.cs.eraseIdx k } (b.nums.take j) = sj := ⟨_, rfl⟩
      simp only [hsj] at hLe
      rw [hsj] at hQr
      obtain ⟨num, hnum⟩ : ∃ num, b.nums[j]'hjb = num := ⟨_, rfl⟩
      rw [hnum] at hLe
      have hnow : sj.now = s.now := by rw [← hsj]; exact (landsS_same _ _ _).2
      have hnx : landsS fault { s with cs := s.cs.eraseIdx k } (b.nums.take (j + 1)) = landS fault sj num := by
        rw [← hsj, ← hnum]
        unfold landsS
        rw [List.take_succ_eq_append_getElem hjb, List.foldl_append]; rfl
      have hpe : ∃ y ∈ s.es, y.p = e.p := by
        have := hLe.mem
        rw [← hsj] at this
        exact landsS_p (s := { s with cs := s.cs.eraseIdx k }) this
      obtain ⟨gr, ca, cr, hva, hgr2, hgr6⟩ : ∃ gr ca cr, (Value.slice va m vc) = .slice (some ⟨gr, 0, none⟩) m ca ∧ W3.heap[gr]? = some (.cells cr 3 (0, 0)) ∧ cr.toList.take (m * 1) = b.nums.map fun n => Value.int .i64 n := by
        rcases HR3.out.2 with ⟨_, h0⟩ | ⟨g, c, cur, x1, x2, x3, x4, x5, x6, x7⟩
        · omega
        · exact ⟨g, c, cur, x1, x3, x7⟩
      obtain ⟨rfl, rfl⟩ : va = some ⟨gr, 0, none⟩ ∧ vc = ca := by injection hva with a1 a2 a3; exact ⟨a1, a3⟩
      have hngr : ¬ (gr = q ∨ gr = mb ∨ ∃ e ∈ s.es, gr = e.p) := by
        rintro (e | e | ⟨x, hx, e⟩)
        · exact ne_of_heap hgr2 HQ3.out.que (by simp) e
        · exact ne_of_heap hgr2 HQ3.out.tab.map (by simp) e
        · exact ne_of_heap hgr2 (HQ3.out.tab.reqs x hx) (by simp) e
      have hcn : wr.cell? ⟨gr, j, none⟩ = some (.int .i64 num) := by
        rw [← hnum]
        exact (hCr.cell (p := ⟨gr, j, none⟩) (lt_of_heap hgr2) hngr).trans (row_int hgr2 hgr6 HMN.out j hjb)
      have hltI : (j : Int) < (m : Int) := by omega
      have hc1r := hQr.c1
      have HQr := Lib.hid hQr
      have HCr := Lib.hid hCr
      have HLe := Lib.hid hLe
      have HNX := Lib.hid hnx
      have HPE := Lib.hid hpe
      have HNW := Lib.hid hnow
      clear hQr hCr hLe hnx hpe hnow hsj hnum hgr6 hva hngr hgr2
      go_wp2_with fail
      have hget := get_yes tb mb clock sj.last sj.held sj.es wr HQr.out.tab e HLe.out.mem
      rw [HLe.out.num] at hget
      refine hget.mono ?_
      rintro x w5 ⟨rfl, rfl⟩
      go_wp2_with fail
      refine (land_all q tb mb clock _ sj w5 fault num e HQr.out HLe.out (by rw [HNW.out]; exact hn)).mono ?_
      rintro x w6 ⟨rfl, hQ6, hC6⟩
      have HQ6 := Lib.hid hQ6
      have HC6 := Lib.hid hC6
      clear hQ6 hC6
      go_wp2_with fail
      go_roundg (m - (j + 1))
      case measure => omega
      case rel =>
        refine ⟨j + 1, rfl, by omega, by go_num, by rw [HNX.out]; exact HQ6.out, HCr.out.then (HC6.out.mono fun i _ hi => ?_)⟩
        rcases hi with h | h | h
        · exact .inl h
        · exact .inr (.inl h)
        · obtain ⟨y, hy, hyp⟩ := HPE.out
          exact .inr (.inr ⟨y, hy, h.trans hyp.symm⟩)
    · obtain rfl : j = m := by omega
      have HQr := Lib.hid hQr
      have HCr := Lib.hid hCr
      clear hQr hCr
      go_wp2_with fail
      go_ret
      have htk : b.nums.take j = b.nums := by rw [HMN.out]; exact List.take_length
      have hfin := HQr.out
      rw [htk] at hfin
      refine ⟨rfl, ⟨tb, mb, clock, _, hfin, fun i hi => HF.out i ?_⟩, ?_⟩
      · rcases hi with h | h | h | h | ⟨x, hx, h⟩ | ⟨c, hc, h⟩
        · exact .inl h
        · exact .inr (.inl h)
        · exact .inr (.inr (.inl h))
        · exact .inr (.inr (.inr (.inl h)))
        · obtain ⟨y, hy, hyp⟩ := landsS_p (s := { s with cs := s.cs.eraseIdx k }) hx
          exact .inr (.inr (.inr (.inr (.inl ⟨y, hy, h.trans hyp.symm⟩))))
        · rw [(landsS_same _ _ _).1] at hc
          exact .inr (.inr (.inr (.inr (.inr ⟨c, (List.eraseIdx_sublist _ _).subset hc, h⟩))))
      · refine (HC3.out.mono fun i _ hi => HF.out i ?_).then (HCr.out.mono fun i _ hi => HF.out i ?_)
        · rcases hi with h | h
          · exact .inr (.inr (.inr (.inl (by rw [h]; rfl))))
          · exact .inl h
        · rcases hi with h | h | ⟨x, hx, h⟩
          · exact .inl h
          · exact .inr (.inr (.inl h))
          · exact .inr (.inr (.inr (.inr (.inl ⟨x, hx, h⟩))))
end Go.Proofs.YticobikhndlejaaDoor
