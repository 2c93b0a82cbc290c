/- The statements' cancel by contract. -/
import Derived.Test.YticobikhndlejaaGreatDoorGxS
namespace Go.Proofs.YticobikhndlejaaGreatDoor
open Go.RowKit Go.Shelf Go.Lib

theorem flat_one (v : Value) (r' : KReq) : ∀ (rs : List KReq) (i : Nat) (r : KReq), rs[i]? = some r → kCells r' = (kCells r).set 4 v →
    (rs.set i r').flatMap kCells = (rs.flatMap kCells).set (i * 6 + 4) v
  | [], _, _, hi, _ => by simp at hi
  | x :: rs, 0, r, hi, h => by
    simp at hi
    subst hi
    simp only [List.set_cons_zero, List.flatMap_cons, h]
    rw [List.set_append, if_pos (by simp [kCells])]
  | x :: rs, i + 1, r, hi, h => by
    have ih := flat_one v r' rs i r (by simpa using hi) h
    simp only [List.set_cons_succ, List.flatMap_cons, ih]
    have hl : (kCells x).length = 6 := rfl
    rw [List.set_append, if_neg (by omega)]
    congr 2
    omega
/-- The outcome of one is written. -/
theorem KB.how {w : World} {wo q g n cap : Nat} {F : Nat → Prop} {t : St} {rs : List KReq} {i : Nat} {num : Int} {wrt : Bool} {page : Int} {data : ByteArray} {how : Int} {read : ByteArray} (h : KB w wo q (.slice (some ⟨g, 0, none⟩) n cap) F t rs) (hi : rs[i]? = some ⟨num, wrt, page, data, how, read⟩) (h' : Int) :
    KB (w.setCell ⟨g, i * 6 + 4, none⟩ (.int .i64 h')) wo q (.slice (some ⟨g, 0, none⟩) n cap) F t (rs.set i ⟨num, wrt, page, data, h', read⟩) ∧ Chg (fun k => k = g) w (w.setCell ⟨g, i * 6 + 4, none⟩ (.int .i64 h')) := by
  obtain ⟨g', cap', cur, e, hg2, hg3, hg4, hg5, hg6, hcell⟩ := h.cells hi
  simp only [Value.slice.injEq, Option.some.injEq, Addr.mk.injEq] at e
  obtain ⟨⟨rfl, _⟩, rfl, rfl⟩ := e
  have hset : Chg (fun k => k = g) w (w.setCell ⟨g, i * 6 + 4, none⟩ (.int .i64 h')) := (Chg.refl (fun k => k = g) w).setCell (p := ⟨g, i * 6 + 4, none⟩) (.inl rfl) _
  have hgF : ¬ F g := h.nor g rfl
  refine ⟨⟨(hset.block wo (lt_of_heap h.blk) fun e => h.ne rfl e).trans h.blk, ⟨?_, .inr ⟨g, cap, cur.setIfInBounds (i * 6 + 4) (.int .i64 h'), ?_, Nat.zero_le _, heap_setCell _ hg2, ?_, hg4, ?_, ?_⟩⟩, h.que.kept hset fun k hk e => hgF (e ▸ hk), h.now, h.nor⟩, hset⟩
  · rw [flat_len]
  · simp
  · simpa using hg3
  · simp [hg5]
  · rw [Array.toList_setIfInBounds, List.length_set, List.take_set, hg6]
    exact (flat_one (.int .i64 h') ⟨num, wrt, page, data, h', read⟩ rs i _ hi rfl).symm
/-- What may become of giving up. -/
inductive COut (num : Int) (wrt : Bool) (page : Int) (data : ByteArray) (how : Int) (read : ByteArray) (air : Bool) : Int → Int → Int → KReq → Prop
  | ok (h0 : how = 0) : COut num wrt page data how read air 0 (-1) 0 ⟨num, wrt, page, data, if air then 4 else 3, read⟩
  | no (k r t : Int) (hk : k = 9 ∨ k = 5) : COut num wrt page data how read air k r t ⟨num, wrt, page, data, how, read⟩
set_option maxRecDepth 100000 in
set_option maxHeartbeats 4000000 in
theorem kcancel_any (wo q : Nat) (rv : Value) (F : Nat → Prop) (t t' : St) (rs : List KReq) (w : World) (i : Nat) (num : Int) (wrt : Bool) (page : Int) (data : ByteArray) (how : Int) (read : ByteArray) (air : Bool) (r' : KReq) (k rr tt : Int) (h : KB w wo q rv F t rs) (hg : ErrVar w) (hi : rs[i]? = some ⟨num, wrt, page, data, how, read⟩)
    (hfl : Calls Tryz.prog 75 #[ptr wo, .int .i64 num] w fun y w' => y = .returned (.bool air) ∧ Below w.heap.size w w')
    (hP : ∀ W, QT W q t (fun k => F k ∧ k < w.heap.size) → ErrVar W → Calls Tryz.prog 15 #[ptr q, .int .i64 num] W fun y w' => y = .returned (plErr k rr tt) ∧ QT w' q t' (fun k => F k ∧ k < w.heap.size) ∧ Chg (fun k => F k ∧ k < w.heap.size) W w')
    (hO : COut num wrt page data how read air k rr tt r') :
    Calls Tryz.prog 43 #[ptr wo, .int .i64 i] w fun y w' => y = .returned (.bool true) ∧ KB w' wo q rv (fun k => F k ∧ k < w.heap.size) t' (rs.set i r') ∧ Chg (KFoot wo rv F) w w' := by
  have h := h.lt
  obtain ⟨g, cap, cur, rfl, hg2, hg3, hg4, hg5, hg6, hcell⟩ := h.cells hi
  obtain ⟨n, hn⟩ : ∃ n, rs.length = n := ⟨_, rfl⟩
  have hil : i < n := by rw [← hn]; exact (List.getElem?_eq_some_iff.1 hi).1
  have hiI : (i : Int) < (n : Int) := by omega
  have hi0 : (0 : Int) ≤ (i : Int) := by omega
  have p0 : w.cell? ⟨g, i * 6, none⟩ = some (.int .i64 num) := hcell 0 _ rfl
  have c0 := h.c0
  have c1 := h.c1
  rw [hn] at c1 h
  have hwlt := lt_of_heap h.blk
  have hglt := lt_of_heap hg2
  have HFL := Lib.hid hfl
  have HK := Lib.hid h
  have HI := Lib.hid hi
  have HG := Lib.hid hg
  have HP := Lib.hid hP
  have HN := Lib.hid hn
  clear h hg hi hfl hP hg2 hg3 hg4 hg5 hg6 hcell hn
  go_enter Tryz.func43, Tryz.ntmps43
  go_wp2_with fail
  refine HFL.out.mono ?_
  rintro y W0 ⟨rfl, hB0⟩
  have q0 := (hB0.cell (p := ⟨wo, 0, none⟩) hwlt).trans c0
  have q1 := (hB0.cell (p := ⟨wo, 1, none⟩) hwlt).trans c1
  have q2 := (hB0.cell (p := ⟨g, i * 6, none⟩) hglt).trans p0
  have hs0 := hB0.size
  have hwl0 : wo < W0.heap.size := by omega
  have hgl0 : g < W0.heap.size := by omega
  have hwn0 : wo ≠ W0.heap.size := by omega
  have hgn0 : g ≠ W0.heap.size := by omega
  have hwn1 := hwn0.symm
  have hgn1 := hgn0.symm
  have HB0 := Lib.hid hB0
  clear hB0 c0 c1 p0
  have hPP : ∀ W, Below W0.heap.size W0 W → Calls Tryz.prog 15 #[ptr q, .int .i64 num] W fun y w' => y = .returned (plErr k rr tt) ∧ Hid (QT w' q t' (fun k => F k ∧ k < w.heap.size)) ∧ Hid (Chg (fun k => F k ∧ k < w.heap.size) W0 w') ∧ W.heap.size ≤ w'.heap.size ∧ Chg (fun k => F k ∧ k < w.heap.size) W w' := fun W hB =>
    (HP.out W (HK.out.que.below (HB0.out.trans (hB.mono hs0))) (HG.out.chg (chgB (HB0.out.trans (hB.mono hs0)) fun _ => False) fun x => x)).mono fun y w' ⟨e1, e2, e3⟩ => ⟨e1, Lib.hid e2, Lib.hid ((chgB hB _).then e3), e3.size, e3⟩
  have HPP := Lib.hid hPP
  clear hPP
  go_wp2_with fail
  go_cut [6] from 18 to 31 (fun s6 wx => ∃ b6, s6 = ptr b6 ∧ W0.heap.size ≤ b6 ∧ wx.cell? ⟨b6, 0, none⟩ = some (.int .i64 k) ∧ wx.cell? ⟨b6, 1, none⟩ = some (.int .i64 rr) ∧ wx.cell? ⟨b6, 2, none⟩ = some (.int .i64 tt) ∧ wx.cell? ⟨b6, 3, none⟩ = some (.bool true) ∧ Hid (QT wx q t' (fun k => F k ∧ k < w.heap.size)) ∧ Hid (Chg (fun k => F k ∧ k < w.heap.size) W0 wx))
  case first =>
    go_region_held3 (fun w' => w'.cell? ⟨wo, 0, none⟩ = some (ptr q) ∧ w'.cell? ⟨wo, 1, none⟩ = some (.slice (some ⟨g, 0, none⟩) n cap) ∧ w'.cell? ⟨g, i * 6, none⟩ = some (.int .i64 num)) (go_keep)
      (first
        | (go_at_call 15; refine (HPP.out _ (by go_grown)).mono ?_; rintro y w2 ⟨rfl, hq2, hc2, hz2, hc3⟩
           have hy0 : w2.cell? ⟨wo, 0, none⟩ = some (ptr q) := (hc2.out.cell (p := ⟨wo, 0, none⟩) hwl0 (fun hh => HK.out.now hh)).trans q0
           have hy1 : w2.cell? ⟨wo, 1, none⟩ = some (.slice (some ⟨g, 0, none⟩) n cap) := (hc2.out.cell (p := ⟨wo, 1, none⟩) hwl0 (fun hh => HK.out.now hh)).trans q1
           have hy2 : w2.cell? ⟨g, i * 6, none⟩ = some (.int .i64 num) := (hc2.out.cell (p := ⟨g, i * 6, none⟩) hgl0 (fun hh => HK.out.nor g rfl hh)).trans q2
           try simp at hz2
           have hm1 : wo < w2.heap.size := by omega
           have hm2 : g < w2.heap.size := by omega
           have hm3 : wo ≠ w2.heap.size := by omega
           have hm4 : g ≠ w2.heap.size := by omega
           have hm5 := hm3.symm
           have hm6 := hm4.symm
           try (have zaE0 : w2.cell? ⟨W0.heap.size, 0, none⟩ = some (.int .i64 0) := ?zval; case zval => (refine (hc3.cell (p := ⟨W0.heap.size, 0, none⟩) ?_ ?_).trans ?_ <;> first | (intro hh; have hh : W0.heap.size < w.heap.size := hh.2; omega) | (simp; done) | (go_simp; done) | (simp; omega) | omega))
           try (have zaE1 : w2.cell? ⟨W0.heap.size, 1, none⟩ = some (.int .i64 0) := ?zval; case zval => (refine (hc3.cell (p := ⟨W0.heap.size, 1, none⟩) ?_ ?_).trans ?_ <;> first | (intro hh; have hh : W0.heap.size < w.heap.size := hh.2; omega) | (simp; done) | (go_simp; done) | (simp; omega) | omega))
           try (have zaE2 : w2.cell? ⟨W0.heap.size, 2, none⟩ = some (.int .i64 0) := ?zval; case zval => (refine (hc3.cell (p := ⟨W0.heap.size, 2, none⟩) ?_ ?_).trans ?_ <;> first | (intro hh; have hh : W0.heap.size < w.heap.size := hh.2; omega) | (simp; done) | (go_simp; done) | (simp; omega) | omega))
           try (have zaE3 : w2.cell? ⟨W0.heap.size, 3, none⟩ = some (.bool false) := ?zval; case zval => (refine (hc3.cell (p := ⟨W0.heap.size, 3, none⟩) ?_ ?_).trans ?_ <;> first | (intro hh; have hh : W0.heap.size < w.heap.size := hh.2; omega) | (simp; done) | (go_simp; done) | (simp; omega) | omega))
           try (have zfa : ∀ i, w2.frozen? ⟨W0.heap.size, i, none⟩ = false := ?zval; case zval => (intro i; refine (hc3.frozen (p := ⟨W0.heap.size, i, none⟩) ?_ ?_).trans ?_ <;> first | (intro hh; have hh : W0.heap.size < w.heap.size := hh.2; omega) | (simp; done) | (go_simp; done) | (simp; omega) | omega))
           try (have hla : W0.heap.size < w2.heap.size := ?zval; case zval => omega)
           clear hc3))
    all_goals
      go_wp2_with fail
      go_meet
      case rel =>
        refine ⟨_, rfl, ?_, ?_, ?_, ?_, ?_, ?_, ?_⟩
        rotate_left 5
        · refine Lib.hid (hq2.out.kept (S := fun k => W0.heap.size ≤ k) ?_ fun k hk hh => by have := hk.2; omega)
          repeat first | with_reducible exact Chg.refl _ _ | with_reducible refine Chg.alloc ?_ _ | with_reducible refine Chg.setCell ?_ (.inl ?_) _
          all_goals (dsimp only; omega)
        · refine Lib.hid (hc2.out.trans (Chg.mono (S := fun k => W0.heap.size ≤ k) ?_ fun k _ hk => .inr hk))
          repeat first | with_reducible exact Chg.refl _ _ | with_reducible refine Chg.alloc ?_ _ | with_reducible refine Chg.setCell ?_ (.inl ?_) _
          all_goals (dsimp only; omega)
        · omega
        all_goals (first | (simp; done) | (go_simp; done))
  case rest =>
    obtain ⟨b6, rfl, hb6, y0, y1, y2, y3, hq2, hc2⟩ := hcut
    have hKc := (HK.out.below HB0.out).que' hc2.out hq2.out fun k hk => .inl hk
    have hcc : Chg (fun k => F k ∧ k < w.heap.size) w wc := (chgB HB0.out _).then hc2.out
    have HKC := Lib.hid hKc
    have HCC := Lib.hid hcc
    clear hq2 hc2 hKc hcc
    have hwg : wo ≠ g := HK.out.ne rfl
    have hgw := hwg.symm
    cases hO with
    | ok h0 =>
      subst h0
      go_wp2_with fail
      refine (fine_yes wc).mono ?_
      rintro y w3 ⟨rfl, hb3⟩
      have hK3 := HKC.out.below hb3
      have d1 := hK3.c1
      have hwl3 := lt_of_heap hK3.blk
      rw [← HN.out] at hK3
      obtain ⟨g', cap', cur, e, hg2, _, _, _, _, hcell⟩ := hK3.cells HI.out
      rw [HN.out] at hK3
      simp only [Value.slice.injEq, Option.some.injEq, Addr.mk.injEq] at e
      obtain ⟨⟨rfl, _⟩, _, rfl⟩ := e
      have d4 : w3.cell? ⟨g, i * 6 + 4, none⟩ = some (.int .i64 0) := hcell 4 _ rfl
      have df : w3.frozen? ⟨g, i * 6 + 4, none⟩ = false := free_of hg2
      have hgl3 := lt_of_heap hg2
      have hcw : Chg (fun k => F k ∧ k < w.heap.size) w w3 := HCC.out.trans ((chgB hb3 fun _ => False).mono fun k _ hk => hk.elim)
      have HK3 := Lib.hid hK3
      have HCW := Lib.hid hcw
      clear hK3 hcw hb3 hcell hg2
      cases air with
      | false =>
        go_wp2_with fail
        go_ret
        obtain ⟨k1, k2⟩ := HK3.out.how HI.out 3
        refine ⟨rfl, by rw [HN.out]; exact k1, (HCW.out.mono fun k _ hk => .inl hk.1).then (k2.mono fun k _ hk => ?_)⟩
        subst hk
        exact .inr (.inr rfl)
      | true =>
        go_wp2_with fail
        go_ret
        obtain ⟨k1, k2⟩ := HK3.out.how HI.out 3
        have hi2 : (rs.set i ⟨num, wrt, page, data, 3, read⟩)[i]? = some ⟨num, wrt, page, data, 3, read⟩ := by rw [List.getElem?_set_self (by rw [HN.out]; exact hil)]
        obtain ⟨k3, k4⟩ := k1.how hi2 4
        rw [List.set_set] at k3
        refine ⟨rfl, by rw [HN.out]; exact k3, (HCW.out.mono fun k _ hk => .inl hk.1).then ((k2.then k4).mono fun k _ hk => ?_)⟩
        subst hk
        exact .inr (.inr rfl)
    | no _ _ _ hk =>
      have HSET := Lib.hid (set_same rs i _ HI.out)
      rcases hk with rfl | rfl
      all_goals
        go_wp2_with fail
        refine (fine_no _ rr tt (by omega) wc).mono ?_
        rintro y w3 ⟨rfl, hb3⟩
        have e0 := (hb3.cell (p := ⟨b6, 0, none⟩) (lt_of_cell y0)).trans y0
        have hK3 := HKC.out.below hb3
        have hcw : Chg (fun k => F k ∧ k < w.heap.size) w w3 := HCC.out.trans ((chgB hb3 fun _ => False).mono fun k _ hk => hk.elim)
        have HK3 := Lib.hid hK3
        have HCW := Lib.hid hcw
        clear hK3 hcw hb3
        go_wp2_with fail
        go_ret
        exact ⟨rfl, by rw [HSET.out, HN.out]; exact HK3.out, HCW.out.mono fun k _ hk => .inl hk.1⟩
theorem cancel_o {w0 w : World} {wo : Nat} {x : KW} (h : KO w0 w wo x) (hg : ErrVar w0) (hi : KInv x) (hs : x.t.Small) (i : Nat) (hil : i < x.rs.length) :
    Calls Tryz.prog 43 #[ptr wo, .int .i64 i] w fun y w' => y = .returned (.bool true) ∧ KO w0 w' wo (x.cancel i) := by
  obtain ⟨⟨num, wrt, page, data, how, read⟩, hr⟩ : ∃ r, x.rs[i]? = some r := ⟨_, List.getElem?_eq_getElem hil⟩
  have hfl := flies_o h hi.ok hs num
  obtain ⟨q, rv, F, h1, h3⟩ := h.ex
  obtain ⟨s1, s2, s3⟩ := KO.sides (w := w) (q := q) (x := x) h3 hg
  have hrm : (⟨num, wrt, page, data, how, read⟩ : KReq) ∈ x.rs := List.mem_of_getElem? hr
  have hw0 := h.err hg
  have hset := set_same x.rs i _ hr
  have hF0 : ¬ (F 0 ∧ 0 < w.heap.size) := fun x => s1 x.1
  have fin : ∀ (r' : KReq) (t' : St) (x' : KW) (k rr tt : Int), x' = ⟨x.rs.set i r', t'⟩ →
      (∀ W, QT W q x.t (fun k => F k ∧ k < w.heap.size) → ErrVar W → Calls Tryz.prog 15 #[ptr q, .int .i64 num] W fun y w' => y = .returned (plErr k rr tt) ∧ QT w' q t' (fun k => F k ∧ k < w.heap.size) ∧ Chg (fun k => F k ∧ k < w.heap.size) W w') →
      COut num wrt page data how read (x.t.flies num) k rr tt r' →
      Calls Tryz.prog 43 #[ptr wo, .int .i64 i] w fun y w' => y = .returned (.bool true) ∧ KO w0 w' wo x' := by
    rintro r' t' x' k rr tt rfl hP hO
    refine (kcancel_any wo q rv F x.t t' x.rs w i num wrt page data how read (x.t.flies num) r' k rr tt h1 hw0 hr hfl hP hO).mono ?_
    rintro y w' ⟨rfl, e1, e3⟩
    refine ⟨rfl, KO.of h.below h3 e1 (fun k hk => ?_) e3⟩
    rcases hk with hk | hk | hk
    · exact .inl (.inl hk.1)
    · exact .inl (.inr (.inl hk))
    · exact .inl (.inr (.inr hk))
  unfold KW.cancel
  rw [hr]
  simp only
  cases hf : x.t.find num with
  | none =>
    refine fin ⟨num, wrt, page, data, how, read⟩ x.t x 5 (-1) 0 (by rw [hset]) (fun W hq hv => ?_) (.no _ _ _ (.inr rfl))
    refine (cancel_none_p hq hv num hf).mono ?_
    rintro y w' ⟨rfl, e1⟩
    exact ⟨rfl, hq.below e1, chgB e1 _⟩
  | some o =>
    obtain ⟨f1, f2, f3, f4, f5⟩ := hi.find hrm hf
    simp only at f1 f2 f3 f4 f5
    simp only
    by_cases h2 : o.state < 2
    · rw [if_pos h2]
      refine fin ⟨num, wrt, page, data, if x.t.flies num then 4 else 3, read⟩ (x.t.give num) _ 0 (-1) 0 rfl (fun W hq hv => ?_) (.ok (f3.2 (by omega)))
      exact cancel_ok_p hq hi.ok hs hv hF0 num o hf h2
    · rw [if_neg h2]
      refine fin ⟨num, wrt, page, data, how, read⟩ x.t x 9 num o.tries (by rw [hset]) (fun W hq hv => ?_) (.no _ _ _ (.inl rfl))
      refine (cancel_done_p hq hv num o hf (by omega)).mono ?_
      rintro y w' ⟨rfl, e1⟩
      exact ⟨rfl, hq.below e1, chgB e1 _⟩
end Go.Proofs.YticobikhndlejaaGreatDoor

/- ask where no more is held; ask whatever is held. -/
namespace Go.Proofs.YticobikhndlejaaGreatDoor
open Go.RowKit Go.Shelf Go.Lib

set_option maxRecDepth 100000 in
theorem ask_read_full (wo q : Nat) (rv : Value) (F : Nat → Prop) (t : St) (rs : List KReq) (w : World) (page v : Int) (h : KB w wo q rv F t rs) (hg : ErrVar w) (hh : 40 ≤ t.held) (hp : 0 ≤ page ∧ page < 16) :
    Calls Tryz.prog 14 #[ptr wo, .bool false, .int .i64 page, .int .u8 v] w fun x w' => x = .returned (.bool true) ∧ Below w.heap.size w w' := by
  obtain ⟨W0, hW0⟩ : ∃ W0, w.alloc (.cells #[.int .i64 0, .bool false, .int .i64 page, .string ⟨#[]⟩, .int .i64 0, .string ⟨#[]⟩] 32) = W0 := ⟨_, rfl⟩
  have hB0 : Below w.heap.size w W0 := by rw [← hW0]; exact (Below.refl _ _).alloc (Nat.le_refl _) _
  have hr0' : W0.heap[w.heap.size]? = some (.cells #[.int .i64 0, .bool false, .int .i64 page, .string ⟨#[]⟩, .int .i64 0, .string ⟨#[]⟩] 32 (0, 0)) := by rw [← hW0]; exact World.alloc_heap_new w _
  have hK0 := h.below hB0
  have c0 := h.c0
  have HK0 := Lib.hid hK0
  have HG := Lib.hid (hg.chg (chgB hB0 fun _ => False) fun x => x)
  have HB0 := Lib.hid hB0
  have HR0 := Lib.hid hr0'
  have hwlt := lt_of_heap h.blk
  have hs0 : W0.heap.size = w.heap.size + 1 := by rw [← hW0]; simp
  have HW0 := Lib.hid hW0
  clear h hg hB0 hr0' hK0 hW0
  go_enter Tryz.func14, Tryz.ntmps14
  go_wp2_with fail
  rw [HW0.out]
  refine (read_full_p HK0.out.que HG.out hh page hp).mono ?_
  rintro x w1 ⟨rfl, hb1⟩
  have hr1 := (hb1.block _ (lt_of_heap HR0.out)).trans HR0.out
  have r0 : w1.cell? ⟨w.heap.size, 0, none⟩ = some (.int .i64 0) := cell_of hr1 rfl
  have rf : ∀ i, w1.frozen? ⟨w.heap.size, i, none⟩ = false := fun i => free_of hr1
  have hrl := lt_of_heap hr1
  have hB1 := HB0.out.trans (hb1.mono (by omega))
  have HB1 := Lib.hid hB1
  clear hr1 hb1 hB1
  go_wp2_with fail
  obtain ⟨W2, hW2⟩ : ∃ W2, (w1.setCell ⟨w.heap.size, 0, none⟩ (.int .i64 0)).alloc (.cells #[.int .i64 4, .int .i64 (-1), .int .i64 0, .bool true] 39) = W2 := ⟨_, rfl⟩
  have hb2 : Below w.heap.size w W2 := by rw [← hW2]; exact (HB1.out.setCell (p := ⟨w.heap.size, 0, none⟩) (Nat.le_refl _) _).alloc (by simpa [World.setCell] using HB1.out.size) _
  have hr2 : W2.heap[w1.heap.size]? = some (.cells #[.int .i64 4, .int .i64 (-1), .int .i64 0, .bool true] 39 (0, 0)) := by
    rw [← hW2]
    have := World.alloc_heap_new (w1.setCell ⟨w.heap.size, 0, none⟩ (.int .i64 0)) (.cells #[.int .i64 4, .int .i64 (-1), .int .i64 0, .bool true] 39)
    simpa [World.setCell] using this
  rw [hW2]
  have HB2 := Lib.hid hb2
  have HR2 := Lib.hid hr2
  clear hb2 hr2 hW2 r0 rf
  refine (fine_no 4 (-1) 0 (by omega) W2).mono ?_
  rintro x w3 ⟨rfl, hB3⟩
  have hr3 := (hB3.block _ (lt_of_heap HR2.out)).trans HR2.out
  have r0 : w3.cell? ⟨w1.heap.size, 0, none⟩ = some (.int .i64 4) := cell_of hr3 rfl
  have hB := HB2.out.trans (hB3.mono HB2.out.size)
  have HB := Lib.hid hB
  clear hr3 hB hB3
  go_wp2_with fail
  go_ret
  exact ⟨rfl, HB.out⟩

set_option maxRecDepth 100000 in
theorem ask_write_full (wo q : Nat) (rv : Value) (F : Nat → Prop) (t : St) (rs : List KReq) (w : World) (page v : Int) (h : KB w wo q rv F t rs) (hg : ErrVar w) (hh : 40 ≤ t.held) (hp : 0 ≤ page ∧ page < 16) (_hv : 0 ≤ v ∧ v ≤ 255) :
    Calls Tryz.prog 14 #[ptr wo, .bool true, .int .i64 page, .int .u8 v] w fun x w' => x = .returned (.bool true) ∧ Below w.heap.size w w' := by
  obtain ⟨ra, rc, rfl⟩ := own_slice h.row
  obtain ⟨n, hn⟩ : ∃ n, rs.length = n := ⟨_, rfl⟩
  obtain ⟨kk, hkk⟩ : ∃ kk : Int, (n : Int) % 256 = kk := ⟨_, rfl⟩
  obtain ⟨k2, hk2⟩ : ∃ k2 : Int, kk / 2 = k2 := ⟨_, rfl⟩
  have hw8 : IntKind.u8.wrap (n : Int) = kk := by rw [← hkk]; exact IntKind.wrap_u8 _
  have hkb : 0 ≤ kk ∧ kk < 256 := by omega
  have htd : kk.tdiv 2 = k2 := by rw [← hk2, Int.tdiv_eq_ediv_of_nonneg hkb.1]
  have hk2b : 0 ≤ k2 ∧ k2 < 128 := by omega
  have hw9 : IntKind.u8.wrap k2 = k2 := by rw [IntKind.wrap_u8]; omega
  obtain ⟨sd, hsd⟩ : ∃ sd, strOfNums [v, kk, k2, 1] = sd := ⟨_, rfl⟩
  obtain ⟨W0, hW0⟩ : ∃ W0, (w.alloc (.cells #[.int .i64 0, .bool true, .int .i64 page, .string ⟨#[]⟩, .int .i64 0, .string ⟨#[]⟩] 32)).alloc (.cells #[.int .u8 v, .int .u8 kk, .int .u8 k2, .int .u8 1] 5) = W0 := ⟨_, rfl⟩
  have hcv : ∀ dst, Tryz.prog.underlying dst = some .string → (convert 41 dst (.slice (some ⟨w.heap.size + 1, 0, none⟩) 4 4)).run Tryz.prog W0 = .ok (.string sd) W0 := by
    rw [← hsd]
    have hb : W0.heap[w.heap.size + 1]? = some (.cells #[.int .u8 v, .int .u8 kk, .int .u8 k2, .int .u8 1] 5 (0, 0)) := by
      rw [← hW0, show w.heap.size + 1 = (w.alloc (.cells #[.int .i64 0, .bool true, .int .i64 page, .string ⟨#[]⟩, .int .i64 0, .string ⟨#[]⟩] 32)).heap.size from by simp]; exact World.alloc_heap_new _ _
    refine run_convert_bytes_arg (P := Tryz.prog) W0 41 5 Tryz.underlying41 Tryz.underlying5 (w.heap.size + 1) 0 4 4 [v, kk, k2, 1] rfl fun i hi => ?_
    refine cell_of hb ?_
    match i, hi with
    | 0, _ => rfl
    | 1, _ => rfl
    | 2, _ => rfl
    | 3, _ => rfl
  have hcv2 := hcv 9 Tryz.underlying9
  rw [← hW0] at hcv2
  have c0 := h.c0
  have c1 := h.c1
  rw [hn] at c1
  have HK := Lib.hid h
  have HG := Lib.hid hg
  have hwlt := lt_of_heap h.blk
  clear h hg hW0 hcv
  go_enter Tryz.func14, Tryz.ntmps14
  go_wp2_with fail
  obtain ⟨WA, hWA⟩ : ∃ WA, (w.alloc (.cells #[.int .i64 0, .bool true, .int .i64 page, .string sd, .int .i64 0, .string ⟨#[]⟩] 32)).alloc (.cells #[.int .u8 v, .int .u8 kk, .int .u8 k2, .int .u8 1] 5) = WA := ⟨_, rfl⟩
  have hsA : WA.heap.size = w.heap.size + 2 := by rw [← hWA]; simp
  have hB0 : Below w.heap.size w WA := by rw [← hWA]; exact ((Below.refl _ _).alloc (Nat.le_refl _) _).alloc (by simp) _
  have hrA : WA.heap[w.heap.size]? = some (.cells #[.int .i64 0, .bool true, .int .i64 page, .string sd, .int .i64 0, .string ⟨#[]⟩] 32 (0, 0)) := by
    rw [← hWA]; exact (Below.heap_alloc _ _ _ (by simp)).trans (World.alloc_heap_new w _)
  have hKA := HK.out.below hB0
  have HKA := Lib.hid hKA
  have HGA := Lib.hid (HG.out.chg (chgB hB0 fun _ => False) fun x => x)
  have HB0 := Lib.hid hB0
  have HR0 := Lib.hid hrA
  rw [hWA]
  clear hWA hB0 hrA hKA hcv2
  refine (write_full_p HKA.out.que HGA.out hh page hp 4 _).mono ?_
  rintro x w1 ⟨rfl, hb1⟩
  have hr1 := (hb1.block _ (lt_of_heap HR0.out)).trans HR0.out
  have r0 : w1.cell? ⟨w.heap.size, 0, none⟩ = some (.int .i64 0) := cell_of hr1 rfl
  have rf : ∀ i, w1.frozen? ⟨w.heap.size, i, none⟩ = false := fun i => free_of hr1
  have hrl := lt_of_heap hr1
  have hB1 := HB0.out.trans (hb1.mono (by omega))
  have HB1 := Lib.hid hB1
  clear hr1 hb1 hB1
  go_wp2_with fail
  obtain ⟨W2, hW2⟩ : ∃ W2, (w1.setCell ⟨w.heap.size, 0, none⟩ (.int .i64 0)).alloc (.cells #[.int .i64 4, .int .i64 (-1), .int .i64 0, .bool true] 39) = W2 := ⟨_, rfl⟩
  have hb2 : Below w.heap.size w W2 := by rw [← hW2]; exact (HB1.out.setCell (p := ⟨w.heap.size, 0, none⟩) (Nat.le_refl _) _).alloc (by simpa [World.setCell] using HB1.out.size) _
  have hr2 : W2.heap[w1.heap.size]? = some (.cells #[.int .i64 4, .int .i64 (-1), .int .i64 0, .bool true] 39 (0, 0)) := by
    rw [← hW2]
    have := World.alloc_heap_new (w1.setCell ⟨w.heap.size, 0, none⟩ (.int .i64 0)) (.cells #[.int .i64 4, .int .i64 (-1), .int .i64 0, .bool true] 39)
    simpa [World.setCell] using this
  rw [hW2]
  have HB2 := Lib.hid hb2
  have HR2 := Lib.hid hr2
  clear hb2 hr2 hW2 r0 rf
  refine (fine_no 4 (-1) 0 (by omega) W2).mono ?_
  rintro x w3 ⟨rfl, hB3⟩
  have hr3 := (hB3.block _ (lt_of_heap HR2.out)).trans HR2.out
  have r0 : w3.cell? ⟨w1.heap.size, 0, none⟩ = some (.int .i64 4) := cell_of hr3 rfl
  have hB := HB2.out.trans (hB3.mono HB2.out.size)
  have HB := Lib.hid hB
  clear hr3 hB hB3
  go_wp2_with fail
  go_ret
  exact ⟨rfl, HB.out⟩

theorem askR_a {w0 w : World} {wo : Nat} {x : KW} (h : KO w0 w wo x) (hg : ErrVar w0) (hi : KInv x) (hs : x.t.Small) (page v : Int) (hp : 0 ≤ page ∧ page < 16) :
    Calls Tryz.prog 14 #[ptr wo, .bool false, .int .i64 page, .int .u8 v] w fun y w' => y = .returned (.bool true) ∧ KO w0 w' wo (x.askR page) := by
  by_cases hh : x.t.held < 40
  · exact askR_o h hg hi hs hh page v hp
  · obtain ⟨q, rv, F, h1, h3⟩ := h.ex
    refine (ask_read_full wo q rv F x.t x.rs w page v h1 (h.err hg) (by omega) hp).mono ?_
    rintro y w' ⟨rfl, e1⟩
    unfold KW.askR
    rw [if_pos (by omega)]
    exact ⟨rfl, h.later e1⟩
theorem askW_a {w0 w : World} {wo : Nat} {x : KW} (h : KO w0 w wo x) (hg : ErrVar w0) (hi : KInv x) (hs : x.t.Small) (page v : Int) (hp : 0 ≤ page ∧ page < 16) (hv : 0 ≤ v ∧ v ≤ 255) :
    Calls Tryz.prog 14 #[ptr wo, .bool true, .int .i64 page, .int .u8 v] w fun y w' => y = .returned (.bool true) ∧ KO w0 w' wo (x.askW page v) := by
  by_cases hh : x.t.held < 40
  · exact askW_o h hg hi hs hh page v hp hv
  · obtain ⟨q, rv, F, h1, h3⟩ := h.ex
    refine (ask_write_full wo q rv F x.t x.rs w page v h1 (h.err hg) (by omega) hp hv).mono ?_
    rintro y w' ⟨rfl, e1⟩
    unfold KW.askW
    rw [if_pos (by omega)]
    exact ⟨rfl, h.later e1⟩
end Go.Proofs.YticobikhndlejaaGreatDoor
