/- The law: a queue more. -/
import Derived.Test.YticobikhndlejaaGreatDoorScZC
import Derived.Test.YticobikhndlejaaGreatDoorScO
namespace Go.Proofs.YticobikhndlejaaGreatDoor
open Go.RowKit Go.Shelf Go.Lib

theorem Tryz.infoPr : (Tryz.prog.info? 114).map (fun i => (i.zero, i.size, i.bytes)) = some (some (.agg #[.pointer none, .pointer none]), 2, 16) := by kernel_rfl
section
variable {wb w W : World} {wl : Nat} {ow : Nat → Lab} {qv bv iv : Value} {ps : List LP} {bs is : List Value}
theorem LB.addQ (h : LB wb w wl ow qv bv iv ps bs is) {qv' : Value} {x m : Nat} {t : St} {F G : Nat → Prop} (hx : QT w x t F) (hm : RT w m t G) (hF : ∀ k, F k → ow k = .loose ∧ k < w.heap.size) (hG : ∀ k, G k → ow k = .loose ∧ k < w.heap.size) (hFG : ∀ k, F k → ¬ G k) (hc : Chg (fun k => k = wl ∨ qv.ownBlock = some k) w W)
    (hme : W.heap[wl]? = some (.cells #[qv', bv, iv] 71 (0, 0))) (hrow : W.ownsRow 0 114 2 qv' (ps ++ [(⟨x, m, t, t⟩ : LP)]).length ((ps ++ [(⟨x, m, t, t⟩ : LP)]).flatMap pCells)) (hqv : ∀ k, qv'.ownBlock = some k → qv.ownBlock = some k ∨ w.heap.size ≤ k) :
    ∃ ow', LB wb W wl ow' qv' bv iv (ps ++ [(⟨x, m, t, t⟩ : LP)]) bs is := by
  classical
  obtain ⟨ow', how⟩ : ∃ ow' : Nat → Lab, ow' = fun k => if F k then .x ps.length else if G k then .m ps.length else if k < w.heap.size then ow k else if qv'.ownBlock = some k then .qs else .loose := ⟨_, rfl⟩
  have oF : ∀ k, F k → ow' k = .x ps.length := fun k hk => by rw [how]; simp [hk]
  have oG : ∀ k, G k → ow' k = .m ps.length := fun k hk => by rw [how]; simp [hk, show ¬ F k from fun e => hFG k e hk]
  have o1 : ∀ k, k < w.heap.size → ow k ≠ .loose → ow' k = ow k := fun k hk hl => by rw [how]; simp [hk, show ¬ F k from fun e => hl (hF k e).1, show ¬ G k from fun e => hl (hG k e).1]
  refine ⟨ow', ?_⟩
  have h1 := h.relabel (ow' := ow') o1
  have gS : ∀ k, (k = wl ∨ qv.ownBlock = some k) → ow' k = .me ∨ ow' k = .qs := fun k hk => hk.imp (fun e => (congrArg ow' e).trans h1.own) (h1.qo k)
  have g : ∀ {m : Lab}, m ≠ .me → m ≠ .qs → ∀ k, ow' k = m → ¬ (k = wl ∨ qv.ownBlock = some k) := fun a1 a2 k hk hs => (gS k hs).elim (fun e => a1 (hk.symm.trans e)) fun e => a2 (hk.symm.trans e)
  refine ⟨h1.err.chg hc (g (by simp) (by simp) 0 h1.glob), h1.glob, hme, h1.own, hrow, fun k hk => ?_, ownsRow_chg h1.b hc fun k hk => g (by simp) (by simp) k (h1.bo k hk), h1.bo,
    ownsRow_chg h1.i hc fun k hk => g (by simp) (by simp) k (h1.io k hk), h1.io, fun j v hv => ?_, fun j v hv => ?_, fun j p hp => ?_, fun j p hp => ?_, Below.chgS h1.bel hc h1.bel.size fun k hk => g (by simp) (by simp) k (h1.old k hk), h1.old⟩
  · rcases hqv k hk with e | e
    · exact h1.qo k e
    · rw [how]
      simp [hk, show ¬ k < w.heap.size by omega, show ¬ F k from fun e2 => by have := (hF k e2).2; omega, show ¬ G k from fun e2 => by have := (hG k e2).2; omega]
  · obtain ⟨n, h2, h3⟩ := h1.br j v hv
    exact ⟨n, ownsRow_chg h2 hc fun k hk => g (by simp) (by simp) k (h3 k hk), h3⟩
  · obtain ⟨n, h2, h3⟩ := h1.ir j v hv
    exact ⟨n, ownsRow_chg h2 hc fun k hk => g (by simp) (by simp) k (h3 k hk), h3⟩
  · rcases Nat.lt_or_ge j ps.length with hlt | hge
    · rw [List.getElem?_append_left hlt] at hp
      exact (h1.xs j p hp).kept hc (g (by simp) (by simp))
    · rw [List.getElem?_append_right hge] at hp
      obtain ⟨hl, e⟩ := List.getElem?_eq_some_iff.1 hp
      have hj : j = ps.length := by simp at hl; omega
      subst hj
      simp at hp
      subst hp
      exact (hx.mono oF).kept hc (g (by simp) (by simp))
  · rcases Nat.lt_or_ge j ps.length with hlt | hge
    · rw [List.getElem?_append_left hlt] at hp
      exact (h1.ms j p hp).kept hc (g (by simp) (by simp))
    · rw [List.getElem?_append_right hge] at hp
      obtain ⟨hl, e⟩ := List.getElem?_eq_some_iff.1 hp
      have hj : j = ps.length := by simp at hl; omega
      subst hj
      simp at hp
      subst hp
      exact (hm.mono oG).kept hc (g (by simp) (by simp))
def opV (K A B C : Int) (S : ByteArray) : Value := .agg #[.int .i64 K, .int .i64 A, .int .i64 B, .int .i64 C, .string S]
set_option maxRecDepth 100000 in
set_option maxHeartbeats 2000000 in
theorem opened_no_l (h : LB wb w wl ow qv bv iv ps bs is) (K A B C : Int) (S : ByteArray) (hA : A < 1 ∨ 4 < A) :
    Calls Tryz.prog 49 #[ptr wl, opV K A B C S] w fun y w' => y = .returned (.bool true) ∧ LB wb w' wl ow qv bv iv ps bs is := by
  obtain ⟨W0, hW0⟩ : ∃ W0, w.alloc (.cells #[.int .i64 K, .int .i64 A, .int .i64 B, .int .i64 C, .string S] 73) = W0 := ⟨_, rfl⟩
  have h0 : W0.heap[w.heap.size]? = some (.cells #[.int .i64 K, .int .i64 A, .int .i64 B, .int .i64 C, .string S] 73 (0, 0)) := by rw [← hW0]; exact World.alloc_heap_new _ _
  have hb0 : Below w.heap.size w W0 := by rw [← hW0]; exact (Below.refl _ _).alloc (Nat.le_refl _) _
  have a1 : W0.cell? ⟨w.heap.size, 1, none⟩ = some (.int .i64 A) := cell_of h0 rfl
  have HL := Lib.hid h
  have HW0 := Lib.hid hW0
  have HB0 := Lib.hid hb0
  have HH0 := Lib.hid h0
  clear h hW0 hb0 h0
  unfold opV
  go_enter Tryz.func49, Tryz.ntmps49
  go_upto_region 1 with fail
  rw [HW0.out]
  go_wp2_with fail
  have hL0 := HL.out.below HB0.out
  refine (new_bad_p A W0 hL0.err hA).mono ?_
  rintro y w1 ⟨rfl, hB1⟩
  obtain ⟨W2, hW2⟩ : ∃ W2, w1.alloc (.cells #[.int .i64 1, .int .i64 (-1), .int .i64 0, .bool true] 39) = W2 := ⟨_, rfl⟩
  have hb2 : Below w1.heap.size w1 W2 := by rw [← hW2]; exact (Below.refl _ _).alloc (Nat.le_refl _) _
  have hh1 := (hB1.block _ (lt_of_heap HH0.out)).trans HH0.out
  have hh2 := (hb2.block _ (lt_of_heap hh1)).trans hh1
  have he2 : W2.heap[w1.heap.size]? = some (.cells #[.int .i64 1, .int .i64 (-1), .int .i64 0, .bool true] 39 (0, 0)) := by rw [← hW2]; exact World.alloc_heap_new _ _
  have d1 : W2.cell? ⟨w.heap.size, 1, none⟩ = some (.int .i64 A) := cell_of hh2 rfl
  have HL1 := Lib.hid ((hL0.below hB1).below hb2)
  have HE2 := Lib.hid he2
  have HW2 := Lib.hid hW2
  clear hL0 hB1 hb2 hh1 hh2 he2 hW2 a1
  go_upto_region 2 with fail
  rw [HW2.out]
  go_wp2_with fail
  refine (newQ_no A W2 hA).mono ?_
  rintro y w3 ⟨v, rfl, hB3⟩
  have he3 := (hB3.block _ (lt_of_heap HE2.out)).trans HE2.out
  have g0 : w3.cell? ⟨w1.heap.size, 0, none⟩ = some (.int .i64 1) := cell_of he3 rfl
  have g1 : w3.cell? ⟨w1.heap.size, 1, none⟩ = some (.int .i64 (-1)) := cell_of he3 rfl
  have g2 : w3.cell? ⟨w1.heap.size, 2, none⟩ = some (.int .i64 0) := cell_of he3 rfl
  have g3 : w3.cell? ⟨w1.heap.size, 3, none⟩ = some (.bool true) := cell_of he3 rfl
  have HL3 := Lib.hid (HL1.out.below hB3)
  clear hB3 he3
  go_wp2_with fail
  refine (none_l 1 w3).mono ?_
  rintro y w4 ⟨rfl, hB4⟩
  go_wp2_with fail
  go_ret
  exact ⟨rfl, HL3.out.below hB4⟩
set_option maxRecDepth 100000 in
set_option maxHeartbeats 2000000 in
theorem opened_l (h : LB wb w wl ow qv bv iv ps bs is) (hps : ps.length ≤ 1000000) (K B C : Int) (d : Nat) (S : ByteArray) (hd : 1 ≤ d ∧ d ≤ 4) :
    Calls Tryz.prog 49 #[ptr wl, opV K d B C S] w fun y w' => ∃ ow' qv' x m, y = .returned (.bool true) ∧ LB wb w' wl ow' qv' bv iv (ps ++ [(⟨x, m, St.new d, St.new d⟩ : LP)]) bs is := by
  obtain ⟨ow, h, _, hlo⟩ := h.norm
  obtain ⟨i0, hi, hz0, hz1, hz2⟩ := info_parts Tryz.infoPr
  obtain ⟨W0, hW0⟩ : ∃ W0, w.alloc (.cells #[.int .i64 K, .int .i64 d, .int .i64 B, .int .i64 C, .string S] 73) = W0 := ⟨_, rfl⟩
  have h0 : W0.heap[w.heap.size]? = some (.cells #[.int .i64 K, .int .i64 d, .int .i64 B, .int .i64 C, .string S] 73 (0, 0)) := by rw [← hW0]; exact World.alloc_heap_new _ _
  have hb0 : Below w.heap.size w W0 := by rw [← hW0]; exact (Below.refl _ _).alloc (Nat.le_refl _) _
  have a1 : W0.cell? ⟨w.heap.size, 1, none⟩ = some (.int .i64 d) := cell_of h0 rfl
  have hz0' := lt_of_heap h0
  have HL := Lib.hid h
  have HW0 := Lib.hid hW0
  have HB0 := Lib.hid hb0
  have HH0 := Lib.hid h0
  have HLO := Lib.hid hlo
  clear h hW0 hb0 h0 hlo
  unfold opV
  go_enter Tryz.func49, Tryz.ntmps49
  go_upto_region 1 with fail
  rw [HW0.out]
  go_wp2_with fail
  have hL0 := HL.out.below HB0.out
  refine (new_p d W0 hL0.err hd).mono ?_
  rintro y w1 ⟨q, rfl, hq, hB1⟩
  obtain ⟨W2, hW2⟩ : ∃ W2, w1.alloc (.cells #[.int .i64 0, .int .i64 (-1), .int .i64 0, .bool true] 39) = W2 := ⟨_, rfl⟩
  have hb2 : Below w1.heap.size w1 W2 := by rw [← hW2]; exact (Below.refl _ _).alloc (Nat.le_refl _) _
  have hz2' : W2.heap.size = w1.heap.size + 1 := by rw [← hW2]; simp
  have hh1 := (hB1.block _ (lt_of_heap HH0.out)).trans HH0.out
  have hh2 := (hb2.block _ (lt_of_heap hh1)).trans hh1
  have he2 : W2.heap[w1.heap.size]? = some (.cells #[.int .i64 0, .int .i64 (-1), .int .i64 0, .bool true] 39 (0, 0)) := by rw [← hW2]; exact World.alloc_heap_new _ _
  have d1 : W2.cell? ⟨w.heap.size, 1, none⟩ = some (.int .i64 d) := cell_of hh2 rfl
  have HL1 := Lib.hid ((hL0.below hB1).below hb2)
  have HQ := Lib.hid (hq.lt.below hb2)
  have hs1 := hB1.size
  have HE2 := Lib.hid he2
  have HW2 := Lib.hid hW2
  clear hL0 hB1 hb2 hh1 hh2 he2 hW2 a1 hq
  go_upto_region 2 with fail
  rw [HW2.out]
  go_wp2_with fail
  refine (newQ_r d W2 hd).mono ?_
  rintro y w3 ⟨m, rfl, hm, _, hB3⟩
  have he3 := (hB3.block _ (lt_of_heap HE2.out)).trans HE2.out
  have g0 : w3.cell? ⟨w1.heap.size, 0, none⟩ = some (.int .i64 0) := cell_of he3 rfl
  have g1 : w3.cell? ⟨w1.heap.size, 1, none⟩ = some (.int .i64 (-1)) := cell_of he3 rfl
  have g2 : w3.cell? ⟨w1.heap.size, 2, none⟩ = some (.int .i64 0) := cell_of he3 rfl
  have g3 : w3.cell? ⟨w1.heap.size, 3, none⟩ = some (.bool true) := cell_of he3 rfl
  have HL3 := Lib.hid (HL1.out.below hB3)
  have HQ3 := Lib.hid (HQ.out.below hB3)
  have HM3 := Lib.hid hm.lt
  have hs3 := hB3.size
  clear hB3 he3 hm
  go_wp2_with fail
  refine (fine_l w3).mono ?_
  rintro y w4 ⟨rfl, hB4⟩
  have hL4 := HL3.out.below hB4
  have HQ4 := Lib.hid (HQ3.out.below hB4)
  have HM4 := Lib.hid (HM3.out.below hB4)
  obtain ⟨qa, qc, rfl⟩ := own_slice hL4.q
  obtain ⟨np, hnp⟩ : ∃ np, ps.length = np := ⟨_, rfl⟩
  have hrow := hL4.q
  have c0 : w4.cell? ⟨wl, 0, none⟩ = some (.slice qa ps.length qc) := cell_of hL4.me rfl
  rw [hnp] at hrow c0 hps
  have HNP := Lib.hid hnp
  have HL4 := Lib.hid hL4
  have hs4 := hB4.size
  clear hL4 hB4 hnp
  go_wp2_with (at_builtin; refine wpList_append_lies _ rfl _ _ 67 rfl 0 114 i0 (.agg #[.pointer none, .pointer none]) 2 16 Tryz.underlying67 hi hz0 hz1 hz2 rfl (by decide) _ _ _ rfl (hrow.alloc _) ⟨w4.heap.size, 0, none⟩ 1 1 [ptr q, ptr m] rfl rfl (World.news_of_block (World.alloc_heap_new w4 _)) (by simp [Value.oneCell']) (by omega) ?_ ?_ ?_ (w4.heap.size + 1) (by simp) ?_)
  · unfold maxLen; omega
  · omega
  · exact Nat.zero_le _
  intro gg vc' w5 hown' hgrow hat _
  have hc5 : Chg (fun k => (Value.slice qa np qc).ownBlock = some k) w4 w5 := ((Chg.refl _ w4).alloc _).grown hgrow fun k hk => .inl hk
  have hnw : (Value.slice qa np qc).ownBlock ≠ some wl := fun e => by have h1 := HL4.out.qo wl (by rw [HNP.out]; exact e); rw [HL4.out.own] at h1; cases h1
  have hme5 := (hc5.block _ (lt_of_heap HL4.out.me) hnw).trans HL4.out.me
  have mf5 : ∀ i, w5.frozen? ⟨wl, i, none⟩ = false := fun i => free_of hme5
  have m5 : w5.cell? ⟨wl, 0, none⟩ = some (.slice qa ps.length qc) := cell_of hme5 rfl
  have HOW := Lib.hid hown'
  have HC5 := Lib.hid hc5
  have HME := Lib.hid hme5
  have HAT := Lib.hid hat
  clear hown' hc5 hgrow hme5 hnw hrow hat
  go_wp2_with fail
  go_ret
  have hs : Chg (fun k => k = wl) w5 (w5.setCell ⟨wl, 0, none⟩ (.slice (some ⟨gg, 0, none⟩) (np + 1) vc')) := chg_set _
  have hne : ∀ k, (Value.slice (some ⟨gg, 0, none⟩) (np + 1) vc').ownBlock = some k → k ≠ wl := fun k hk e => by
    obtain ⟨cur2, hcur⟩ := own_heap HOW.out hk
    rw [e] at hcur
    exact ne_of_heap hcur HME.out (by simp) rfl
  have hz0'' := HB0.out.size
  obtain ⟨ow', h8⟩ := HL4.out.addQ (qv' := .slice (some ⟨gg, 0, none⟩) (np + 1) vc') (W := w5.setCell ⟨wl, 0, none⟩ (.slice (some ⟨gg, 0, none⟩) (np + 1) vc')) HQ4.out HM4.out (fun k hk => ⟨HLO.out k (by have := hk.1; omega), by omega⟩) (fun k hk => ⟨HLO.out k (by have := hk.1; omega), by omega⟩) (fun k h1 h2 => by have := h1.2; have := h2.1; omega)
    ((HC5.out.mono fun k _ hk => .inr (by rw [HNP.out]; exact hk)).then (hs.mono fun k _ hk => .inl hk)) (heap_setCell (i := 0) _ HME.out) (by rw [List.length_append, HNP.out, List.flatMap_append]; exact ownsRow_chg HOW.out hs fun k hk e => hne k hk e) fun k hk => by
      rw [HNP.out]
      simp only [Value.ownBlock, Option.some.injEq] at hk; subst hk
      exact HAT.out.imp id fun e => by omega
  exact ⟨ow', _, q, m, rfl, h8⟩
end
end Go.Proofs.YticobikhndlejaaGreatDoor

/- Read, Write of no page, of no page's bytes. -/
namespace Go.Proofs.YticobikhndlejaaGreatDoor
open Go.RowKit Go.Shelf Go.Lib

theorem noPage_x (p : Int) (w : World) (h : p < 0 ∨ 16 ≤ p) :
    Calls Tryz.prog 76 #[.int .i64 p] w fun e w' => e = .returned (.bool false) ∧ w = w' := by
  rcases h with h | h
  · have h' : decide (0 ≤ p) = false := by simp; omega
    go_enter Tryz.func76, Tryz.ntmps76
    go_wp2
    go_ret
    exact ⟨rfl, rfl⟩
  · have h' : decide (0 ≤ p) = true := by simp; omega
    have h2 : decide (p < 16) = false := by simp; omega
    go_enter Tryz.func76, Tryz.ntmps76
    go_wp2
    go_ret
    exact ⟨rfl, rfl⟩
theorem readPage_x (v : Value) (page : Int) (w : World) (hp : page < 0 ∨ 16 ≤ page) : Calls Tryz.prog 46 #[v, .int .i64 page] w fun x w' => x = .returned (.tuple #[.int .i64 0, errK 2]) ∧ w = w' := by
  go_enter Tryz.func46, Tryz.ntmps46
  go_wp2_with fail
  refine (noPage_x page w hp).mono ?_
  rintro y w1 ⟨rfl, rfl⟩
  go_wp2_with fail
  go_ret2
  exact ⟨rfl, rfl⟩
theorem yesPage_x (p : Int) (w : World) (h0 : 0 ≤ p) (h1 : p < 16) :
    Calls Tryz.prog 76 #[.int .i64 p] w fun e w' => e = .returned (.bool true) ∧ w = w' := by
  go_enter Tryz.func76, Tryz.ntmps76
  go_wp2
  go_ret
  exact ⟨rfl, rfl⟩
theorem writePage_x (v d : Value) (page : Int) (w : World) (hp : page < 0 ∨ 16 ≤ page) : Calls Tryz.prog 60 #[v, .int .i64 page, d] w fun x w' => x = .returned (.tuple #[.int .i64 0, errK 2]) ∧ w = w' := by
  go_enter Tryz.func60, Tryz.ntmps60
  go_wp2_with fail
  refine (noPage_x page w hp).mono ?_
  rintro y w1 ⟨rfl, rfl⟩
  go_wp2_with fail
  go_ret2
  exact ⟨rfl, rfl⟩
theorem writeData_x (v : Value) (page : Int) (a : Option Addr) (n c : Nat) (w : World) (hp : 0 ≤ page ∧ page < 16) (hn : n ≠ 4) (hn1 : n ≤ 9223372036854775807) : Calls Tryz.prog 60 #[v, .int .i64 page, .slice a n c] w fun x w' => x = .returned (.tuple #[.int .i64 0, errK 3]) ∧ w = w' := by
  have h4 : ((n : Int) == 4) = false := by rw [beq_eq_false_iff_ne]; omega
  go_enter Tryz.func60, Tryz.ntmps60
  go_wp2_with fail
  refine (yesPage_x page w hp.1 hp.2).mono ?_
  rintro y w1 ⟨rfl, rfl⟩
  go_wp2_with fail
  go_ret2
  exact ⟨rfl, rfl⟩
section
variable {q : Nat} {t : St} {F : Nat → Prop} {w : World}
theorem read_page_p (hg : ErrVar w) (page : Int) (hp : page < 0 ∨ 16 ≤ page) :
    Calls Tryz.prog 25 #[ptr q, .int .i64 page] w fun x w' => x = .returned (.tuple #[.int .i64 0, plErr 2 (-1) 0]) ∧ Below w.heap.size w w' := by
  refine (plRead_of q page 2 (-1) 0 w (fun X err w' => X = .int .i64 0 ∧ err = errK 2 ∧ w' = w.alloc zErr) ?_ ?_).mono ?_
  · exact (readPage_x (ptr q) page (w.alloc zErr) hp).mono fun x w' ⟨h1, h2⟩ => ⟨_, _, h1, rfl, rfl, h2.symm⟩
  · rintro X err w' ⟨rfl, rfl, rfl⟩
    exact ⟨hg.alloc _, .kind 2 (by omega), zErr_alloc w⟩
  · rintro x w' ⟨X, err, w1, rfl, ⟨rfl, rfl, rfl⟩, hc⟩
    exact ⟨rfl, Chg.below (((Chg.refl (fun _ => False) w).alloc _).trans (hc.mono fun k _ hk => .inr (by omega)))⟩
theorem write_page_p (hg : ErrVar w) (v : Value) (page : Int) (hp : page < 0 ∨ 16 ≤ page) :
    Calls Tryz.prog 33 #[ptr q, .int .i64 page, v] w fun x w' => x = .returned (.tuple #[.int .i64 0, plErr 2 (-1) 0]) ∧ Below w.heap.size w w' := by
  refine (plWrite_of q v page 2 (-1) 0 w (fun X err w' => X = .int .i64 0 ∧ err = errK 2 ∧ w' = w.alloc zErr) ?_ ?_).mono ?_
  · exact (writePage_x (ptr q) v page (w.alloc zErr) hp).mono fun x w' ⟨h1, h2⟩ => ⟨_, _, h1, rfl, rfl, h2.symm⟩
  · rintro X err w' ⟨rfl, rfl, rfl⟩
    exact ⟨hg.alloc _, .kind 2 (by omega), zErr_alloc w⟩
  · rintro x w' ⟨X, err, w1, rfl, ⟨rfl, rfl, rfl⟩, hc⟩
    exact ⟨rfl, Chg.below (((Chg.refl (fun _ => False) w).alloc _).trans (hc.mono fun k _ hk => .inr (by omega)))⟩
theorem write_data_p (hg : ErrVar w) (a : Option Addr) (n c : Nat) (page : Int) (hp : 0 ≤ page ∧ page < 16) (hn : n ≠ 4) (hn1 : n ≤ 9223372036854775807) :
    Calls Tryz.prog 33 #[ptr q, .int .i64 page, .slice a n c] w fun x w' => x = .returned (.tuple #[.int .i64 0, plErr 3 (-1) 0]) ∧ Below w.heap.size w w' := by
  refine (plWrite_of q _ page 3 (-1) 0 w (fun X err w' => X = .int .i64 0 ∧ err = errK 3 ∧ w' = w.alloc zErr) ?_ ?_).mono ?_
  · exact (writeData_x (ptr q) page a n c (w.alloc zErr) hp hn hn1).mono fun x w' ⟨h1, h2⟩ => ⟨_, _, h1, rfl, rfl, h2.symm⟩
  · rintro X err w' ⟨rfl, rfl, rfl⟩
    exact ⟨hg.alloc _, .kind 3 (by omega), zErr_alloc w⟩
  · rintro x w' ⟨X, err, w1, rfl, ⟨rfl, rfl, rfl⟩, hc⟩
    exact ⟨rfl, Chg.below (((Chg.refl (fun _ => False) w).alloc _).trans (hc.mono fun k _ hk => .inr (by omega)))⟩
end
end Go.Proofs.YticobikhndlejaaGreatDoor

/- The law: asked. -/
namespace Go.Proofs.YticobikhndlejaaGreatDoor
open Go.RowKit Go.Shelf Go.Lib

/-- What Read says and does, on both sides. -/
theorem read_both (t : St) (hk : t.Ok) (hsm : t.Small) (page : Int) : ∃ (num k : Int) (T : St), T.Ok ∧ T.last ≤ t.last + 1 ∧ T.now = t.now ∧
    (∀ (w : World) (q : Nat) (F : Nat → Prop), QT w q t F → ErrVar w → ¬ F 0 → Calls Tryz.prog 25 #[ptr q, .int .i64 page] w fun y w' => ∃ F', y = .returned (.tuple #[.int .i64 num, plErr k (-1) 0]) ∧ QT w' q T F' ∧ (∀ k, F' k → F k ∨ w.heap.size ≤ k) ∧ Chg F w w') ∧
    (∀ (w : World) (q : Nat) (G : Nat → Prop), RT w q t G → Calls Tryz.prog 79 #[ptr q, .bool false, .int .i64 page, .string ⟨#[]⟩] w fun y w' => ∃ G', y = .returned (.tuple #[.int .i64 num, .int .i64 k]) ∧ RT w' q T G' ∧ (∀ k, G' k → G k ∨ w.heap.size ≤ k) ∧ Chg G w w') := by
  by_cases hp : 0 ≤ page ∧ page < 16
  · by_cases hh : t.held < 40
    · refine ⟨t.last + 1, 0, t.add false page ⟨0, 0, 0, 0⟩, ok_add hk hh false page hp _ (by unfold BOk; decide), Int.le_refl _, rfl, fun w q F h hg h0 => ?_, fun w q G h => ?_⟩
      · exact (read_p h hk hsm hg h0 hh page hp).mono fun x w' ⟨e, h1, h2⟩ => ⟨_, e, h1, fun k hk => hk.imp id fun e => by omega, h2⟩
      · exact ask_r_r h hk hsm false page ⟨0, 0, 0, 0⟩ ⟨#[]⟩ hp (fun e => by cases e) hh
    · refine ⟨0, 4, t, hk, by omega, rfl, fun w q F h hg _ => ?_, fun w q G h => ?_⟩
      · exact (read_full_p h hg (by omega) page hp).mono fun x w' ⟨e, hb⟩ => ⟨F, e, h.below hb, fun k hk => .inl hk, chgB hb _⟩
      · exact (ask_full_r h hk hsm false page ⟨#[]⟩ hp (fun e => by cases e) (by omega)).mono fun x w' ⟨e, hb⟩ => ⟨G, e, h.below hb, fun k hk => .inl hk, chgB hb _⟩
  · have hp' : page < 0 ∨ 16 ≤ page := by omega
    refine ⟨0, 2, t, hk, by omega, rfl, fun w q F h hg _ => ?_, fun w q G h => ?_⟩
    · exact (read_page_p hg page hp').mono fun x w' ⟨e, hb⟩ => ⟨F, e, h.below hb, fun k hk => .inl hk, chgB hb _⟩
    · exact (ask_page_r false page ⟨#[]⟩ w (ptr q) hp').mono fun x w' ⟨e, hb⟩ => ⟨G, e, hb ▸ h, fun k hk => .inl hk, hb ▸ Chg.refl _ _⟩
def b4of (s : ByteArray) : B4 := ⟨s.data.toList.getD 0 0 |>.toNat, s.data.toList.getD 1 0 |>.toNat, s.data.toList.getD 2 0 |>.toNat, s.data.toList.getD 3 0 |>.toNat⟩
theorem b4of_ok (s : ByteArray) : BOk (b4of s) := by
  unfold BOk b4of
  have g : ∀ b : UInt8, (0 : Int) ≤ (b.toNat : Int) ∧ (b.toNat : Int) ≤ 255 := fun b => by have := b.toNat_lt; omega
  exact ⟨g _, g _, g _, g _⟩
theorem str4_b4of (s : ByteArray) (h : s.size = 4) : s = str4 (b4of s) := by
  obtain ⟨⟨l⟩⟩ := s
  match l, h with
  | [a, b, c, d], _ =>
    simp [str4, b4of, strOfNums]
/-- What Write says and does, on both sides. -/
theorem write_both (t : St) (hk : t.Ok) (hsm : t.Small) (page : Int) (S : ByteArray) (hS : S.size ≤ 1000000) : ∃ (num k : Int) (T : St), T.Ok ∧ T.last ≤ t.last + 1 ∧ T.now = t.now ∧
    (∀ (w : World) (q : Nat) (F : Nat → Prop) (a : Option Addr) (c : Nat), QT w q t F → ErrVar w → ¬ F 0 → (S.size = 4 → DatV w (.slice a 4 c) (b4of S)) → Calls Tryz.prog 33 #[ptr q, .int .i64 page, .slice a S.size c] w fun y w' => ∃ F', y = .returned (.tuple #[.int .i64 num, plErr k (-1) 0]) ∧ QT w' q T F' ∧ (∀ k, F' k → F k ∨ w.heap.size ≤ k) ∧ Chg F w w') ∧
    (∀ (w : World) (q : Nat) (G : Nat → Prop), RT w q t G → Calls Tryz.prog 79 #[ptr q, .bool true, .int .i64 page, .string S] w fun y w' => ∃ G', y = .returned (.tuple #[.int .i64 num, .int .i64 k]) ∧ RT w' q T G' ∧ (∀ k, G' k → G k ∨ w.heap.size ≤ k) ∧ Chg G w w') := by
  by_cases hp : 0 ≤ page ∧ page < 16
  · by_cases h4 : S.size = 4
    · rw [h4]
      by_cases hh : t.held < 40
      · refine ⟨t.last + 1, 0, t.add true page (b4of S), ok_add hk hh true page hp _ (b4of_ok S), Int.le_refl _, rfl, fun w q F a c h hg h0 hd => ?_, fun w q G h => ?_⟩
        · exact (write_p h hk hsm hg h0 hh page hp (b4of S) c a (hd rfl)).mono fun x w' ⟨e, h1, h2⟩ => ⟨_, e, h1, fun k hk => hk.imp id fun e => by omega, h2⟩
        · exact ask_r_r h hk hsm true page (b4of S) S hp (fun _ => str4_b4of S h4) hh
      · refine ⟨0, 4, t, hk, by omega, rfl, fun w q F a c h hg _ _ => ?_, fun w q G h => ?_⟩
        · exact (write_full_p h hg (by omega) page hp c a).mono fun x w' ⟨e, hb⟩ => ⟨F, e, h.below hb, fun k hk => .inl hk, chgB hb _⟩
        · exact (ask_full_r h hk hsm true page S hp (fun _ => h4) (by omega)).mono fun x w' ⟨e, hb⟩ => ⟨G, e, h.below hb, fun k hk => .inl hk, chgB hb _⟩
    · refine ⟨0, 3, t, hk, by omega, rfl, fun w q F a c h hg _ _ => ?_, fun w q G h => ?_⟩
      · exact (write_data_p hg a S.size c page hp h4 (by omega)).mono fun x w' ⟨e, hb⟩ => ⟨F, e, h.below hb, fun k hk => .inl hk, chgB hb _⟩
      · exact (ask_data_r page S w (ptr q) hp h4 (by unfold maxLen; omega)).mono fun x w' ⟨e, hb⟩ => ⟨G, e, hb ▸ h, fun k hk => .inl hk, hb ▸ Chg.refl _ _⟩
  · have hp' : page < 0 ∨ 16 ≤ page := by omega
    refine ⟨0, 2, t, hk, by omega, rfl, fun w q F a c h hg _ _ => ?_, fun w q G h => ?_⟩
    · exact (write_page_p hg _ page hp').mono fun x w' ⟨e, hb⟩ => ⟨F, e, h.below hb, fun k hk => .inl hk, chgB hb _⟩
    · exact (ask_page_r true page S w (ptr q) hp').mono fun x w' ⟨e, hb⟩ => ⟨G, e, hb ▸ h, fun k hk => .inl hk, hb ▸ Chg.refl _ _⟩
end Go.Proofs.YticobikhndlejaaGreatDoor

/- The law: asked, the read branch. -/
namespace Go.Proofs.YticobikhndlejaaGreatDoor
open Go.RowKit Go.Shelf Go.Lib
section
variable {wb w : World} {wl : Nat} {ow : Nat → Lab} {qv bv iv : Value} {ps : List LP} {bs is : List Value}
set_option maxRecDepth 100000 in
set_option maxHeartbeats 2000000 in
theorem asked_read_l (h : LB wb w wl ow qv bv iv ps bs is) {j : Nat} {p : LP} (hp : ps[j]? = some p) (htu : p.u = p.t) (hk : p.t.Ok) (hsm : p.t.Small) (B A C : Int) (S : ByteArray) :
    Calls Tryz.prog 51 #[.agg #[ptr p.x, ptr p.m], opV 2 A B C S] w fun y w' => ∃ ow' T, y = .returned (.bool true) ∧ LB wb w' wl ow' qv bv iv (ps.set j { p with t := T, u := T }) bs is ∧ T.Ok ∧ T.last ≤ p.t.last + 1 ∧ T.now = p.t.now := by
  obtain ⟨ow, h, _, hlo⟩ := h.norm
  obtain ⟨num, k, T, hT, hTl, hTn, hX, hM⟩ := read_both p.t hk hsm B
  obtain ⟨px, hpx⟩ : ∃ px, p.x = px := ⟨_, rfl⟩
  obtain ⟨pm, hpm⟩ : ∃ pm, p.m = pm := ⟨_, rfl⟩
  rw [hpx, hpm]
  obtain ⟨W0, hW0⟩ : ∃ W0, (w.alloc (.cells #[ptr px, ptr pm] 114)).alloc (.cells #[.int .i64 2, .int .i64 A, .int .i64 B, .int .i64 C, .string S] 73) = W0 := ⟨_, rfl⟩
  have hb0 : Below w.heap.size w W0 := by rw [← hW0]; exact ((Below.refl _ _).alloc (Nat.le_refl _) _).alloc (by simp) _
  have ho0 : W0.heap[w.heap.size + 1]? = some (.cells #[.int .i64 2, .int .i64 A, .int .i64 B, .int .i64 C, .string S] 73 (0, 0)) := by
    rw [← hW0]
    have := World.alloc_heap_new (w.alloc (.cells #[ptr px, ptr pm] 114)) (.cells #[.int .i64 2, .int .i64 A, .int .i64 B, .int .i64 C, .string S] 73)
    rwa [show (w.alloc (.cells #[ptr px, ptr pm] 114)).heap.size = w.heap.size + 1 from by simp] at this
  have h0 : W0.heap[w.heap.size]? = some (.cells #[ptr px, ptr pm] 114 (0, 0)) := by
    rw [← hW0]
    refine (Below.heap_alloc _ _ _ (by simp)).trans ?_
    exact World.alloc_heap_new w _
  have z0 : W0.cell? ⟨w.heap.size + 1, 0, none⟩ = some (.int .i64 2) := cell_of ho0 rfl
  have z2 : W0.cell? ⟨w.heap.size + 1, 2, none⟩ = some (.int .i64 B) := cell_of ho0 rfl
  have a0 : W0.cell? ⟨w.heap.size, 0, none⟩ = some (ptr px) := cell_of h0 rfl
  have a1 : W0.cell? ⟨w.heap.size, 1, none⟩ = some (ptr pm) := cell_of h0 rfl
  have HL := Lib.hid h
  have HP := Lib.hid (And.intro hp (And.intro htu (And.intro hT (And.intro hTl hTn))))
  have HX := Lib.hid hX
  have HM := Lib.hid hM
  have HW0 := Lib.hid hW0
  have HB0 := Lib.hid hb0
  have HH0 := Lib.hid h0
  have HHO := Lib.hid ho0
  have HLO := Lib.hid hlo
  have HPX := Lib.hid (And.intro hpx hpm)
  clear h hp htu hX hM hW0 hb0 h0 ho0 hT hTl hTn hlo hpx hpm
  unfold opV
  go_enter Tryz.func51, Tryz.ntmps51
  go_upto_region 1 with fail
  rw [HW0.out]
  go_wp2_with fail
  have hL0 := HL.out.below HB0.out
  refine (HX.out W0 px (fun k => ow k = .x j) (by rw [← HPX.out.1]; exact hL0.xs j p HP.out.1) hL0.err (hL0.nf j)).mono ?_
  rintro y w1 ⟨F', rfl, hq, hF, hc⟩
  obtain ⟨ow1, hL1, ho1, ho2⟩ := hL0.stepX HP.out.1 (by rw [HPX.out.1]; exact hq.lt) (fun k (hk : F' k ∧ k < w1.heap.size) => hF k hk.1) hc
  have hz0 := lt_of_heap HH0.out
  have hlz : ow w.heap.size = .loose := HLO.out _ (Nat.le_refl _)
  have hh1 := (hc.block _ hz0 (fun e => by rw [hlz] at e; cases e)).trans HH0.out
  obtain ⟨W2, hW2⟩ : ∃ W2, w1.alloc (.cells #[.int .i64 k, .int .i64 (-1), .int .i64 0, .bool true] 39) = W2 := ⟨_, rfl⟩
  have hb2 : Below w1.heap.size w1 W2 := by rw [← hW2]; exact (Below.refl _ _).alloc (Nat.le_refl _) _
  have hh2 := (hb2.block _ (lt_of_heap hh1)).trans hh1
  have he2 : W2.heap[w1.heap.size]? = some (.cells #[.int .i64 k, .int .i64 (-1), .int .i64 0, .bool true] 39 (0, 0)) := by rw [← hW2]; exact World.alloc_heap_new _ _
  have d1 : W2.cell? ⟨w.heap.size, 1, none⟩ = some (ptr pm) := cell_of hh2 rfl
  have hz1 := hc.size
  have hzo := lt_of_heap HHO.out
  have hho1 := (hc.block _ hzo (fun e => by rw [HLO.out _ (Nat.le_succ _)] at e; cases e)).trans HHO.out
  have hho2 := (hb2.block _ (lt_of_heap hho1)).trans hho1
  have dB : W2.cell? ⟨w.heap.size + 1, 2, none⟩ = some (.int .i64 B) := cell_of hho2 rfl
  have HL1 := Lib.hid (hL1.below hb2)
  have HO := Lib.hid (And.intro ho1 ho2)
  have HE2 := Lib.hid he2
  have HW2 := Lib.hid hW2
  have HZ2 := Lib.hid hb2
  clear hq hF hc hL0 hL1 ho1 ho2 hh1 hb2 hh2 he2 hW2 a0 a1 hho1 hho2 z0 z2
  go_upto_region 3 with fail
  rw [HW2.out]
  go_wp2_with fail
  have hp2 := set_at HP.out.1 { p with t := T }
  have hm2 := HL1.out.ms j _ hp2
  simp only at hm2
  rw [HPX.out.2, HP.out.2.1] at hm2
  refine (HM.out W2 pm (fun k => ow1 k = .m j) hm2).mono ?_
  rintro y w3 ⟨G', rfl, hq, hG, hc⟩
  obtain ⟨ow2, hL2, ho3, _⟩ := HL1.out.stepM hp2 (u' := T) (by simp only; rw [HPX.out.2]; exact hq.lt) (fun k (hk : G' k ∧ k < w3.heap.size) => hG k hk.1) hc
  rw [List.set_set] at hL2
  have hle : ow1 w1.heap.size = .loose := HO.out.2 _ hz1 (fun e => by omega)
  have he3 := (hc.block _ (lt_of_heap HE2.out) (fun e => by rw [hle] at e; cases e)).trans HE2.out
  have g0 : w3.cell? ⟨w1.heap.size, 0, none⟩ = some (.int .i64 k) := cell_of he3 rfl
  have g1 : w3.cell? ⟨w1.heap.size, 1, none⟩ = some (.int .i64 (-1)) := cell_of he3 rfl
  have g2 : w3.cell? ⟨w1.heap.size, 2, none⟩ = some (.int .i64 0) := cell_of he3 rfl
  have g3 : w3.cell? ⟨w1.heap.size, 3, none⟩ = some (.bool true) := cell_of he3 rfl
  have HL2 := Lib.hid hL2
  clear hp2 hm2 hq hG hc hL2 ho3 hle he3
  go_wp2_with fail
  refine (none_l k w3).mono ?_
  rintro y w4 ⟨rfl, hB4⟩
  go_wp2_with fail
  go_ret
  exact ⟨ow2, T, rfl, by rw [← HPX.out.1, ← HPX.out.2]; exact HL2.out.below hB4, HP.out.2.2⟩
end
end Go.Proofs.YticobikhndlejaaGreatDoor

/- The law: Complete on both sides. -/
namespace Go.Proofs.YticobikhndlejaaGreatDoor
open Go.RowKit Go.Shelf Go.Lib

theorem complete_both (t : St) (hk : t.Ok) (hsm : t.Small) (n : Int) (fault : Bool) : ∃ (ok : Bool) (k : Int) (T : St), ((ok = false ∧ k = 10) ∨ (ok = true ∧ k = 0)) ∧ T.Ok ∧ T.last = t.last ∧ T.now = t.now ∧
    (∀ (w : World) (q : Nat) (F : Nat → Prop), QT w q t F → ErrVar w → ¬ F 0 → Calls Tryz.prog 19 #[ptr q, .int .i64 n, .bool fault] w fun y w' => ∃ F', y = .returned (plErr k (-1) 0) ∧ QT w' q T F' ∧ (∀ k, F' k → F k ∨ w.heap.size ≤ k) ∧ Chg F w w') ∧
    (∀ (w : World) (q : Nat) (G : Nat → Prop), RT w q t G → Calls Tryz.prog 55 #[ptr q, .int .i64 n, .bool fault] w fun y w' => ∃ G', y = .returned (.bool ok) ∧ RT w' q T G' ∧ (∀ k, G' k → G k ∨ w.heap.size ≤ k) ∧ Chg G w w') := by
  by_cases hn : n < 0 ∨ (t.cs.length : Int) ≤ n
  · refine ⟨false, 10, t, .inl ⟨rfl, rfl⟩, hk, rfl, rfl, fun w q F h hg _ => ?_, fun w q G h => ?_⟩
    · exact (complete_no_p h hg n fault hn).mono fun x w' ⟨e, hb⟩ => ⟨F, e, h.below hb, fun k hk => .inl hk, chgB hb _⟩
    · exact (complete_no_r w h n fault hn).mono fun x w' ⟨e, hb⟩ => ⟨G, e, hb ▸ h, fun k hk => .inl hk, hb ▸ Chg.refl _ _⟩
  · obtain ⟨i, rfl⟩ : ∃ i : Nat, n = i := ⟨n.toNat, by omega⟩
    obtain ⟨c, hc⟩ : ∃ c, t.cs[i]? = some c := ⟨_, List.getElem?_eq_getElem (by omega)⟩
    have hT : t.complete i fault = some (c.nums.foldl (St.land fault) { t with cs := t.cs.eraseIdx i }) := by unfold St.complete; rw [hc]
    obtain ⟨_, _, _, e4, e5, _⟩ := lands_same fault c.nums { t with cs := t.cs.eraseIdx i }
    refine ⟨true, 0, _, .inr ⟨rfl, rfl⟩, ok_complete hk hT, e5, e4, fun w q F h hg h0 => ?_, fun w q G h => ?_⟩
    · exact (complete_p h hk hsm hg h0 i fault _ hT).mono fun x w' ⟨e, h1, h2⟩ => ⟨F, e, h1, fun k hk => .inl hk, h2⟩
    · exact complete_r w h hk hsm i fault _ hT
end Go.Proofs.YticobikhndlejaaGreatDoor
