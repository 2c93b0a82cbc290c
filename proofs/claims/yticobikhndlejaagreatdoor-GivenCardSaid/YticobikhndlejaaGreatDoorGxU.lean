/- Two of the statements' worlds side by side, in memory that the law has laid itself. -/
import Derived.Test.YticobikhndlejaaGreatDoorGxT
import Derived.Test.YticobikhndlejaaGreatDoorGxS
namespace Go.Proofs.YticobikhndlejaaGreatDoor
open Go.RowKit Go.Shelf Go.Lib

theorem flat_three (v : Value) (r' : KReq) : ∀ (rs : List KReq) (i : Nat) (r : KReq), rs[i]? = some r → kCells r' = (kCells r).set 3 v →
    (rs.set i r').flatMap kCells = (rs.flatMap kCells).set (i * 6 + 3) v
  | [], _, _, hi, _ => by simp at hi
  | x :: rs, 0, r, hi, h => by
    simp at hi
    subst hi
    simp only [List.set_cons_zero, List.flatMap_cons, h]
    rw [List.set_append, if_pos (by simp [kCells])]
  | x :: rs, i + 1, r, hi, h => by
    have ih := flat_three v r' rs i r (by simpa using hi) h
    simp only [List.set_cons_succ, List.flatMap_cons, ih]
    have hl : (kCells x).length = 6 := rfl
    rw [List.set_append, if_neg (by omega)]
    congr 2
    omega
/-- The data of one are written. -/
theorem KB.data {w : World} {wo q g n cap : Nat} {F : Nat → Prop} {t : St} {rs : List KReq} {i : Nat} {num : Int} {wrt : Bool} {page : Int} {data : ByteArray} {how : Int} {read : ByteArray} (h : KB w wo q (.slice (some ⟨g, 0, none⟩) n cap) F t rs) (hi : rs[i]? = some ⟨num, wrt, page, data, how, read⟩) (d' : ByteArray) :
    KB (w.setCell ⟨g, i * 6 + 3, none⟩ (.string d')) wo q (.slice (some ⟨g, 0, none⟩) n cap) F t (rs.set i ⟨num, wrt, page, d', how, read⟩) := by
  obtain ⟨g', cap', cur, e, hg2, hg3, hg4, hg5, hg6, hcell⟩ := h.cells hi
  simp only [Value.slice.injEq, Option.some.injEq, Addr.mk.injEq] at e
  obtain ⟨⟨rfl, _⟩, rfl, rfl⟩ := e
  have hset : Chg (fun k => k = g) w (w.setCell ⟨g, i * 6 + 3, none⟩ (.string d')) := (Chg.refl (fun k => k = g) w).setCell (p := ⟨g, i * 6 + 3, none⟩) (.inl rfl) _
  have hgF : ¬ F g := h.nor g rfl
  refine ⟨(hset.block wo (lt_of_heap h.blk) fun e => h.ne rfl e).trans h.blk, ⟨?_, .inr ⟨g, cap, cur.setIfInBounds (i * 6 + 3) (.string d'), ?_, Nat.zero_le _, heap_setCell _ hg2, ?_, hg4, ?_, ?_⟩⟩, h.que.kept hset fun k hk e => hgF (e ▸ hk), h.now, h.nor⟩
  · rw [flat_len]
  · simp
  · simpa using hg3
  · simp [hg5]
  · rw [Array.toList_setIfInBounds, List.length_set, List.take_set, hg6]
    exact (flat_three (.string d') ⟨num, wrt, page, d', how, read⟩ rs i _ hi rfl).symm
/-- Two worlds; their blocks lie from w0's end on, ahead of m. -/
structure G2 (w0 : World) (m : Nat) (w : World) (wa wb : Nat) (a b : St) (na nb : Nat) : Prop where
  ex : ∃ qa va Fa ra qb vb Fb rb, KB w wa qa va Fa a ra ∧ KB w wb qb vb Fb b rb ∧ ra.length = na ∧ rb.length = nb ∧ (∀ k, KFoot wa va Fa k → w0.heap.size ≤ k ∧ k < m) ∧ (∀ k, KFoot wb vb Fb k → w0.heap.size ≤ k ∧ k < m) ∧ ∀ k, KFoot wa va Fa k → ¬ KFoot wb vb Fb k
  below : Below w0.heap.size w0 w
  le : m ≤ w.heap.size
  ge : w0.heap.size ≤ m
theorem G2.symm {w0 w : World} {m wa wb : Nat} {a b : St} {na nb : Nat} (h : G2 w0 m w wa wb a b na nb) : G2 w0 m w wb wa b a nb na := by
  obtain ⟨qa, va, Fa, ra, qb, vb, Fb, rb, h1, h2, h3, h4, h5, h6, h7⟩ := h.ex
  exact ⟨⟨qb, vb, Fb, rb, qa, va, Fa, ra, h2, h1, h4, h3, h6, h5, fun k x y => h7 k y x⟩, h.below, h.le, h.ge⟩
theorem chgM {w w' : World} {m : Nat} (h : Below m w w') : Chg (fun k => m ≤ k) w w' := ⟨h.os, h.tape, h.output, h.size, fun k _ hn => h.block k (by omega)⟩
theorem G2.later {w0 w w' : World} {m wa wb : Nat} {a b : St} {na nb : Nat} (h : G2 w0 m w wa wb a b na nb) (hb : Below m w w') : G2 w0 m w' wa wb a b na nb := by
  obtain ⟨qa, va, Fa, ra, qb, vb, Fb, rb, h1, h2, h3, h4, h5, h6, h7⟩ := h.ex
  have hc := chgM hb
  exact ⟨⟨qa, va, Fa, ra, qb, vb, Fb, rb, h1.kept hc fun k hk => by have := (h5 k hk).2; omega, h2.kept hc fun k hk => by have := (h6 k hk).2; omega, h3, h4, h5, h6, h7⟩, h.below.trans (hb.mono h.ge), Nat.le_trans h.le hb.size, h.ge⟩
theorem G2.grow {w0 w : World} {m m' wa wb : Nat} {a b : St} {na nb : Nat} (h : G2 w0 m w wa wb a b na nb) (hm : m ≤ m') (hl : m' ≤ w.heap.size) : G2 w0 m' w wa wb a b na nb := by
  obtain ⟨qa, va, Fa, ra, qb, vb, Fb, rb, h1, h2, h3, h4, h5, h6, h7⟩ := h.ex
  exact ⟨⟨qa, va, Fa, ra, qb, vb, Fb, rb, h1, h2, h3, h4, fun k hk => ⟨(h5 k hk).1, by have := (h5 k hk).2; omega⟩, fun k hk => ⟨(h6 k hk).1, by have := (h6 k hk).2; omega⟩, h7⟩, h.below, hl, Nat.le_trans h.ge hm⟩
theorem G2.err {w0 w : World} {m wa wb : Nat} {a b : St} {na nb : Nat} (h : G2 w0 m w wa wb a b na nb) (hg : ErrVar w0) : ErrVar w := hg.chg (chgB h.below fun _ => False) fun x => x
/-- Feet of a world that lies. -/
theorem KB.foot {w : World} {wo q : Nat} {rv : Value} {F : Nat → Prop} {t : St} {rs : List KReq} (h : KB w wo q rv F t rs) {k : Nat} (hk : KFoot wo rv (fun k => F k ∧ k < w.heap.size) k) : k < w.heap.size := by
  rcases hk with h' | h' | h'
  · exact h'.2
  · rw [h']; exact lt_of_heap h.blk
  · obtain ⟨cur, hcur⟩ := own_heap h.row h'
    exact lt_of_heap hcur
/-- The left one is turned, the right one stays. -/
theorem G2.of {w0 w w' : World} {m wa wb qa qb : Nat} {va vb va' : Value} {Fa Fb Fa' : Nat → Prop} {b a' : St} {rb ra' : List KReq} (hb : Below w0.heap.size w0 w) (hge : w0.heap.size ≤ m) (hle : m ≤ w.heap.size) (hB : KB w wb qb vb Fb b rb) (h5 : ∀ k, KFoot wa va Fa k → w0.heap.size ≤ k ∧ k < m) (h6 : ∀ k, KFoot wb vb Fb k → w0.heap.size ≤ k ∧ k < m) (h7 : ∀ k, KFoot wa va Fa k → ¬ KFoot wb vb Fb k)
    (h1 : KB w' wa qa va' Fa' a' ra') (h2 : ∀ k, KFoot wa va' Fa' k → KFoot wa va Fa k ∨ w.heap.size ≤ k) (h3 : Chg (KFoot wa va Fa) w w') : G2 w0 w'.heap.size w' wa wb a' b ra'.length rb.length := by
  have hs := h3.size
  refine ⟨⟨qa, va', _, ra', qb, vb, Fb, rb, h1.lt, hB.kept h3 fun k hk hk2 => h7 k hk2 hk, rfl, rfl, fun k hk => ⟨?_, h1.foot hk⟩, fun k hk => ⟨(h6 k hk).1, by have := (h6 k hk).2; omega⟩, fun k hk hk2 => ?_⟩, hb.trans (h3.to_below (fun k hk => (h5 k hk).1) hb.size), Nat.le_refl _, hb.trans (h3.to_below (fun k hk => (h5 k hk).1) hb.size) |>.size⟩
  · exact (h2 k (hk.imp (fun x => x.1) id)).elim (fun x => (h5 k x).1) fun x => Nat.le_trans hb.size x
  · rcases h2 k (hk.imp (fun x => x.1) id) with x | x
    · exact h7 k x hk2
    · have := (h6 k hk2).2; omega
/-- The left queue, in every later world. -/
theorem G2.cell {w0 w : World} {m wa wb : Nat} {a b : St} {na nb : Nat} (h : G2 w0 m w wa wb a b na nb) (hg : ErrVar w0) : ∃ q, w.cell? ⟨wa, 0, none⟩ = some (ptr q) ∧ wa < m ∧ ∀ W, Below m w W → ∃ F, QT W q a F ∧ ¬ F 0 ∧ (∀ k, F k → k < m) ∧ ErrVar W ∧
    ∀ w' t' , QT w' q t' F → Chg F W w' → G2 w0 m w' wa wb t' b na nb := by
  obtain ⟨qa, va, Fa, ra, qb, vb, Fb, rb, h1, h2, h3, h4, h5, h6, h7⟩ := h.ex
  have h0 : 0 < w0.heap.size := lt_of_cell hg
  refine ⟨qa, h1.c0, (h5 wa (.inr (.inl rfl))).2, fun W hW => ?_⟩
  have hc := chgM hW
  have k1 := h1.kept hc fun k hk => by have := (h5 k hk).2; omega
  have k2 := h2.kept hc fun k hk => by have := (h6 k hk).2; omega
  refine ⟨Fa, k1.que, fun x => by have := (h5 0 (.inl x)).1; omega, fun k hk => (h5 k (.inl hk)).2, (h.later hW).err hg, fun w' t' hq hcc => ?_⟩
  have k3 := k1.que' hcc hq fun k hk => .inl hk
  have hc3 : Chg (KFoot wa va Fa) W w' := hcc.mono fun k _ hk => .inl hk
  exact ⟨⟨qa, va, Fa, ra, qb, vb, Fb, rb, k3, k2.kept hc3 fun k hk hk2 => h7 k hk2 hk, h3, h4, h5, h6, h7⟩, (h.below.trans (hW.mono h.ge)).trans (hc3.to_below (fun k hk => (h5 k hk).1) (h.below.trans (hW.mono h.ge)).size), Nat.le_trans h.le (Nat.le_trans hW.size hcc.size), h.ge⟩
/-! ### what each call makes of it -/
theorem comp_g {w0 w : World} {m wa wb : Nat} {a b : St} {na nb : Nat} (h : G2 w0 m w wa wb a b na nb) (hg : ErrVar w0) (hk : a.Ok) (hs : a.Small) : ∃ q, w.cell? ⟨wa, 0, none⟩ = some (ptr q) ∧ wa < m ∧
    (∀ (k : Nat) (fault : Bool) t', a.complete k fault = some t' → ∀ W, Below m w W → Calls Tryz.prog 19 #[ptr q, .int .i64 k, .bool fault] W fun y w' => y = .returned (plErr 0 (-1) 0) ∧ G2 w0 m w' wa wb t' b na nb ∧ Chg (fun k => k < m) W w') ∧
    (∀ (k : Nat) (fault : Bool), a.complete k fault = none → ∀ W, Below m w W → Calls Tryz.prog 19 #[ptr q, .int .i64 k, .bool fault] W fun y w' => y = .returned (plErr 10 (-1) 0) ∧ Below W.heap.size W w') := by
  obtain ⟨q, h1, h2, h3⟩ := h.cell hg
  refine ⟨q, h1, h2, fun k fault t' hc W hB => ?_, fun k fault hc W hB => ?_⟩
  · obtain ⟨F, f1, f2, f3, f4, f5⟩ := h3 W hB
    refine (complete_p f1 hk hs f4 f2 k fault t' hc).mono ?_
    rintro y w' ⟨rfl, e1, e2⟩
    exact ⟨rfl, f5 w' _ e1 e2, e2.mono fun k _ hk => f3 k hk⟩
  · obtain ⟨F, f1, f2, f3, f4, f5⟩ := h3 W hB
    have hlen : a.cs.length ≤ k := by
      unfold St.complete at hc
      split at hc
      · rename_i he
        simpa using he
      · cases hc
    exact complete_no_p f1 f4 k fault (.inr (by omega))
theorem cancel_g {w0 w : World} {m wa wb : Nat} {a b : St} {na nb : Nat} (h : G2 w0 m w wa wb a b na nb) (hg : ErrVar w0) (hk : a.Ok) (hs : a.Small) (n : Int) (r : Req) (hf : a.find n = some r) (hst : r.state < 2) : ∃ q, w.cell? ⟨wa, 0, none⟩ = some (ptr q) ∧ wa < m ∧
    ∀ W, Below m w W → Calls Tryz.prog 15 #[ptr q, .int .i64 n] W fun y w' => y = .returned (plErr 0 (-1) 0) ∧ G2 w0 m w' wa wb (a.give n) b na nb ∧ Chg (fun k => k < m) W w' := by
  obtain ⟨q, h1, h2, h3⟩ := h.cell hg
  refine ⟨q, h1, h2, fun W hB => ?_⟩
  obtain ⟨F, f1, f2, f3, f4, f5⟩ := h3 W hB
  refine (cancel_ok_p f1 hk hs f4 f2 n r hf hst).mono ?_
  rintro y w' ⟨rfl, e1, e2⟩
  exact ⟨rfl, f5 w' _ e1 e2, e2.mono fun k _ hk => f3 k hk⟩
theorem again_g {w0 w : World} {m wa wb : Nat} {a b : St} {na nb : Nat} (h : G2 w0 m w wa wb a b na nb) (hg : ErrVar w0) (n : Int) (r : Req) (hf : a.find n = some r) (hst : 2 ≤ r.state) : ∃ q, w.cell? ⟨wa, 0, none⟩ = some (ptr q) ∧ wa < m ∧
    ∀ W, Below m w W → Calls Tryz.prog 15 #[ptr q, .int .i64 n] W fun y w' => y = .returned (plErr 9 n r.tries) ∧ Below W.heap.size W w' := by
  obtain ⟨q, h1, h2, h3⟩ := h.cell hg
  refine ⟨q, h1, h2, fun W hB => ?_⟩
  obtain ⟨F, f1, f2, f3, f4, f5⟩ := h3 W hB
  exact cancel_done_p f1 f4 n r hf hst
theorem told_g {w0 w : World} {m wa wb : Nat} {a b : St} {na nb : Nat} (h : G2 w0 m w wa wb a b na nb) (hg : ErrVar w0) (hk : a.Ok) (hs : a.Small) (n : Int) (r : Req) (hf : a.find n = some r) (hst : r.state = 4) : ∃ q, w.cell? ⟨wa, 0, none⟩ = some (ptr q) ∧ wa < m ∧
    ∀ W, Below m w W → Calls Tryz.prog 16 #[ptr q, .int .i64 n] W fun y w' => y = .returned (.tuple #[noAns, plErr 8 n r.tries]) ∧ G2 w0 m w' wa wb (a.tell n) b na nb ∧ Chg (fun k => k < m) W w' := by
  obtain ⟨q, h1, h2, h3⟩ := h.cell hg
  refine ⟨q, h1, h2, fun W hB => ?_⟩
  obtain ⟨F, f1, f2, f3, f4, f5⟩ := h3 W hB
  refine (poll_bad_p f1 hk hs f4 f2 n r 8 hf (.inr ⟨hst, rfl⟩)).mono ?_
  rintro y w' ⟨rfl, e1, e2⟩
  exact ⟨rfl, f5 w' _ e1 e2, e2.mono fun k _ hk => f3 k hk⟩
theorem gone_g {w0 w : World} {m wa wb : Nat} {a b : St} {na nb : Nat} (h : G2 w0 m w wa wb a b na nb) (hg : ErrVar w0) (n : Int) (hf : a.find n = none) : ∃ q, w.cell? ⟨wa, 0, none⟩ = some (ptr q) ∧ wa < m ∧
    ∀ W, Below m w W → Calls Tryz.prog 16 #[ptr q, .int .i64 n] W fun y w' => y = .returned (.tuple #[noAns, plErr 5 (-1) 0]) ∧ Below W.heap.size W w' := by
  obtain ⟨q, h1, h2, h3⟩ := h.cell hg
  refine ⟨q, h1, h2, fun W hB => ?_⟩
  obtain ⟨F, f1, f2, f3, f4, f5⟩ := h3 W hB
  exact poll_none_p f1 f4 n hf
theorem waits_g {w0 w : World} {m wa wb : Nat} {a b : St} {na nb : Nat} (h : G2 w0 m w wa wb a b na nb) (hg : ErrVar w0) (hk : a.Ok) (hs : a.Small) : ∃ q, w.cell? ⟨wa, 0, none⟩ = some (ptr q) ∧ wa < m ∧
    ∀ W, Below m w W → Calls Tryz.prog 20 #[ptr q] W fun y w' => ∃ v, y = .returned v ∧ w'.ownsRow W.heap.size 3 1 v a.waiting.length (a.waiting.map fun n => Value.int .i64 n) ∧ Below W.heap.size W w' := by
  obtain ⟨q, h1, h2, h3⟩ := h.cell hg
  refine ⟨q, h1, h2, fun W hB => ?_⟩
  obtain ⟨F, f1, f2, f3, f4, f5⟩ := h3 W hB
  exact waiting_c f1 hk hs
/-- Both step: none. -/
theorem stepN_g {w0 w : World} {m wa wb : Nat} {a b : St} {na nb : Nat} (h : G2 w0 m w wa wb a b na nb) (hg : ErrVar w0) (hk : a.Ok) (hc : a.cmd = none) : ∃ q, w.cell? ⟨wa, 0, none⟩ = some (ptr q) ∧ wa < m ∧
    ∀ W, Below m w W → Calls Tryz.prog 18 #[ptr q] W fun y w' => y = .returned (.tuple #[noCmd, .bool false]) ∧ Below W.heap.size W w' := by
  obtain ⟨q, h1, h2, h3⟩ := h.cell hg
  refine ⟨q, h1, h2, fun W hB => ?_⟩
  obtain ⟨F, f1, f2, f3, f4, f5⟩ := h3 W hB
  exact step_none_c f1 hk hc
/-- Both step: a command each. -/
theorem stepS_g {w0 w : World} {m wa wb : Nat} {a b : St} {na nb : Nat} (h : G2 w0 m w wa wb a b na nb) (hg : ErrVar w0) (hk : a.Ok) (hs : a.Small) (hkb : b.Ok) (hsb : b.Small) (c d : Cmd) (hc : a.cmd = some c) (hd : b.cmd = some d) : ∃ q qb, w.cell? ⟨wa, 0, none⟩ = some (ptr q) ∧ w.cell? ⟨wb, 0, none⟩ = some (ptr qb) ∧ wa < m ∧ wb < m ∧
    ∀ W, Below m w W → Calls Tryz.prog 18 #[ptr q] W fun y w1 => ∃ va vc, y = .returned (.tuple #[.agg #[.bool c.write, .int .i64 c.page, .int .i64 c.count, .slice va c.nums.length vc], .bool true]) ∧ w1.cell? ⟨wb, 0, none⟩ = some (ptr qb) ∧ Chg (fun k => k < m) W w1 ∧ w1.ownsRow W.heap.size 3 1 (.slice va c.nums.length vc) c.nums.length (c.nums.map fun n => Value.int .i64 n) ∧
      ∀ W1, Below w1.heap.size w1 W1 → Calls Tryz.prog 18 #[ptr qb] W1 fun y w2 => ∃ vb vd, y = .returned (.tuple #[.agg #[.bool d.write, .int .i64 d.page, .int .i64 d.count, .slice vb d.nums.length vd], .bool true]) ∧ G2 w0 w2.heap.size w2 wa wb (a.sent c) (b.sent d) na nb ∧ Chg (fun k => k < m) W1 w2 ∧ w2.ownsRow W1.heap.size 3 1 (.slice vb d.nums.length vd) d.nums.length (d.nums.map fun n => Value.int .i64 n) := by
  obtain ⟨qa, va, Fa, ra, qb, vb, Fb, rb, h1, h2, h3, h4, h5, h6, h7⟩ := h.ex
  have h0 : 0 < w0.heap.size := lt_of_cell hg
  refine ⟨qa, qb, h1.c0, h2.c0, (h5 wa (.inr (.inl rfl))).2, (h6 wb (.inr (.inl rfl))).2, fun W hW => ?_⟩
  have hc0 := chgM hW
  have k1 := h1.kept hc0 fun k hk => by have := (h5 k hk).2; omega
  have k2 := h2.kept hc0 fun k hk => by have := (h6 k hk).2; omega
  have hmW : m ≤ W.heap.size := Nat.le_trans h.le hW.size
  refine (step_some_c k1.que hk hs c hc).mono ?_
  rintro y w1 ⟨v1, F1, rfl, e1, e2, e3, e4, e5⟩
  obtain ⟨va1, vc1, rfl⟩ := own_slice e5
  have k3 := k1.que' e4 e1 e2
  have hc3 : Chg (KFoot wa va Fa) W w1 := e4.mono fun k _ hk => .inl hk
  have k4 := k2.kept hc3 fun k hk hk2 => h7 k hk2 hk
  refine ⟨va1, vc1, rfl, k4.c0, e4.mono fun k _ hk => (h5 k (.inl hk)).2, e5, fun W1 hW1 => ?_⟩
  have m3 := k3.lt.below hW1
  have m4 := k4.below hW1
  refine (step_some_c m4.que hkb hsb d hd).mono ?_
  rintro y w2 ⟨v2, F2, rfl, g1, g2, g3, g4, g5⟩
  obtain ⟨vb1, vd1, rfl⟩ := own_slice g5
  have m5 := m4.que' g4 g1 g2
  have hc4 : Chg (KFoot wb vb Fb) W1 w2 := g4.mono fun k _ hk => .inl hk
  have hB1 : Below w0.heap.size w0 w1 := (h.below.trans (hW.mono h.ge)).trans (hc3.to_below (fun k hk => (h5 k hk).1) (h.below.trans (hW.mono h.ge)).size)
  have hs1 := e4.size
  have hB2 : Below w0.heap.size w0 W1 := hB1.trans (hW1.mono hB1.size)
  -- the left one's feet behind its step
  have fa : ∀ k, KFoot wa va (fun k => F1 k ∧ k < w1.heap.size) k → w0.heap.size ≤ k ∧ k < w1.heap.size ∧ ¬ KFoot wb vb Fb k := by
    rintro k (⟨x, y⟩ | x | x)
    · rcases e2 k x with z | z
      · exact ⟨(h5 k (.inl z)).1, y, h7 k (.inl z)⟩
      · have := h.ge
        exact ⟨by omega, y, fun z2 => by have := (h6 k z2).2; omega⟩
    · have := h5 k (.inr (.inl x))
      exact ⟨this.1, by omega, h7 k (.inr (.inl x))⟩
    · have := h5 k (.inr (.inr x))
      exact ⟨this.1, by omega, h7 k (.inr (.inr x))⟩
  have m6 := m3.kept hc4 fun k hk hk2 => (fa k hk).2.2 hk2
  have hs2 := hc4.size
  have hs3 := hW1.size
  have hge := h.ge
  have hB3 := hB2.trans (hc4.to_below (fun k hk => (h6 k hk).1) hB2.size)
  refine ⟨vb1, vd1, rfl, ⟨⟨qa, va, _, ra, qb, vb, _, rb, m6, m5.lt, h3, h4, fun k hk => ⟨(fa k hk).1, by have := (fa k hk).2.1; omega⟩, fun k hk => ⟨?_, m5.foot hk⟩, fun k hk hk2 => ?_⟩, hB3, Nat.le_refl _, hB3.size⟩, g4.mono fun k _ hk => (h6 k (.inl hk)).2, g5⟩
  · rcases hk with ⟨x, _⟩ | x | x
    · rcases g2 k x with z | z
      · exact (h6 k (.inl z)).1
      · omega
    · exact (h6 k (.inr (.inl x))).1
    · exact (h6 k (.inr (.inr x))).1
  · have h8 := fa k hk
    rcases hk2 with ⟨x, _⟩ | x | x
    · rcases g2 k x with z | z
      · exact h8.2.2 (.inl z)
      · omega
    · exact h8.2.2 (.inr (.inl x))
    · exact h8.2.2 (.inr (.inr x))
/-- One more request on the left. -/
theorem askR_g {w0 w : World} {m wa wb : Nat} {a b : St} {na nb : Nat} (h : G2 w0 m w wa wb a b na nb) (hg : ErrVar w0) (hk : a.Ok) (hs : a.Small) (hh : a.held < 40) (page v : Int) (hp : 0 ≤ page ∧ page < 16) (hl : a.last = na) :
    Calls Tryz.prog 14 #[ptr wa, .bool false, .int .i64 page, .int .u8 v] w fun y w' => y = .returned (.bool true) ∧ G2 w0 w'.heap.size w' wa wb (a.add false page ⟨0, 0, 0, 0⟩) b (na + 1) nb ∧ Chg (fun k => k < m) w w' := by
  obtain ⟨qa, va, Fa, ra, qb, vb, Fb, rb, h1, h2, h3, h4, h5, h6, h7⟩ := h.ex
  have h0 : 0 < w0.heap.size := lt_of_cell hg
  refine (ask_read wa qa va Fa a ra w page v h1 (h.err hg) (fun x => by have := (h5 0 (.inl x)).1; omega) (by have := (h5 wa (.inr (.inl rfl))).1; omega) (fun x => by have := (h5 0 (.inr (.inr x))).1; omega) hk hs hh hp (by rw [hl, h3])).mono ?_
  rintro y w' ⟨rfl, va', Fa', e1, e2, e3⟩
  have hx := G2.of h.below h.ge h.le h2 h5 h6 h7 e1 e2 e3
  rw [List.length_append, h3, h4] at hx
  exact ⟨rfl, hx, e3.mono fun k _ hk => (h5 k hk).2⟩
theorem askW_g {w0 w : World} {m wa wb : Nat} {a b : St} {na nb : Nat} (h : G2 w0 m w wa wb a b na nb) (hg : ErrVar w0) (hk : a.Ok) (hs : a.Small) (hh : a.held < 40) (page v : Int) (hp : 0 ≤ page ∧ page < 16) (hl : a.last = na) (hv : 0 ≤ v ∧ v ≤ 255) :
    Calls Tryz.prog 14 #[ptr wa, .bool true, .int .i64 page, .int .u8 v] w fun y w' => y = .returned (.bool true) ∧ G2 w0 w'.heap.size w' wa wb (a.add true page (askD v na)) b (na + 1) nb ∧ Chg (fun k => k < m) w w' := by
  obtain ⟨qa, va, Fa, ra, qb, vb, Fb, rb, h1, h2, h3, h4, h5, h6, h7⟩ := h.ex
  have h0 : 0 < w0.heap.size := lt_of_cell hg
  refine (ask_write wa qa va Fa a ra w page v h1 (h.err hg) (fun x => by have := (h5 0 (.inl x)).1; omega) (by have := (h5 wa (.inr (.inl rfl))).1; omega) (fun x => by have := (h5 0 (.inr (.inr x))).1; omega) hk hs hh hp (by rw [hl, h3]) hv).mono ?_
  rintro y w' ⟨rfl, va', Fa', e1, e2, e3⟩
  have hx := G2.of h.below h.ge h.le h2 h5 h6 h7 e1 e2 e3
  rw [List.length_append, h3, h4] at hx
  exact ⟨rfl, hx, e3.mono fun k _ hk => (h5 k hk).2⟩
/-- The right one's data are laid anew. -/
theorem G2.data {w0 w : World} {m wa wb : Nat} {a b : St} {na nb : Nat} (h : G2 w0 m w wa wb a b na nb) (i : Nat) (hi : i < na) (j : Nat) (hj : j < nb) : ∃ ga gb ca cb s, w.cell? ⟨wa, 1, none⟩ = some (.slice (some ⟨ga, 0, none⟩) na ca) ∧ w.cell? ⟨wb, 1, none⟩ = some (.slice (some ⟨gb, 0, none⟩) nb cb) ∧ w.cell? ⟨ga, i * 6 + 3, none⟩ = some (.string s) ∧ (∃ u, w.cell? ⟨gb, j * 6 + 3, none⟩ = some (.string u)) ∧ (∀ j, w.frozen? ⟨gb, j, none⟩ = false) ∧ wa < m ∧ wb < m ∧ ga < m ∧ gb < m ∧
    ∀ W, Below m w W → G2 w0 m (W.setCell ⟨gb, j * 6 + 3, none⟩ (.string s)) wa wb a b na nb := by
  obtain ⟨qa, va, Fa, ra, qb, vb, Fb, rb, h1, h2, h3, h4, h5, h6, h7⟩ := h.ex
  obtain ⟨ra1, ca, rfl⟩ := own_slice h1.row
  obtain ⟨rb1, cb, rfl⟩ := own_slice h2.row
  obtain ⟨x, hx⟩ : ∃ x, ra[i]? = some x := ⟨_, List.getElem?_eq_getElem (by omega)⟩
  obtain ⟨y, hy⟩ : ∃ y, rb[j]? = some y := ⟨_, List.getElem?_eq_getElem (by omega)⟩
  obtain ⟨ga, c1, cur1, e1, e2, e3, e4, e5, e6, e7⟩ := h1.cells hx
  obtain ⟨gb, c2, cur2, f1, f2, f3, f4, f5, f6, f7⟩ := h2.cells hy
  simp only [Value.slice.injEq] at e1 f1
  obtain ⟨rfl, _, rfl⟩ := e1
  obtain ⟨rfl, _, rfl⟩ := f1
  refine ⟨ga, gb, ca, cb, x.data, by rw [h1.c1, h3], by rw [h2.c1, h4], e7 3 _ rfl, ⟨y.data, f7 3 _ rfl⟩, fun j => free_of f2, (h5 wa (.inr (.inl rfl))).2, (h6 wb (.inr (.inl rfl))).2, (h5 ga (.inr (.inr rfl))).2, (h6 gb (.inr (.inr rfl))).2, fun W hW => ?_⟩
  have hc0 := chgM hW
  have k1 := h1.kept hc0 fun k hk => by have := (h5 k hk).2; omega
  have k2 := h2.kept hc0 fun k hk => by have := (h6 k hk).2; omega
  obtain ⟨num, wrt, page, data, how, read⟩ := y
  have hset : Chg (fun k => k = gb) W (W.setCell ⟨gb, j * 6 + 3, none⟩ (.string x.data)) := chg_set _
  have k3 := k1.kept hset fun k hk e => h7 k hk (e ▸ .inr (.inr rfl))
  have k4 := k2.data hy x.data
  have hB0 := h.below.trans (hW.mono h.ge)
  refine ⟨⟨qa, _, Fa, ra, qb, _, Fb, _, k3, k4, h3, by rw [List.length_set, h4], h5, h6, h7⟩, hB0.trans (hset.to_below (fun k hk => by rw [hk]; exact (h6 gb (.inr (.inr rfl))).1) hB0.size), Nat.le_trans h.le (Nat.le_trans hW.size hset.size), h.ge⟩
/-- Both begin. -/
theorem begun_g (d : Int) (w0 w : World) (hb : Below w0.heap.size w0 w) (hg : ErrVar w0) (hd : -9223372036854775808 ≤ d ∧ d ≤ 9223372036854775807) :
    Calls Tryz.prog 12 #[.int .i64 d] w fun y w1 => ∃ wa, y = .returned (.tuple #[ptr wa, .bool true]) ∧
      ∀ W1, Below w1.heap.size w1 W1 → Calls Tryz.prog 12 #[.int .i64 d] W1 fun y w2 => ∃ wb, y = .returned (.tuple #[ptr wb, .bool true]) ∧ G2 w0 w2.heap.size w2 wa wb (St.new (1 + pickI d 4).toNat) (St.new (1 + pickI d 4).toNat) 0 0 := by
  have hg1 : ErrVar w := hg.chg (chgB hb fun _ => False) fun x => x
  have hs0 := hb.size
  refine (begun_any d w hg1 hd).mono ?_
  rintro y w1 ⟨wa, qa, Fa, rfl, e1, e2, e3, e4⟩
  refine ⟨wa, rfl, fun W1 hW1 => ?_⟩
  have hg2 : ErrVar W1 := (hg1.chg (chgB e4 fun _ => False) fun x => x).chg (chgB hW1 fun _ => False) fun x => x
  have k1 := e1.lt.below hW1
  have hs1 := e4.size
  have hs2 := hW1.size
  have hwa := lt_of_heap e1.blk
  refine (begun_any d W1 hg2 hd).mono ?_
  rintro y w2 ⟨wb, qb, Fb, rfl, f1, f2, f3, f4⟩
  have k2 := k1.below f4
  have hs3 := f4.size
  have hwb := lt_of_heap f1.blk
  refine ⟨wb, rfl, ⟨⟨qa, _, _, [], qb, _, _, [], k2, f1.lt, rfl, rfl, fun k hk => ?_, fun k hk => ?_, fun k hk hk2 => ?_⟩, ((hb.trans (e4.mono hs0)).trans (hW1.mono (by omega))).trans (f4.mono (by omega)), Nat.le_refl _, by omega⟩⟩
  · rcases hk with ⟨x, y⟩ | x | x
    · have := e2 k x
      exact ⟨by omega, by omega⟩
    · exact ⟨by omega, by omega⟩
    · cases x
  · rcases hk with ⟨x, y⟩ | x | x
    · have := f2 k x
      exact ⟨by omega, by omega⟩
    · exact ⟨by omega, by omega⟩
    · cases x
  · have h3 : k < w1.heap.size := by
      rcases hk with ⟨x, y⟩ | x | x
      · exact y
      · omega
      · cases x
    rcases hk2 with ⟨x, y⟩ | x | x
    · have := f2 k x
      omega
    · omega
    · cases x
end Go.Proofs.YticobikhndlejaaGreatDoor
