/- The statements' world in memory that the law has laid itself, with all that was asked: what each call makes of it. -/
import Derived.Test.YticobikhndlejaaDoorKW
import Derived.Test.YticobikhndlejaaDoorKOwn
import Derived.Test.YticobikhndlejaaDoorKPoll
namespace Go.Proofs.YticobikhndlejaaDoor
open Go.RowKit Go.Shelf Go.Lib

/-- A world of the law's own, laid behind block B. -/
structure KO (w0 w : World) (wo : Nat) (x : KW) : Prop where
  ex : ∃ q rv F, KB w wo q rv F x.t x.rs ∧ ∀ k, KFoot wo rv F k → w0.heap.size ≤ k
  below : Below w0.heap.size w0 w
theorem KO.of {w0 w w' : World} {wo q : Nat} {rv rv' : Value} {F F' : Nat → Prop} {x' : KW} (hb : Below w0.heap.size w0 w) (hf : ∀ k, KFoot wo rv F k → w0.heap.size ≤ k)
    (h1 : KB w' wo q rv' F' x'.t x'.rs) (h2 : ∀ k, KFoot wo rv' F' k → KFoot wo rv F k ∨ w.heap.size ≤ k) (h3 : Chg (KFoot wo rv F) w w') : KO w0 w' wo x' :=
  ⟨⟨q, rv', F', h1, fun k hk => (h2 k hk).elim (hf k) fun h => Nat.le_trans hb.size h⟩, hb.trans (h3.to_below hf hb.size)⟩
theorem KO.err {w0 w : World} {wo : Nat} {x : KW} (h : KO w0 w wo x) (hg : ErrVar w0) : ErrVar w := hg.chg (chgB h.below fun _ => False) fun x => x
theorem KO.later {w0 w w' : World} {wo : Nat} {x : KW} (h : KO w0 w wo x) (hb : Below w.heap.size w w') : KO w0 w' wo x := by
  obtain ⟨q, rv, F, h1, h3⟩ := h.ex
  exact ⟨⟨q, rv, F, h1.below hb, h3⟩, h.below.trans (hb.mono h.below.size)⟩
theorem KO.cell {w0 w : World} {wo : Nat} {x : KW} (h : KO w0 w wo x) : ∃ q, w.cell? ⟨wo, 0, none⟩ = some (ptr q) ∧ wo < w.heap.size ∧ ∀ W, Below w.heap.size w W → ∃ F, QT W q x.t F ∧ (∀ k, F k → w0.heap.size ≤ k ∧ k < w.heap.size) ∧
    ∀ w' t' F', QT w' q t' F' → (∀ k, F' k → F k ∨ W.heap.size ≤ k) → Chg F W w' → KO w0 w' wo ⟨x.rs, t'⟩ := by
  obtain ⟨q, rv, F0, h0, h3'⟩ := h.ex
  have h1 := h0.lt
  have h3 : ∀ k, KFoot wo rv (fun k => F0 k ∧ k < w.heap.size) k → w0.heap.size ≤ k := fun k hk => h3' k (hk.imp (fun x => x.1) id)
  refine ⟨q, h1.c0, lt_of_heap h1.blk, fun W hB => ⟨_, h1.que.below hB, fun k hk => ⟨h3 k (.inl hk), hk.2⟩, fun w' t' F' hq hF hc => ?_⟩⟩
  have hK := (h1.below hB).que' hc hq hF
  exact KO.of (h.below.trans (hB.mono h.below.size)) h3 hK (fun k hk => by
    rcases hk with h | h | h
    · exact (hF k h).imp .inl id
    · exact .inl (.inr (.inl h))
    · exact .inl (.inr (.inr h))) (hc.mono fun k _ hk => .inl hk)
/-- What was asked: its row, cell by cell, in every later world. -/
theorem KO.rows {w0 w : World} {wo : Nat} {x : KW} (h : KO w0 w wo x) : ∃ ra rc, w.cell? ⟨wo, 1, none⟩ = some (.slice ra x.rs.length rc) ∧ wo < w.heap.size ∧
    ∀ (i : Nat) (r : KReq), x.rs[i]? = some r → ∃ g, ra = some ⟨g, 0, none⟩ ∧ g < w.heap.size ∧ (∀ j v, (kCells r)[j]? = some v → w.cell? ⟨g, i * 6 + j, none⟩ = some v) ∧ (∀ j, w.frozen? ⟨g, j, none⟩ = false) := by
  obtain ⟨q, rv, F, h1, h3⟩ := h.ex
  obtain ⟨ra, rc, rfl⟩ := own_slice h1.row
  refine ⟨ra, rc, h1.c1, lt_of_heap h1.blk, fun i r hi => ?_⟩
  obtain ⟨g, cap, cur, e, hg, _, _, _, _, hc⟩ := h1.cells hi
  simp only [Value.slice.injEq] at e
  exact ⟨g, e.1, lt_of_heap hg, hc, fun j => free_of hg⟩
theorem begun_o (d : Int) (w : World) (hg : ErrVar w) (hd : -9223372036854775808 ≤ d ∧ d ≤ 9223372036854775807) :
    Calls Tryd.prog 8 #[.int .i64 d] w fun x w' => ∃ wo, x = .returned (.tuple #[ptr wo, .bool true]) ∧ KO w w' wo ⟨[], St.new (1 + pickI d 4).toNat⟩ := by
  refine (begun_k d w hg hd).mono ?_
  rintro x w' ⟨wo, rfl, h1⟩
  obtain ⟨q, rv, F, rs, h2, h3, h4⟩ := h1.ex
  obtain rfl : rs = [] := List.length_eq_zero_iff.1 h3
  exact ⟨wo, rfl, ⟨q, rv, F, h2, h4⟩, h1.below⟩
theorem KO.sides {w0 w : World} {wo q : Nat} {rv : Value} {F : Nat → Prop} {x : KW} (h3 : ∀ k, KFoot wo rv F k → w0.heap.size ≤ k) (hg : ErrVar w0) : ¬ F 0 ∧ wo ≠ 0 ∧ rv.ownBlock ≠ some 0 := by
  have h0 : 0 < w0.heap.size := lt_of_cell hg
  exact ⟨fun x => by have := h3 0 (.inl x); omega, by have := h3 wo (.inr (.inl rfl)); omega, fun x => by have := h3 0 (.inr (.inr x)); omega⟩
theorem askR_o {w0 w : World} {wo : Nat} {x : KW} (h : KO w0 w wo x) (hg : ErrVar w0) (hi : KInv x) (hs : x.t.Small) (hh : x.t.held < 40) (page v : Int) (hp : 0 ≤ page ∧ page < 16) :
    Calls Tryd.prog 10 #[ptr wo, .bool false, .int .i64 page, .int .u8 v] w fun y w' => y = .returned (.bool true) ∧ KO w0 w' wo (x.askR page) := by
  obtain ⟨q, rv, F, h1, h3⟩ := h.ex
  obtain ⟨s1, s2, s3⟩ := KO.sides (w := w) (q := q) (x := x) h3 hg
  refine (ask_read wo q rv F x.t x.rs w page v h1 (h.err hg) s1 s2 s3 hi.ok hs hh hp hi.last).mono ?_
  rintro y w' ⟨rfl, rv', F', e1, e2, e3⟩
  unfold KW.askR
  rw [if_neg (by omega)]
  exact ⟨rfl, KO.of h.below h3 e1 e2 e3⟩
theorem askW_o {w0 w : World} {wo : Nat} {x : KW} (h : KO w0 w wo x) (hg : ErrVar w0) (hi : KInv x) (hs : x.t.Small) (hh : x.t.held < 40) (page v : Int) (hp : 0 ≤ page ∧ page < 16) (hv : 0 ≤ v ∧ v ≤ 255) :
    Calls Tryd.prog 10 #[ptr wo, .bool true, .int .i64 page, .int .u8 v] w fun y w' => y = .returned (.bool true) ∧ KO w0 w' wo (x.askW page v) := by
  obtain ⟨q, rv, F, h1, h3⟩ := h.ex
  obtain ⟨s1, s2, s3⟩ := KO.sides (w := w) (q := q) (x := x) h3 hg
  refine (ask_write wo q rv F x.t x.rs w page v h1 (h.err hg) s1 s2 s3 hi.ok hs hh hp hi.last hv).mono ?_
  rintro y w' ⟨rfl, rv', F', e1, e2, e3⟩
  unfold KW.askW
  rw [if_neg (by omega)]
  exact ⟨rfl, KO.of h.below h3 e1 e2 e3⟩
/-- Step, by the queue's own place. -/
theorem step_o {w0 w : World} {wo : Nat} {x : KW} (h : KO w0 w wo x) (hk : x.t.Ok) (hs : x.t.Small) : ∃ q, w.cell? ⟨wo, 0, none⟩ = some (ptr q) ∧ wo < w.heap.size ∧
    (x.t.cmd = none → ∀ W, Below w.heap.size w W → Calls Tryd.prog 11 #[ptr q] W fun y w' => y = .returned (.tuple #[noCmd, .bool false]) ∧ KO w0 w' wo x ∧ Below W.heap.size W w') ∧
    (∀ c, x.t.cmd = some c → ∀ W, Below w.heap.size w W → Calls Tryd.prog 11 #[ptr q] W fun y w' => ∃ va vc, y = .returned (.tuple #[.agg #[.bool c.write, .int .i64 c.page, .int .i64 c.count, .slice va c.nums.length vc], .bool true]) ∧ KO w0 w' wo ⟨x.rs, x.t.sent c⟩ ∧ Chg (fun k => k < w.heap.size) W w' ∧ w'.ownsRow W.heap.size 3 1 (.slice va c.nums.length vc) c.nums.length (c.nums.map fun n => Value.int .i64 n)) := by
  obtain ⟨q, h1, h2, h3⟩ := h.cell
  refine ⟨q, h1, h2, fun hc W hB => ?_, fun c hc W hB => ?_⟩
  · obtain ⟨F, f1, f2, f3⟩ := h3 W hB
    refine (step_none_c f1 hk hc).mono ?_
    rintro y w' ⟨rfl, e1⟩
    exact ⟨rfl, f3 w' _ F (f1.below e1) (fun k hk => .inl hk) (chgB e1 _), e1⟩
  · obtain ⟨F, f1, f2, f3⟩ := h3 W hB
    refine (step_some_c f1 hk hs c hc).mono ?_
    rintro y w' ⟨v, F', rfl, e1, e2, _, e4, e5⟩
    obtain ⟨va, vc, rfl⟩ := own_slice e5
    exact ⟨va, vc, rfl, f3 w' _ F' e1 e2 e4, e4.mono fun k _ hk => (f2 k hk).2, e5⟩
theorem comp_o {w0 w : World} {wo : Nat} {x : KW} (h : KO w0 w wo x) (hg : ErrVar w0) (hk : x.t.Ok) (hs : x.t.Small) : ∃ q, w.cell? ⟨wo, 0, none⟩ = some (ptr q) ∧ wo < w.heap.size ∧
    (∀ (k : Nat) (fault : Bool) t', x.t.complete k fault = some t' → ∀ W, Below w.heap.size w W → Calls Tryd.prog 12 #[ptr q, .int .i64 k, .bool fault] W fun y w' => y = .returned (plErr 0 (-1) 0) ∧ KO w0 w' wo ⟨x.rs, t'⟩ ∧ Chg (fun k => k < w.heap.size) W w') ∧
    (∀ (k : Nat) (fault : Bool), x.t.complete k fault = none → ∀ W, Below w.heap.size w W → Calls Tryd.prog 12 #[ptr q, .int .i64 k, .bool fault] W fun y w' => y = .returned (plErr 10 (-1) 0) ∧ KO w0 w' wo x ∧ Below W.heap.size W w') := by
  obtain ⟨q, h1, h2, h3⟩ := h.cell
  have h0 : 0 < w0.heap.size := lt_of_cell hg
  refine ⟨q, h1, h2, fun k fault t' hc W hB => ?_, fun k fault hc W hB => ?_⟩
  · obtain ⟨F, f1, f2, f3⟩ := h3 W hB
    refine (complete_p f1 hk hs ((h.err hg).chg (chgB hB fun _ => False) fun x => x) (fun x => by have := (f2 0 x).1; omega) k fault t' hc).mono ?_
    rintro y w' ⟨rfl, e1, e2⟩
    exact ⟨rfl, f3 w' _ F e1 (fun k hk => .inl hk) e2, e2.mono fun k _ hk => (f2 k hk).2⟩
  · obtain ⟨F, f1, f2, f3⟩ := h3 W hB
    have hlen : x.t.cs.length ≤ k := by
      unfold St.complete at hc
      split at hc
      · rename_i he
        simpa using he
      · cases hc
    refine (complete_no_p f1 ((h.err hg).chg (chgB hB fun _ => False) fun x => x) k fault (.inr (by omega))).mono ?_
    rintro y w' ⟨rfl, e1⟩
    exact ⟨rfl, f3 w' _ F (f1.below e1) (fun k hk => .inl hk) (chgB e1 _), e1⟩
theorem tick_o {w0 w : World} {wo : Nat} {x : KW} (h : KO w0 w wo x) (hk : x.t.Ok) (hs : x.t.Small) : ∃ q, w.cell? ⟨wo, 0, none⟩ = some (ptr q) ∧ wo < w.heap.size ∧
    ∀ W, Below w.heap.size w W → Calls Tryd.prog 14 #[ptr q] W fun y w' => y = .returned (.tuple #[]) ∧ KO w0 w' wo ⟨x.rs, x.t.tick⟩ ∧ Chg (fun k => k < w.heap.size) W w' := by
  obtain ⟨q, h1, h2, h3⟩ := h.cell
  refine ⟨q, h1, h2, fun W hB => ?_⟩
  obtain ⟨F, f1, f2, f3⟩ := h3 W hB
  refine (tick_c f1 hk hs).mono ?_
  rintro y w' ⟨rfl, e1, e2⟩
  exact ⟨rfl, f3 w' _ F e1 (fun k hk => .inl hk) e2, e2.mono fun k _ hk => (f2 k hk).2⟩
theorem disk_o {w0 w : World} {wo : Nat} {x : KW} (h : KO w0 w wo x) : ∃ q, w.cell? ⟨wo, 0, none⟩ = some (ptr q) ∧ wo < w.heap.size ∧
    ∀ W, Below w.heap.size w W → Calls Tryd.prog 17 #[ptr q] W fun y w' => ∃ v, y = .returned v ∧ w'.ownsRow W.heap.size 5 1 v 64 (x.t.disk.map fun b => Value.int .u8 b) ∧ Below W.heap.size W w' ∧ KO w0 w' wo x := by
  obtain ⟨q, h1, h2, h3⟩ := h.cell
  refine ⟨q, h1, h2, fun W hB => ?_⟩
  obtain ⟨F, f1, f2, f3⟩ := h3 W hB
  refine (disk_c f1).mono ?_
  rintro y w' ⟨v, rfl, e1, e2⟩
  exact ⟨v, rfl, e1, e2, f3 w' _ F (f1.below e2) (fun k hk => .inl hk) (chgB e2 _)⟩
theorem pend_o {w0 w : World} {wo : Nat} {x : KW} (h : KO w0 w wo x) (hg : ErrVar w0) (n : Int) (r : Req) (hf : x.t.find n = some r) (hr : r.state = 0 ∨ r.state = 1) : ∃ q, w.cell? ⟨wo, 0, none⟩ = some (ptr q) ∧ wo < w.heap.size ∧
    ∀ W, Below w.heap.size w W → Calls Tryd.prog 13 #[ptr q, .int .i64 n] W fun y w' => y = .returned (.tuple #[noAns, plErr 6 n r.tries]) ∧ Below W.heap.size W w' ∧ KO w0 w' wo x := by
  obtain ⟨q, h1, h2, h3⟩ := h.cell
  refine ⟨q, h1, h2, fun W hB => ?_⟩
  obtain ⟨F, f1, f2, f3⟩ := h3 W hB
  refine (poll_pend_p f1 ((h.err hg).chg (chgB hB fun _ => False) fun x => x) n r hf hr).mono ?_
  rintro y w' ⟨rfl, e1⟩
  exact ⟨rfl, e1, f3 w' _ F (f1.below e1) (fun k hk => .inl hk) (chgB e1 _)⟩
end Go.Proofs.YticobikhndlejaaDoor
