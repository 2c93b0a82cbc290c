/- The statements' own worlds: a queue and what was asked of it, in memory that the law has laid itself. -/
import Derived.Test.YticobikhndlejaaDoorKeep3
namespace Go.Proofs.YticobikhndlejaaDoor
open Go.RowKit Go.Shelf Go.Lib

/-- A world of the law's own, laid behind block B. -/
structure KOwn (w0 w : World) (wo : Nat) (t : St) (n : Nat) : Prop where
  ex : ∃ q rv F rs, KB w wo q rv F t rs ∧ rs.length = n ∧ ∀ k, KFoot wo rv F k → w0.heap.size ≤ k
  below : Below w0.heap.size w0 w
theorem KOwn.of {w0 w w' : World} {wo q : Nat} {rv rv' : Value} {F F' : Nat → Prop} {t' : St} {rs' : List KReq} {n' : Nat} (hb : Below w0.heap.size w0 w) (hf : ∀ k, KFoot wo rv F k → w0.heap.size ≤ k)
    (h1 : KB w' wo q rv' F' t' rs') (hn : rs'.length = n') (h2 : ∀ k, KFoot wo rv' F' k → KFoot wo rv F k ∨ w.heap.size ≤ k) (h3 : Chg (KFoot wo rv F) w w') : KOwn w0 w' wo t' n' :=
  ⟨⟨q, rv', F', rs', h1, hn, fun k hk => (h2 k hk).elim (hf k) fun h => Nat.le_trans hb.size h⟩, hb.trans (h3.to_below hf hb.size)⟩
/-- ask of a read, ask of a write, in these words. -/
theorem ask_r {w0 w : World} {wo : Nat} {t : St} {n : Nat} (h : KOwn w0 w wo t n) (hg : ErrVar w0) (hk : t.Ok) (hs : t.Small) (hh : t.held < 40) (page v : Int) (hp : 0 ≤ page ∧ page < 16) (hl : t.last = n) :
    Calls Tryd.prog 10 #[ptr wo, .bool false, .int .i64 page, .int .u8 v] w fun x w' => x = .returned (.bool true) ∧ KOwn w0 w' wo (t.add false page ⟨0, 0, 0, 0⟩) (n + 1) := by
  obtain ⟨q, rv, F, rs, h1, h2, h3⟩ := h.ex
  have h0 : 0 < w0.heap.size := lt_of_cell hg
  refine (ask_read wo q rv F t rs w page v h1 (hg.chg (chgB h.below fun _ => False) fun x => x) (fun x => by have := h3 0 (.inl x); omega) (by have := h3 wo (.inr (.inl rfl)); omega) (fun x => by have := h3 0 (.inr (.inr x)); omega) hk hs hh hp (by rw [hl, h2])).mono ?_
  rintro x w' ⟨rfl, rv', F', e1, e2, e3⟩
  exact ⟨rfl, KOwn.of h.below h3 e1 (by simp [h2]) e2 e3⟩
theorem ask_w {w0 w : World} {wo : Nat} {t : St} {n : Nat} (h : KOwn w0 w wo t n) (hg : ErrVar w0) (hk : t.Ok) (hs : t.Small) (hh : t.held < 40) (page v : Int) (hp : 0 ≤ page ∧ page < 16) (hl : t.last = n) (hv : 0 ≤ v ∧ v ≤ 255) :
    Calls Tryd.prog 10 #[ptr wo, .bool true, .int .i64 page, .int .u8 v] w fun x w' => x = .returned (.bool true) ∧ KOwn w0 w' wo (t.add true page (askD v n)) (n + 1) := by
  obtain ⟨q, rv, F, rs, h1, h2, h3⟩ := h.ex
  have h0 : 0 < w0.heap.size := lt_of_cell hg
  refine (ask_write wo q rv F t rs w page v h1 (hg.chg (chgB h.below fun _ => False) fun x => x) (fun x => by have := h3 0 (.inl x); omega) (by have := h3 wo (.inr (.inl rfl)); omega) (fun x => by have := h3 0 (.inr (.inr x)); omega) hk hs hh hp (by rw [hl, h2]) hv).mono ?_
  rintro x w' ⟨rfl, rv', F', e1, e2, e3⟩
  rw [h2] at e1
  exact ⟨rfl, KOwn.of h.below h3 e1 (by simp [h2]) e2 e3⟩
theorem begun_k (d : Int) (w : World) (hg : ErrVar w) (hd : -9223372036854775808 ≤ d ∧ d ≤ 9223372036854775807) :
    Calls Tryd.prog 8 #[.int .i64 d] w fun x w' => ∃ wo, x = .returned (.tuple #[ptr wo, .bool true]) ∧ KOwn w w' wo (St.new (1 + pickI d 4).toNat) 0 := by
  refine (begun_any d w hg hd).mono ?_
  rintro x w' ⟨wo, q, F, rfl, h1, h2, h3, h4⟩
  refine ⟨wo, rfl, ⟨q, _, F, [], h1, rfl, fun k hk => ?_⟩, h4⟩
  rcases hk with h | h | h
  · exact h2 k h
  · omega
  · cases h
/-- The queue's own calls. -/
theorem KOwn.cell {w0 w : World} {wo : Nat} {t : St} {n : Nat} (h : KOwn w0 w wo t n) : ∃ q, w.cell? ⟨wo, 0, none⟩ = some (ptr q) ∧ ∃ F, QT w q t F ∧ (∀ k, F k → w0.heap.size ≤ k) ∧
    ∀ w' t' F', QT w' q t' F' → (∀ k, F' k → F k ∨ w.heap.size ≤ k) → Chg F w w' → KOwn w0 w' wo t' n := by
  obtain ⟨q, rv, F, rs, h1, h2, h3⟩ := h.ex
  refine ⟨q, h1.c0, F, h1.que, fun k hk => h3 k (.inl hk), fun w' t' F' hq hF hc => ?_⟩
  have hK := h1.que' hc hq hF
  exact KOwn.of h.below h3 hK h2 (fun k hk => by
    rcases hk with h | h | h
    · exact (hF k h).imp .inl id
    · exact .inl (.inr (.inl h))
    · exact .inl (.inr (.inr h))) (hc.mono fun k _ hk => .inl hk)

theorem KOwn.err {w0 w : World} {wo : Nat} {t : St} {n : Nat} (h : KOwn w0 w wo t n) (hg : ErrVar w0) : ErrVar w := hg.chg (chgB h.below fun _ => False) fun x => x
theorem KOwn.later {w0 w w' : World} {wo : Nat} {t : St} {n : Nat} (h : KOwn w0 w wo t n) (hb : Below w.heap.size w w') : KOwn w0 w' wo t n := by
  obtain ⟨q, rv, F, rs, h1, h2, h3⟩ := h.ex
  exact ⟨⟨q, rv, F, rs, h1.below hb, h2, h3⟩, h.below.trans (hb.mono h.below.size)⟩
theorem KOwn.cellA {w0 w : World} {wo : Nat} {t : St} {n : Nat} (h : KOwn w0 w wo t n) : ∃ q, w.cell? ⟨wo, 0, none⟩ = some (ptr q) ∧ wo < w.heap.size ∧ ∀ W, Below w.heap.size w W → ∃ F, QT W q t F ∧ (∀ k, F k → w0.heap.size ≤ k) ∧
    ∀ w' t' F', QT w' q t' F' → (∀ k, F' k → F k ∨ W.heap.size ≤ k) → Chg F W w' → KOwn w0 w' wo t' n := by
  obtain ⟨q, rv, F, rs, h1, h2, h3⟩ := h.ex
  refine ⟨q, h1.c0, lt_of_heap h1.blk, fun W hB => ⟨F, h1.que.below hB, fun k hk => h3 k (.inl hk), fun w' t' F' hq hF hc => ?_⟩⟩
  have hK := (h1.below hB).que' hc hq hF
  exact KOwn.of (h.below.trans (hB.mono h.below.size)) h3 hK h2 (fun k hk => by
    rcases hk with h | h | h
    · exact (hF k h).imp .inl id
    · exact .inl (.inr (.inl h))
    · exact .inl (.inr (.inr h))) (hc.mono fun k _ hk => .inl hk)
theorem complete_ka {w0 w : World} {wo : Nat} {t t' : St} {n : Nat} (h : KOwn w0 w wo t n) (hg : ErrVar w0) (hk : t.Ok) (hs : t.Small) (k : Nat) (fault : Bool) (hc : t.complete k fault = some t') : ∃ q, w.cell? ⟨wo, 0, none⟩ = some (ptr q) ∧ wo < w.heap.size ∧
    ∀ W, Below w.heap.size w W → Calls Tryd.prog 12 #[ptr q, .int .i64 k, .bool fault] W fun x w' => x = .returned (plErr 0 (-1) 0) ∧ KOwn w0 w' wo t' n := by
  obtain ⟨q, h1, h2, h3⟩ := h.cellA
  refine ⟨q, h1, h2, fun W hB => ?_⟩
  obtain ⟨F, f1, f2, f3⟩ := h3 W hB
  have h0 : 0 < w0.heap.size := lt_of_cell hg
  refine (complete_p f1 hk hs ((h.err hg).chg (chgB hB fun _ => False) fun x => x) (fun x => by have := f2 0 x; omega) k fault t' hc).mono ?_
  rintro x w' ⟨rfl, e1, e2⟩
  exact ⟨rfl, f3 w' _ F e1 (fun k hk => .inl hk) e2⟩
theorem step_k {w0 w : World} {wo q : Nat} {t : St} {n : Nat} {F : Nat → Prop} (hQ : QT w q t F) (_hF : ∀ k, F k → w0.heap.size ≤ k) (hput : ∀ w' t' F', QT w' q t' F' → (∀ k, F' k → F k ∨ w.heap.size ≤ k) → Chg F w w' → KOwn w0 w' wo t' n) (hk : t.Ok) (hs : t.Small) (c : Cmd) (hc : t.cmd = some c) :
    Calls Tryd.prog 11 #[ptr q] w fun x w' => ∃ va vc, x = .returned (.tuple #[.agg #[.bool c.write, .int .i64 c.page, .int .i64 c.count, .slice va c.nums.length vc], .bool true]) ∧ KOwn w0 w' wo (t.sent c) n := by
  refine (step_some_c hQ hk hs c hc).mono ?_
  rintro x w' ⟨v, F', rfl, e1, e2, _, e4, e5⟩
  obtain ⟨va, vc, rfl⟩ := own_slice e5
  exact ⟨va, vc, rfl, hput w' _ F' e1 e2 e4⟩
theorem complete_k {w0 w : World} {wo q : Nat} {t t' : St} {n : Nat} {F : Nat → Prop} (hQ : QT w q t F) (hF : ∀ k, F k → w0.heap.size ≤ k) (hput : ∀ w' t' F', QT w' q t' F' → (∀ k, F' k → F k ∨ w.heap.size ≤ k) → Chg F w w' → KOwn w0 w' wo t' n) (h0 : 0 < w0.heap.size) (hg : ErrVar w) (hk : t.Ok) (hs : t.Small) (k : Nat) (fault : Bool) (hc : t.complete k fault = some t') :
    Calls Tryd.prog 12 #[ptr q, .int .i64 k, .bool fault] w fun x w' => x = .returned (plErr 0 (-1) 0) ∧ KOwn w0 w' wo t' n := by
  refine (complete_p hQ hk hs hg (fun x => by have := hF 0 x; omega) k fault t' hc).mono ?_
  rintro x w' ⟨rfl, e1, e2⟩
  exact ⟨rfl, hput w' _ F e1 (fun k hk => .inl hk) e2⟩

theorem KOwn.len {w0 w : World} {wo : Nat} {t : St} {n : Nat} (h : KOwn w0 w wo t n) : ∃ ra rc, w.cell? ⟨wo, 1, none⟩ = some (.slice ra n rc) ∧ wo < w.heap.size := by
  obtain ⟨q, rv, F, rs, h1, h2, h3⟩ := h.ex
  obtain ⟨ra, rc, rfl⟩ := own_slice h1.row
  exact ⟨ra, rc, by rw [← h2]; exact h1.c1, lt_of_heap h1.blk⟩
theorem step_ka {w0 w : World} {wo : Nat} {t : St} {n : Nat} (h : KOwn w0 w wo t n) (hk : t.Ok) (hs : t.Small) : ∃ q, w.cell? ⟨wo, 0, none⟩ = some (ptr q) ∧ wo < w.heap.size ∧
    (t.cmd = none → ∀ W, Below w.heap.size w W → Calls Tryd.prog 11 #[ptr q] W fun x w' => x = .returned (.tuple #[noCmd, .bool false]) ∧ KOwn w0 w' wo t n) ∧
    (∀ c, t.cmd = some c → ∀ W, Below w.heap.size w W → Calls Tryd.prog 11 #[ptr q] W fun x w' => ∃ va vc, x = .returned (.tuple #[.agg #[.bool c.write, .int .i64 c.page, .int .i64 c.count, .slice va c.nums.length vc], .bool true]) ∧ KOwn w0 w' wo (t.sent c) n) := by
  obtain ⟨q, h1, h2, h3⟩ := h.cellA
  refine ⟨q, h1, h2, fun hc W hB => ?_, fun c hc W hB => ?_⟩
  · obtain ⟨F, f1, f2, f3⟩ := h3 W hB
    refine (step_none_c f1 hk hc).mono ?_
    rintro x w' ⟨rfl, e1⟩
    exact ⟨rfl, f3 w' _ F (f1.below e1) (fun k hk => .inl hk) (chgB e1 _)⟩
  · obtain ⟨F, f1, f2, f3⟩ := h3 W hB
    exact step_k f1 f2 f3 hk hs c hc
end Go.Proofs.YticobikhndlejaaDoor
