/- The statements' world in memory that the law has laid itself, with all that was asked: what each call makes of it. -/
import Derived.Test.YticobikhndlejaaGreatDoorGxQ
import Derived.Test.YticobikhndlejaaGreatDoorGxR
import Derived.Test.YticobikhndlejaaGreatDoorGxK
import Derived.Test.YticobikhndlejaaGreatDoorGxL
import Derived.Test.YticobikhndlejaaGreatDoorGxH
namespace Go.Proofs.YticobikhndlejaaGreatDoor
open Go.RowKit Go.Shelf Go.Lib

/-- A world of the law's own, laid behind block B. -/
structure KO (w0 w : World) (wo : Nat) (x : KW) : Prop where
  ex : ∃ q rv F, KB w wo q rv F x.t x.rs ∧ ∀ k, KFoot wo rv F k → w0.heap.size ≤ k
  below : Below w0.heap.size w0 w
theorem KO.of {w0 w w' : World} {wo q : Nat} {rv rv' : Value} {F F' : Nat → Prop} {x' : KW} (hb : Below w0.heap.size w0 w) (hf : ∀ k, KFoot wo rv F k → w0.heap.size ≤ k)
    (h1 : KB w' wo q rv' F' x'.t x'.rs) (h2 : ∀ k, KFoot wo rv' F' k → KFoot wo rv F k ∨ w.heap.size ≤ k) (h3 : Chg (KFoot wo rv F) w w') : KO w0 w' wo x' :=
  ⟨⟨q, rv', F', h1, fun k hk => (h2 k hk).elim (hf k) fun h => Nat.le_trans hb.size h⟩, hb.trans (h3.to_below hf hb.size)⟩
theorem KO.err {w0 w : World} {wo : Nat} {x : KW} (h : KO w0 w wo x) (hg : ErrVar w0) : ErrVar w := hg.chg (chgB h.below fun _ => False) fun x => x
theorem KO.later {w0 w w' : World} {wo : Nat} {x : KW} (h : KO w0 w wo x) (hb : Below w.heap.size w w') : KO w0 w' wo x := by
  obtain ⟨q, rv, F, h1, h3⟩ := h.ex
  exact ⟨⟨q, rv, F, h1.below hb, h3⟩, h.below.trans (hb.mono h.below.size)⟩
theorem KO.cell {w0 w : World} {wo : Nat} {x : KW} (h : KO w0 w wo x) : ∃ q, w.cell? ⟨wo, 0, none⟩ = some (ptr q) ∧ wo < w.heap.size ∧ ∀ W, Below w.heap.size w W → ∃ F, QT W q x.t F ∧ (∀ k, F k → w0.heap.size ≤ k ∧ k < w.heap.size) ∧
    ∀ w' t' F', QT w' q t' F' → (∀ k, F' k → F k ∨ W.heap.size ≤ k) → Chg F W w' → KO w0 w' wo ⟨x.rs, t'⟩ := by
  obtain ⟨q, rv, F0, h0, h3'⟩ := h.ex
  have h1 := h0.lt
  have h3 : ∀ k, KFoot wo rv (fun k => F0 k ∧ k < w.heap.size) k → w0.heap.size ≤ k := fun k hk => h3' k (hk.imp (fun x => x.1) id)
  refine ⟨q, h1.c0, lt_of_heap h1.blk, fun W hB => ⟨_, h1.que.below hB, fun k hk => ⟨h3 k (.inl hk), hk.2⟩, fun w' t' F' hq hF hc => ?_⟩⟩
  have hK := (h1.below hB).que' hc hq hF
  exact KO.of (h.below.trans (hB.mono h.below.size)) h3 hK (fun k hk => by
    rcases hk with h | h | h
    · exact (hF k h).imp .inl id
    · exact .inl (.inr (.inl h))
    · exact .inl (.inr (.inr h))) (hc.mono fun k _ hk => .inl hk)
/-- What was asked: its row, cell by cell, in every later world. -/
theorem KO.rows {w0 w : World} {wo : Nat} {x : KW} (h : KO w0 w wo x) : ∃ ra rc, w.cell? ⟨wo, 1, none⟩ = some (.slice ra x.rs.length rc) ∧ wo < w.heap.size ∧
    ∀ (i : Nat) (r : KReq), x.rs[i]? = some r → ∃ g, ra = some ⟨g, 0, none⟩ ∧ g < w.heap.size ∧ (∀ j v, (kCells r)[j]? = some v → w.cell? ⟨g, i * 6 + j, none⟩ = some v) ∧ (∀ j, w.frozen? ⟨g, j, none⟩ = false) := by
  obtain ⟨q, rv, F, h1, h3⟩ := h.ex
  obtain ⟨ra, rc, rfl⟩ := own_slice h1.row
  refine ⟨ra, rc, h1.c1, lt_of_heap h1.blk, fun i r hi => ?_⟩
  obtain ⟨g, cap, cur, e, hg, _, _, _, _, hc⟩ := h1.cells hi
  simp only [Value.slice.injEq] at e
  exact ⟨g, e.1, lt_of_heap hg, hc, fun j => free_of hg⟩
theorem begun_o (d : Int) (w : World) (hg : ErrVar w) (hd : -9223372036854775808 ≤ d ∧ d ≤ 9223372036854775807) :
    Calls Tryz.prog 12 #[.int .i64 d] w fun x w' => ∃ wo, x = .returned (.tuple #[ptr wo, .bool true]) ∧ KO w w' wo ⟨[], St.new (1 + pickI d 4).toNat⟩ := by
  refine (begun_k d w hg hd).mono ?_
  rintro x w' ⟨wo, rfl, h1⟩
  obtain ⟨q, rv, F, rs, h2, h3, h4⟩ := h1.ex
  obtain rfl : rs = [] := List.length_eq_zero_iff.1 h3
  exact ⟨wo, rfl, ⟨q, rv, F, h2, h4⟩, h1.below⟩
theorem KO.sides {w0 w : World} {wo q : Nat} {rv : Value} {F : Nat → Prop} {x : KW} (h3 : ∀ k, KFoot wo rv F k → w0.heap.size ≤ k) (hg : ErrVar w0) : ¬ F 0 ∧ wo ≠ 0 ∧ rv.ownBlock ≠ some 0 := by
  have h0 : 0 < w0.heap.size := lt_of_cell hg
  exact ⟨fun x => by have := h3 0 (.inl x); omega, by have := h3 wo (.inr (.inl rfl)); omega, fun x => by have := h3 0 (.inr (.inr x)); omega⟩
theorem askR_o {w0 w : World} {wo : Nat} {x : KW} (h : KO w0 w wo x) (hg : ErrVar w0) (hi : KInv x) (hs : x.t.Small) (hh : x.t.held < 40) (page v : Int) (hp : 0 ≤ page ∧ page < 16) :
    Calls Tryz.prog 14 #[ptr wo, .bool false, .int .i64 page, .int .u8 v] w fun y w' => y = .returned (.bool true) ∧ KO w0 w' wo (x.askR page) := by
  obtain ⟨q, rv, F, h1, h3⟩ := h.ex
  obtain ⟨s1, s2, s3⟩ := KO.sides (w := w) (q := q) (x := x) h3 hg
  refine (ask_read wo q rv F x.t x.rs w page v h1 (h.err hg) s1 s2 s3 hi.ok hs hh hp hi.last).mono ?_
  rintro y w' ⟨rfl, rv', F', e1, e2, e3⟩
  unfold KW.askR
  rw [if_neg (by omega)]
  exact ⟨rfl, KO.of h.below h3 e1 e2 e3⟩
theorem askW_o {w0 w : World} {wo : Nat} {x : KW} (h : KO w0 w wo x) (hg : ErrVar w0) (hi : KInv x) (hs : x.t.Small) (hh : x.t.held < 40) (page v : Int) (hp : 0 ≤ page ∧ page < 16) (hv : 0 ≤ v ∧ v ≤ 255) :
    Calls Tryz.prog 14 #[ptr wo, .bool true, .int .i64 page, .int .u8 v] w fun y w' => y = .returned (.bool true) ∧ KO w0 w' wo (x.askW page v) := by
  obtain ⟨q, rv, F, h1, h3⟩ := h.ex
  obtain ⟨s1, s2, s3⟩ := KO.sides (w := w) (q := q) (x := x) h3 hg
  refine (ask_write wo q rv F x.t x.rs w page v h1 (h.err hg) s1 s2 s3 hi.ok hs hh hp hi.last hv).mono ?_
  rintro y w' ⟨rfl, rv', F', e1, e2, e3⟩
  unfold KW.askW
  rw [if_neg (by omega)]
  exact ⟨rfl, KO.of h.below h3 e1 e2 e3⟩
/-- Step, by the queue's own place. -/
theorem step_o {w0 w : World} {wo : Nat} {x : KW} (h : KO w0 w wo x) (hk : x.t.Ok) (hs : x.t.Small) : ∃ q, w.cell? ⟨wo, 0, none⟩ = some (ptr q) ∧ wo < w.heap.size ∧
    (x.t.cmd = none → ∀ W, Below w.heap.size w W → Calls Tryz.prog 18 #[ptr q] W fun y w' => y = .returned (.tuple #[noCmd, .bool false]) ∧ KO w0 w' wo x ∧ Below W.heap.size W w') ∧
    (∀ c, x.t.cmd = some c → ∀ W, Below w.heap.size w W → Calls Tryz.prog 18 #[ptr q] W fun y w' => ∃ va vc, y = .returned (.tuple #[.agg #[.bool c.write, .int .i64 c.page, .int .i64 c.count, .slice va c.nums.length vc], .bool true]) ∧ KO w0 w' wo ⟨x.rs, x.t.sent c⟩ ∧ Chg (fun k => k < w.heap.size) W w' ∧ w'.ownsRow W.heap.size 3 1 (.slice va c.nums.length vc) c.nums.length (c.nums.map fun n => Value.int .i64 n)) := by
  obtain ⟨q, h1, h2, h3⟩ := h.cell
  refine ⟨q, h1, h2, fun hc W hB => ?_, fun c hc W hB => ?_⟩
  · obtain ⟨F, f1, f2, f3⟩ := h3 W hB
    refine (step_none_c f1 hk hc).mono ?_
    rintro y w' ⟨rfl, e1⟩
    exact ⟨rfl, f3 w' _ F (f1.below e1) (fun k hk => .inl hk) (chgB e1 _), e1⟩
  · obtain ⟨F, f1, f2, f3⟩ := h3 W hB
    refine (step_some_c f1 hk hs c hc).mono ?_
    rintro y w' ⟨v, F', rfl, e1, e2, _, e4, e5⟩
    obtain ⟨va, vc, rfl⟩ := own_slice e5
    exact ⟨va, vc, rfl, f3 w' _ F' e1 e2 e4, e4.mono fun k _ hk => (f2 k hk).2, e5⟩
theorem comp_o {w0 w : World} {wo : Nat} {x : KW} (h : KO w0 w wo x) (hg : ErrVar w0) (hk : x.t.Ok) (hs : x.t.Small) : ∃ q, w.cell? ⟨wo, 0, none⟩ = some (ptr q) ∧ wo < w.heap.size ∧
    (∀ (k : Nat) (fault : Bool) t', x.t.complete k fault = some t' → ∀ W, Below w.heap.size w W → Calls Tryz.prog 19 #[ptr q, .int .i64 k, .bool fault] W fun y w' => y = .returned (plErr 0 (-1) 0) ∧ KO w0 w' wo ⟨x.rs, t'⟩ ∧ Chg (fun k => k < w.heap.size) W w') ∧
    (∀ (k : Nat) (fault : Bool), x.t.complete k fault = none → ∀ W, Below w.heap.size w W → Calls Tryz.prog 19 #[ptr q, .int .i64 k, .bool fault] W fun y w' => y = .returned (plErr 10 (-1) 0) ∧ KO w0 w' wo x ∧ Below W.heap.size W w') := by
  obtain ⟨q, h1, h2, h3⟩ := h.cell
  have h0 : 0 < w0.heap.size := lt_of_cell hg
  refine ⟨q, h1, h2, fun k fault t' hc W hB => ?_, fun k fault hc W hB => ?_⟩
  · obtain ⟨F, f1, f2, f3⟩ := h3 W hB
    refine (complete_p f1 hk hs ((h.err hg).chg (chgB hB fun _ => False) fun x => x) (fun x => by have := (f2 0 x).1; omega) k fault t' hc).mono ?_
    rintro y w' ⟨rfl, e1, e2⟩
    exact ⟨rfl, f3 w' _ F e1 (fun k hk => .inl hk) e2, e2.mono fun k _ hk => (f2 k hk).2⟩
  · obtain ⟨F, f1, f2, f3⟩ := h3 W hB
    have hlen : x.t.cs.length ≤ k := by
      unfold St.complete at hc
      split at hc
      · rename_i he
        simpa using he
      · cases hc
    refine (complete_no_p f1 ((h.err hg).chg (chgB hB fun _ => False) fun x => x) k fault (.inr (by omega))).mono ?_
    rintro y w' ⟨rfl, e1⟩
    exact ⟨rfl, f3 w' _ F (f1.below e1) (fun k hk => .inl hk) (chgB e1 _), e1⟩
theorem tick_o {w0 w : World} {wo : Nat} {x : KW} (h : KO w0 w wo x) (hk : x.t.Ok) (hs : x.t.Small) : ∃ q, w.cell? ⟨wo, 0, none⟩ = some (ptr q) ∧ wo < w.heap.size ∧
    ∀ W, Below w.heap.size w W → Calls Tryz.prog 42 #[ptr q] W fun y w' => y = .returned (.tuple #[]) ∧ KO w0 w' wo ⟨x.rs, x.t.tick⟩ ∧ Chg (fun k => k < w.heap.size) W w' := by
  obtain ⟨q, h1, h2, h3⟩ := h.cell
  refine ⟨q, h1, h2, fun W hB => ?_⟩
  obtain ⟨F, f1, f2, f3⟩ := h3 W hB
  refine (tick_c f1 hk hs).mono ?_
  rintro y w' ⟨rfl, e1, e2⟩
  exact ⟨rfl, f3 w' _ F e1 (fun k hk => .inl hk) e2, e2.mono fun k _ hk => (f2 k hk).2⟩
theorem disk_o {w0 w : World} {wo : Nat} {x : KW} (h : KO w0 w wo x) : ∃ q, w.cell? ⟨wo, 0, none⟩ = some (ptr q) ∧ wo < w.heap.size ∧
    ∀ W, Below w.heap.size w W → Calls Tryz.prog 23 #[ptr q] W fun y w' => ∃ v, y = .returned v ∧ w'.ownsRow W.heap.size 5 1 v 64 (x.t.disk.map fun b => Value.int .u8 b) ∧ Below W.heap.size W w' ∧ KO w0 w' wo x := by
  obtain ⟨q, h1, h2, h3⟩ := h.cell
  refine ⟨q, h1, h2, fun W hB => ?_⟩
  obtain ⟨F, f1, f2, f3⟩ := h3 W hB
  refine (disk_c f1).mono ?_
  rintro y w' ⟨v, rfl, e1, e2⟩
  exact ⟨v, rfl, e1, e2, f3 w' _ F (f1.below e2) (fun k hk => .inl hk) (chgB e2 _)⟩
theorem pend_o {w0 w : World} {wo : Nat} {x : KW} (h : KO w0 w wo x) (hg : ErrVar w0) (n : Int) (r : Req) (hf : x.t.find n = some r) (hr : r.state = 0 ∨ r.state = 1) : ∃ q, w.cell? ⟨wo, 0, none⟩ = some (ptr q) ∧ wo < w.heap.size ∧
    ∀ W, Below w.heap.size w W → Calls Tryz.prog 16 #[ptr q, .int .i64 n] W fun y w' => y = .returned (.tuple #[noAns, plErr 6 n r.tries]) ∧ Below W.heap.size W w' ∧ KO w0 w' wo x := by
  obtain ⟨q, h1, h2, h3⟩ := h.cell
  refine ⟨q, h1, h2, fun W hB => ?_⟩
  obtain ⟨F, f1, f2, f3⟩ := h3 W hB
  refine (poll_pend_p f1 ((h.err hg).chg (chgB hB fun _ => False) fun x => x) n r hf hr).mono ?_
  rintro y w' ⟨rfl, e1⟩
  exact ⟨rfl, e1, f3 w' _ F (f1.below e1) (fun k hk => .inl hk) (chgB e1 _)⟩
end Go.Proofs.YticobikhndlejaaGreatDoor

/- Flights, Waiting, Crash in plain states, and of a law's own world. -/
namespace Go.Proofs.YticobikhndlejaaGreatDoor
open Go.RowKit Go.Shelf Go.Lib

theorem cmd_len {t : St} (h : t.Ok) {c : Cmd} (hc : c ∈ t.cs) : (c.nums.length : Int) ≤ t.last := by
  have hnd : c.nums.Nodup := (List.pairwise_flatMap.1 h.a.rs.nodup).1 c hc
  have := len_sub c.nums hnd (t.rs.map (·.num)) fun n hn => by
    obtain ⟨r, hr, hrn, _⟩ := (h.cmds c hc).ins n hn
    exact List.mem_map.2 ⟨r, hr, hrn⟩
  rw [List.length_map] at this
  have := ok_len h
  omega
theorem er_cs {s : Sta} : s.er.cs = s.cs.map (·.1) := rfl
theorem sta_len {s : Sta} (h : s.er.Ok) (hs : s.er.Small) : (∀ c ∈ s.cs, c.1.nums.length ≤ 1000000) ∧ s.cs.length ≤ 1000 := by
  refine ⟨fun c hc => ?_, ?_⟩
  · have := cmd_len h (c := c.1) (List.mem_map_of_mem hc)
    have := hs.last
    omega
  · have h1 := h.len
    have h2 := h.a.depth
    have h3 : s.er.cs.length = s.cs.length := by simp [Sta.er]
    omega
section
variable {q : Nat} {t : St} {F : Nat → Prop} {w : World}
theorem flights_c (h : QT w q t F) (hk : t.Ok) (hs : t.Small) :
    Calls Tryz.prog 22 #[ptr q] w fun x w' => ∃ v cs', x = .returned v ∧ cs'.map (·.1) = t.cs ∧ CmdsAt w' w.heap.size v cs' ∧ Below w.heap.size w w' := by
  obtain ⟨s, h1, rfl⟩ := h
  exact flights_any q s F w h1 (sta_len hk hs).1 (sta_len hk hs).2
theorem waiting_c (h : QT w q t F) (hk : t.Ok) (hs : t.Small) :
    Calls Tryz.prog 20 #[ptr q] w fun x w' => ∃ v, x = .returned v ∧ w'.ownsRow w.heap.size 3 1 v t.waiting.length (t.waiting.map fun n => Value.int .i64 n) ∧ Below w.heap.size w w' := by
  obtain ⟨s, h1, rfl⟩ := h
  have e : s.er.waiting = waitE s.es := by
    unfold St.waiting waitE Sta.er
    simp only [List.filter_map, List.map_map]
    rfl
  rw [e]
  exact waiting_any q s F w h1
theorem crash_c (h : QT w q t F) (hk : t.Ok) (hs : t.Small) (v : Value) (l : List Bool) (hB : BRow w v l) (hv : ∀ k, v.ownBlock = some k → ¬ F k) :
    Calls Tryz.prog 24 #[ptr q, v] w fun x w' => x = .returned (.tuple #[]) ∧ QT w' q (t.crash fun i => l.getD i false) F ∧ Chg F w w' := by
  obtain ⟨s, h1, rfl⟩ := h
  refine (crash_any q s F w v l h1 hB hv (fun c hc hw n hn => ?_) (sta_len hk hs).1 (sta_len hk hs).2).mono ?_
  · obtain ⟨r, hr, hrn, _⟩ := (hk.cmds c.1 (List.mem_map_of_mem hc)).ins n hn
    obtain ⟨e, he, rfl⟩ := List.mem_map.1 hr
    exact ⟨e, he, hrn⟩
  · rintro x w' ⟨e1, e2, e3⟩
    refine ⟨e1, ⟨_, e2, ?_⟩, e3⟩
    simp [Sta.er, St.crash, wnums]
end
theorem flights_o {w0 w : World} {wo : Nat} {x : KW} (h : KO w0 w wo x) (hk : x.t.Ok) (hs : x.t.Small) : ∃ q, w.cell? ⟨wo, 0, none⟩ = some (ptr q) ∧ wo < w.heap.size ∧
    ∀ W, Below w.heap.size w W → Calls Tryz.prog 22 #[ptr q] W fun y w' => ∃ v cs', y = .returned v ∧ cs'.map (·.1) = x.t.cs ∧ CmdsAt w' W.heap.size v cs' ∧ Below W.heap.size W w' := by
  obtain ⟨q, h1, h2, h3⟩ := h.cell
  refine ⟨q, h1, h2, fun W hB => ?_⟩
  obtain ⟨F, f1, f2, f3⟩ := h3 W hB
  exact flights_c f1 hk hs
theorem waiting_o {w0 w : World} {wo : Nat} {x : KW} (h : KO w0 w wo x) (hk : x.t.Ok) (hs : x.t.Small) : ∃ q, w.cell? ⟨wo, 0, none⟩ = some (ptr q) ∧ wo < w.heap.size ∧
    ∀ W, Below w.heap.size w W → Calls Tryz.prog 20 #[ptr q] W fun y w' => ∃ v, y = .returned v ∧ w'.ownsRow W.heap.size 3 1 v x.t.waiting.length (x.t.waiting.map fun n => Value.int .i64 n) ∧ Below W.heap.size W w' := by
  obtain ⟨q, h1, h2, h3⟩ := h.cell
  refine ⟨q, h1, h2, fun W hB => ?_⟩
  obtain ⟨F, f1, f2, f3⟩ := h3 W hB
  exact waiting_c f1 hk hs
end Go.Proofs.YticobikhndlejaaGreatDoor

/- keep.flies by contract. -/
namespace Go.Proofs.YticobikhndlejaaGreatDoor
open Go.RowKit Go.Shelf Go.Lib

set_option maxRecDepth 100000 in
theorem flies_o {w0 w : World} {wo : Nat} {x : KW} (h : KO w0 w wo x) (hk : x.t.Ok) (hs : x.t.Small) (num : Int) :
    Calls Tryz.prog 75 #[ptr wo, .int .i64 num] w fun y w' => y = .returned (.bool (x.t.flies num)) ∧ Below w.heap.size w w' := by
  obtain ⟨q, c0, hwl, hF⟩ := flights_o h hk hs
  have HF := Lib.hid (hF w (Below.refl _ _))
  have hcl : x.t.cs.length ≤ 4 := Nat.le_trans hk.len hk.a.depth.2
  have hnl : ∀ c ∈ x.t.cs, c.nums.length < 1000000 := fun c hc => by
    have h1 := cmd_len hk hc
    have h2 := hs.last
    omega
  have HNL := Lib.hid hnl
  obtain ⟨n, hn⟩ : ∃ n, x.t.cs.length = n := ⟨_, rfl⟩
  rw [hn] at hcl
  clear h hF hnl
  go_enter Tryz.func75, Tryz.ntmps75
  go_wp2_with fail
  refine HF.out.mono ?_
  rintro y w1 ⟨v, cs', rfl, hcs, hC, hB⟩
  have hlen : cs'.length = n := by rw [← hn, ← hcs, List.length_map]
  have hrow := hC.row
  rw [hlen] at hrow
  obtain ⟨va, vc, rfl⟩ := own_slice hrow
  have HC := Lib.hid hC
  have HB := Lib.hid hB
  have HCS := Lib.hid hcs
  have HLEN := Lib.hid hlen
  have HN := Lib.hid hn
  clear hrow hC hB hcs hlen hn
  go_wp2_with fail
  go_loopg [6] n (fun k i wr => ∃ (j : Nat), k = n - j ∧ j ≤ n ∧ i = .int .i64 j ∧ wr = w1 ∧ Hid (∀ c ∈ x.t.cs.take j, c.nums.any (· == num) = false))
  case atStart => exact ⟨0, by simp, by omega, rfl, rfl, Lib.hid (by simp)⟩
  case round =>
    obtain ⟨j, rfl, hj, rfl, rfl, hnone⟩ := hrel
    by_cases hlt : j < n
    · have hltI : (j : Int) < (n : Int) := by omega
      obtain ⟨⟨c, cv⟩, hc⟩ : ∃ c, cs'[j]? = some c := ⟨_, List.getElem?_eq_getElem (by rw [HLEN.out]; exact hlt)⟩
      have hcx : x.t.cs[j]? = some c := by rw [← HCS.out, List.getElem?_map, hc]; rfl
      have hcm : (c, cv) ∈ cs' := List.mem_of_getElem? hc
      have hcxm : c ∈ x.t.cs := List.mem_of_getElem? hcx
      have hrow := HC.out.rows _ hcm
      obtain ⟨ra, rc, rfl⟩ : ∃ ra rc, cv = .slice ra c.nums.length rc := own_slice hrow
      obtain ⟨g, cap, e, _, hgl, hcell⟩ := cmd_cells HC.out.row hc
      simp only [Value.slice.injEq] at e
      obtain ⟨rfl, _, rfl⟩ := e
      obtain ⟨m, hm⟩ : ∃ m, c.nums.length = m := ⟨_, rfl⟩
      have p3 : wr.cell? ⟨g, j * 4 + 3, none⟩ = some (.slice ra m rc) := by rw [← hm]; exact hcell 3 _ rfl
      have hml : m < 1000000 := by rw [← hm]; exact HNL.out c hcxm
      simp only at hrow
      rw [hm] at hrow
      have HR := Lib.hid hrow
      have HX := Lib.hid (And.intro hcx (And.intro hcxm hm))
      clear hcell hc hcm hcx hcxm hm hrow
      go_wp2_with fail
      go_loopg [7] m (fun kk iv wx => ∃ (i : Nat), kk = m - i ∧ i ≤ m ∧ iv = .int .i64 i ∧ wx = wr ∧ Hid ((c.nums.take i).any (· == num) = false))
      case atStart => exact ⟨0, by simp, by omega, rfl, rfl, Lib.hid (by simp)⟩
      case round =>
        obtain ⟨i, rfl, hi, rfl, rfl, hno⟩ := hrel
        by_cases hilt : i < m
        · have hiltI : (i : Int) < (m : Int) := by omega
          obtain ⟨a, ha⟩ : ∃ a, c.nums[i]? = some a := ⟨_, List.getElem?_eq_getElem (by rw [HX.out.2.2]; exact hilt)⟩
          obtain ⟨rg, rfl, hrgl, _, hac⟩ := row_at HR.out (j := i) (x := .int .i64 a) (by rw [List.getElem?_map, ha]; rfl) (by rw [List.length_map]; exact HX.out.2.2)
          by_cases he : a = num
          · subst he
            go_wp2_with fail
            go_ret
            refine ⟨?_, HB.out⟩
            have : x.t.flies a = true := by
              unfold St.flies
              rw [List.any_eq_true]
              exact ⟨c, HX.out.2.1, List.any_eq_true.2 ⟨a, List.mem_of_getElem? ha, by simp⟩⟩
            rw [this]
            rfl
          · go_wp2_with fail
            go_roundg (m - (i + 1))
            case measure => omega
            case rel =>
              refine ⟨i + 1, rfl, by omega, by go_num, rfl, Lib.hid ?_⟩
              obtain ⟨h1, h2⟩ := List.getElem?_eq_some_iff.1 ha
              rw [List.take_succ_eq_append_getElem h1, h2, List.any_append, hno.out]
              simp [he]
        · obtain rfl : i = m := by omega
          go_wp2_with fail
          go_roundg (n - (j + 1))
          case measure => omega
          case rel =>
            refine ⟨j + 1, rfl, by omega, by go_num, rfl, Lib.hid ?_⟩
            obtain ⟨h1, h2⟩ := List.getElem?_eq_some_iff.1 HX.out.1
            intro d hd
            rw [List.take_succ_eq_append_getElem h1, h2] at hd
            rcases List.mem_append.1 hd with hd | hd
            · exact hnone.out d hd
            · rw [List.mem_singleton] at hd
              subst hd
              have := hno.out
              rwa [List.take_of_length_le (by rw [HX.out.2.2]; exact Nat.le_refl _)] at this
    · obtain rfl : j = n := by omega
      go_wp2_with fail
      go_ret
      refine ⟨?_, HB.out⟩
      have : x.t.flies num = false := by
        unfold St.flies
        have := hnone.out
        rw [List.take_of_length_le (by rw [HN.out]; exact Nat.le_refl _)] at this
        rw [Bool.eq_false_iff]
        intro hh
        obtain ⟨c, hc, h2⟩ := List.any_eq_true.1 hh
        rw [this c hc] at h2
        cases h2
      rw [this]
      rfl
end Go.Proofs.YticobikhndlejaaGreatDoor

/- Cancel by contract. -/
namespace Go.Proofs.YticobikhndlejaaGreatDoor
open Go.RowKit Go.Shelf Go.Lib

set_option maxRecDepth 100000 in
theorem cancel_none (q : Nat) (s : Sta) (F : Nat → Prop) (w : World) (n : Int) (h : QAt w q s F) (hf : findE s.es n = none) :
    Calls Tryz.prog 35 #[ptr q, .int .i64 n] w fun x w' => x = .returned (errK 5) ∧ w' = w := by
  obtain ⟨tb, mb, clock, fv, hq, hF⟩ := h
  have c1 := hq.c1
  have HQ := Lib.hid hq
  have hfc := find_any tb mb clock s.last s.held n s.es
  rw [hf] at hfc
  have HC := Lib.hid hfc
  clear hq hF hfc hf
  go_enter Tryz.func35, Tryz.ntmps35
  go_wp2_with fail
  refine (HC.out w HQ.out.tab).mono ?_
  rintro x w1 ⟨rfl, rfl⟩
  dsimp only
  go_wp2_with fail
  go_ret
  exact ⟨rfl, rfl⟩

set_option maxRecDepth 100000 in
theorem cancel_done (q : Nat) (s : Sta) (F : Nat → Prop) (w : World) (n : Int) (e : Ent) (h : QAt w q s F) (hf : findE s.es n = some e) (hs : 2 ≤ e.r.state) :
    Calls Tryz.prog 35 #[ptr q, .int .i64 n] w fun x w' => ∃ b, x = .returned (errR b) ∧ ReqErr w' b n e.r.tries 9 ∧ w.heap.size ≤ b ∧ Below w.heap.size w w' := by
  obtain ⟨tb, mb, clock, fv, hq, hF⟩ := h
  obtain ⟨hem, hen, het⟩ := findE_some hf
  have c1 := hq.c1
  have hreq := hq.tab.reqs e hem
  have c7 := hreq.at.c7
  have HQ := Lib.hid hq
  have hfc := find_any tb mb clock s.last s.held n s.es
  rw [hf] at hfc
  have HC := Lib.hid hfc
  have HFL := Lib.hid (fail_any e.p e.r 9 w hreq)
  have HN := Lib.hid hen
  have hge : e.r.state ≥ 2 := hs
  clear hq hF hfc hf hreq hem hen het
  go_enter Tryz.func35, Tryz.ntmps35
  go_wp2_with fail
  refine (HC.out w HQ.out.tab).mono ?_
  rintro x w1 ⟨rfl, rfl⟩
  dsimp only
  go_wp2_with fail
  refine HFL.out.mono ?_
  rintro x w2 ⟨b, rfl, hE, hb, hB2⟩
  have HE := Lib.hid hE
  have HB2 := Lib.hid hB2
  clear hE hB2
  go_wp2_with fail
  go_ret
  exact ⟨b, rfl, by have := HE.out; rw [HN.out] at this; exact this, hb, HB2.out⟩

def giveR (r : Req) : Req := { r with state := 4 }
theorem foot_upd {q tb mb : Nat} {fv : Value} {s : Sta} {n : Int} {f : Req → Req} {k : Nat} (hk : QFoot q tb mb fv { s with es := updE s.es n f } k) : QFoot q tb mb fv s k := by
  rcases hk with h | h | h | h | ⟨x, hx, h⟩ | h
  · exact .inl h
  · exact .inr (.inl h)
  · exact .inr (.inr (.inl h))
  · exact .inr (.inr (.inr (.inl h)))
  · obtain ⟨y, hy, rfl⟩ := List.mem_map.1 hx
    exact .inr (.inr (.inr (.inr (.inl ⟨y, hy, by rw [h]; split <;> rfl⟩))))
  · exact .inr (.inr (.inr (.inr (.inr h))))

set_option maxRecDepth 100000 in
theorem cancel_ok (q : Nat) (s : Sta) (F : Nat → Prop) (w : World) (n : Int) (e : Ent) (h : QAt w q s F) (hf : findE s.es n = some e) (hs : e.r.state < 2) :
    Calls Tryz.prog 35 #[ptr q, .int .i64 n] w fun x w' => x = .returned .nilIface ∧ QAt w' q { s with es := updE s.es n giveR } F ∧ Chg F w w' := by
  obtain ⟨tb, mb, clock, fv, hq, hF⟩ := h
  obtain ⟨hem, hen, het⟩ := findE_some hf
  have c1 := hq.c1
  have hreq := hq.tab.reqs e hem
  have c7 := hreq.at.c7
  have f7 : w.frozen? ⟨e.p, 7, none⟩ = false := free_of hreq
  have HQ := Lib.hid hq
  have hfc := find_any tb mb clock s.last s.held n s.es
  rw [hf] at hfc
  have HC := Lib.hid hfc
  have HN := Lib.hid hen
  have HM := Lib.hid hem
  have HF := Lib.hid hF
  have HR := Lib.hid hreq
  have hge : ¬ e.r.state ≥ 2 := by omega
  clear hq hF hfc hf hreq hem hen het
  go_enter Tryz.func35, Tryz.ntmps35
  go_wp2_with fail
  refine (HC.out w HQ.out.tab).mono ?_
  rintro x w1 ⟨rfl, rfl⟩
  dsimp only
  go_wp2_with fail
  go_ret
  have hc : Chg (fun k => k = e.p) w1 (w1.setCell ⟨e.p, 7, none⟩ (.int .i64 4)) := chg_set _
  have hT := HQ.out.tab.upd (W := w1.setCell ⟨e.p, 7, none⟩ (.int .i64 4)) HM.out giveR (fun r => ⟨rfl, rfl⟩) (heap_setCell (i := 7) _ HR.out) hc
  rw [HN.out] at hT
  exact ⟨rfl, ⟨tb, mb, clock, fv, HQ.out.tabs clock { s with es := updE s.es n giveR } ⟨rfl, rfl, rfl, rfl⟩ rfl hT hc (fun k hk => .inr (.inr ⟨e, HM.out, hk⟩)), fun k hk => HF.out k (foot_upd hk)⟩, hc.mono fun k _ hk => HF.out k (foot_tabs3 HM.out (.inr (.inr hk)))⟩
end Go.Proofs.YticobikhndlejaaGreatDoor

/- plain.Cancel by contracts, in plain states. -/
namespace Go.Proofs.YticobikhndlejaaGreatDoor
open Go.RowKit Go.Shelf Go.Lib

set_option maxRecDepth 100000 in
theorem plCancel_of (q : Nat) (n k r t : Int) (w : World) (P : Value → World → Prop)
    (hM : Calls Tryz.prog 35 #[ptr q, .int .i64 n] (w.alloc zErr) fun x w' => ∃ err, x = .returned err ∧ P err w')
    (hP : ∀ err w', P err w' → ErrVar w' ∧ ErrIs w' err k r t ∧ w'.heap[w.heap.size]? = some zErr) :
    Calls Tryz.prog 15 #[ptr q, .int .i64 n] w fun x w' => ∃ err w1, x = .returned (plErr k r t) ∧ P err w1 ∧ Chg (fun k => k = w.heap.size) w1 w' := by
  have HM := Lib.hid hM
  have HP := Lib.hid hP
  clear hM hP
  go_enter Tryz.func15, Tryz.ntmps15
  go_wp2_with fail
  refine HM.out.mono ?_
  rintro x w1 ⟨err, rfl, hp⟩
  obtain ⟨hg, he, hz⟩ := HP.out err w1 hp
  have HT := Lib.hid (told_any hg he)
  have HPP := Lib.hid hp
  have HZ := Lib.hid hz
  clear hp hg he hz
  go_wp2_with fail
  refine HT.out.mono ?_
  rintro x w2 ⟨rfl, hB⟩
  have hz2 : w2.heap[w.heap.size]? = some zErr := (hB.block _ (lt_of_heap HZ.out)).trans HZ.out
  have z0 : w2.cell? ⟨w.heap.size, 0, none⟩ = some (.int .i64 0) := cell_of hz2 rfl
  have z1 : w2.cell? ⟨w.heap.size, 1, none⟩ = some (.int .i64 0) := cell_of hz2 rfl
  have z2 : w2.cell? ⟨w.heap.size, 2, none⟩ = some (.int .i64 0) := cell_of hz2 rfl
  have z3 : w2.cell? ⟨w.heap.size, 3, none⟩ = some (.bool false) := cell_of hz2 rfl
  have zf : ∀ i, w2.frozen? ⟨w.heap.size, i, none⟩ = false := fun i => free_of hz2
  have HB := Lib.hid hB
  have HZ2 := Lib.hid hz2
  clear hB hz2
  go_wp2_with fail
  obtain ⟨e5, hc5⟩ := err_set (W := w2) (.int .i64 k) (.int .i64 r) (.int .i64 t) (.bool true) HZ2.out
  obtain ⟨W5, hW5⟩ : ∃ W5, ((((w2.setCell ⟨w.heap.size, 0, none⟩ (.int .i64 k)).setCell ⟨w.heap.size, 1, none⟩ (.int .i64 r)).setCell ⟨w.heap.size, 2, none⟩ (.int .i64 t)).setCell ⟨w.heap.size, 3, none⟩ (.bool true)) = W5 := ⟨_, rfl⟩
  rw [hW5] at e5 hc5 ⊢
  have y0 : W5.cell? ⟨w.heap.size, 0, none⟩ = some (.int .i64 k) := cell_of e5 rfl
  have y1 : W5.cell? ⟨w.heap.size, 1, none⟩ = some (.int .i64 r) := cell_of e5 rfl
  have y2 : W5.cell? ⟨w.heap.size, 2, none⟩ = some (.int .i64 t) := cell_of e5 rfl
  have y3 : W5.cell? ⟨w.heap.size, 3, none⟩ = some (.bool true) := cell_of e5 rfl
  refine bodyPost_ret (v := plErr k r t) (by simp [results, Tryz.results15, go_sem, y0, y1, y2, y3]) rfl ⟨err, w1, rfl, HPP.out, (chgB HB.out _).then hc5⟩
section
variable {q : Nat} {t : St} {F : Nat → Prop} {w : World}
theorem cancel_none_p (h : QT w q t F) (hg : ErrVar w) (n : Int) (hf : t.find n = none) :
    Calls Tryz.prog 15 #[ptr q, .int .i64 n] w fun x w' => x = .returned (plErr 5 (-1) 0) ∧ Below w.heap.size w w' := by
  refine (plCancel_of q n 5 (-1) 0 w (fun err w' => err = errK 5 ∧ w' = w.alloc zErr) ?_ ?_).mono ?_
  · obtain ⟨s, h1, rfl⟩ := h.alloc zErr
    exact (cancel_none q s _ _ n h1 (er_find_none hf)).mono fun x w' ⟨e1, e2⟩ => ⟨_, e1, rfl, e2⟩
  · rintro err w' ⟨rfl, rfl⟩
    exact ⟨hg.alloc _, .kind 5 (by omega), zErr_alloc w⟩
  · rintro x w' ⟨err, w1, rfl, ⟨rfl, rfl⟩, hc⟩
    exact ⟨rfl, Chg.below (((Chg.refl (fun _ => False) w).alloc _).trans (hc.mono fun k _ hk => .inr (by omega)))⟩
theorem cancel_done_p (h : QT w q t F) (hg : ErrVar w) (n : Int) (r : Req) (hf : t.find n = some r) (hs : 2 ≤ r.state) :
    Calls Tryz.prog 15 #[ptr q, .int .i64 n] w fun x w' => x = .returned (plErr 9 n r.tries) ∧ Below w.heap.size w w' := by
  refine (plCancel_of q n 9 n r.tries w (fun err w' => (∃ b, err = errR b ∧ ReqErr w' b n r.tries 9) ∧ Below (w.alloc zErr).heap.size (w.alloc zErr) w') ?_ ?_).mono ?_
  · obtain ⟨s, h1, rfl⟩ := h.alloc zErr
    obtain ⟨e, he, rfl⟩ := er_find_some hf
    exact (cancel_done q s _ _ n e h1 he hs).mono fun x w' ⟨b, e1, e2, _, e3⟩ => ⟨_, e1, ⟨b, rfl, e2⟩, e3⟩
  · rintro err w' ⟨⟨b, rfl, e2⟩, e3⟩
    exact ⟨(hg.alloc _).chg (chgB e3 fun _ => False) fun x => x, .req b n r.tries 9 (by omega) e2, (e3.block _ (by simp)).trans (zErr_alloc w)⟩
  · rintro x w' ⟨err, w1, rfl, ⟨_, e3⟩, hc⟩
    exact ⟨rfl, Chg.below (chg_two (F := fun _ => False) (chgB e3 _) hc (fun _ x => x) fun k hk => .inr (by omega))⟩
theorem cancel_ok_p (h : QT w q t F) (hk : t.Ok) (hsm : t.Small) (hg : ErrVar w) (hF : ¬ F 0) (n : Int) (r : Req) (hf : t.find n = some r) (hs : r.state < 2) :
    Calls Tryz.prog 15 #[ptr q, .int .i64 n] w fun x w' => x = .returned (plErr 0 (-1) 0) ∧ QT w' q (t.give n) F ∧ Chg F w w' := by
  refine (plCancel_of q n 0 (-1) 0 w (fun err w' => err = .nilIface ∧ QT w' q (t.give n) (fun k => F k ∧ k < w.heap.size) ∧ Chg (fun k => F k ∧ k < w.heap.size) (w.alloc zErr) w') ?_ ?_).mono ?_
  · obtain ⟨s, h1, rfl⟩ := h.alloc zErr
    obtain ⟨e, he, rfl⟩ := er_find_some hf
    exact (cancel_ok q s _ _ n e h1 he hs).mono fun x w' ⟨e1, e2, e3⟩ => ⟨_, e1, rfl, ⟨_, e2, er_give giveR⟩, e3⟩
  · rintro err w' ⟨rfl, h1, h2⟩
    exact ⟨(hg.alloc _).chg h2 fun x => hF x.1, .nil, (h2.block _ (by simp) (by omega)).trans (zErr_alloc w)⟩
  · rintro x w' ⟨err, w1, rfl, ⟨rfl, h1, h2⟩, hc⟩
    exact ⟨rfl, (h1.kept hc fun k hk e => by omega).mono fun k hk => hk.1, chg_two h2 hc (fun k x => x.1) fun k hk => .inr (by omega)⟩
end
end Go.Proofs.YticobikhndlejaaGreatDoor

/- The statements' poll, in plain states. -/
namespace Go.Proofs.YticobikhndlejaaGreatDoor
open Go.RowKit Go.Shelf Go.Lib

set_option maxRecDepth 100000 in
theorem kpoll_done (wo q : Nat) (rv : Value) (F : Nat → Prop) (t : St) (rs : List KReq) (w : World) (i : Nat) (num : Int) (wrt : Bool) (page : Int) (data : ByteArray) (how : Int) (read : ByteArray) (h : KB w wo q rv F t rs) (hi : rs[i]? = some ⟨num, wrt, page, data, how, read⟩) (hh : how = 1 ∨ how = 2) :
    Calls Tryz.prog 27 #[ptr wo, .int .i64 i] w fun y w' => y = .returned (.bool true) ∧ Below w.heap.size w w' := by
  obtain ⟨g, cap, cur, rfl, hg2, hg3, hg4, hg5, hg6, hcell⟩ := h.cells hi
  obtain ⟨n, hn⟩ : ∃ n, rs.length = n := ⟨_, rfl⟩
  have hil : i < n := by rw [← hn]; exact (List.getElem?_eq_some_iff.1 hi).1
  have hiI : (i : Int) < (n : Int) := by omega
  have hi0 : (0 : Int) ≤ (i : Int) := by omega
  have p0 : w.cell? ⟨g, i * 6, none⟩ = some (.int .i64 num) := hcell 0 _ rfl
  have p1 : w.cell? ⟨g, i * 6 + 1, none⟩ = some (.bool wrt) := hcell 1 _ rfl
  have p2 : w.cell? ⟨g, i * 6 + 2, none⟩ = some (.int .i64 page) := hcell 2 _ rfl
  have p3 : w.cell? ⟨g, i * 6 + 3, none⟩ = some (.string data) := hcell 3 _ rfl
  have p4 : w.cell? ⟨g, i * 6 + 4, none⟩ = some (.int .i64 how) := hcell 4 _ rfl
  have p5 : w.cell? ⟨g, i * 6 + 5, none⟩ = some (.string read) := hcell 5 _ rfl
  have c1 := h.c1
  rw [hn] at c1
  clear h hg2 hg3 hg4 hg5 hg6 hcell hi
  rcases hh with rfl | rfl
  all_goals
    go_enter Tryz.func27, Tryz.ntmps27
    go_wp2_with fail
    go_ret
    exact ⟨rfl, by go_grown⟩
theorem set_same {α : Type} : ∀ (l : List α) (i : Nat) (a : α), l[i]? = some a → l.set i a = l
  | [], _, _, h => by simp at h
  | x :: l, 0, a, h => by simp at h; simp [h]
  | x :: l, i + 1, a, h => by simp only [List.set_cons_succ]; rw [set_same l i a (by simpa using h)]
theorem poll_o {w0 w : World} {wo : Nat} {x : KW} (h : KO w0 w wo x) (hg : ErrVar w0) (hi : KInv x) (hs : x.t.Small) (i : Nat) (hil : i < x.rs.length) :
    Calls Tryz.prog 27 #[ptr wo, .int .i64 i] w fun y w' => y = .returned (.bool true) ∧ KO w0 w' wo (x.poll i) := by
  obtain ⟨q, rv, F, h1, h3⟩ := h.ex
  obtain ⟨s1, s2, s3⟩ := KO.sides (w := w) (q := q) (x := x) h3 hg
  obtain ⟨⟨num, wrt, page, data, how, read⟩, hr⟩ : ∃ r, x.rs[i]? = some r := ⟨_, List.getElem?_eq_getElem hil⟩
  have hrm : (⟨num, wrt, page, data, how, read⟩ : KReq) ∈ x.rs := List.mem_of_getElem? hr
  have hw0 := h.err hg
  have hset := set_same x.rs i _ hr
  unfold KW.poll
  rw [hr]
  simp only
  by_cases hh : how = 1 ∨ how = 2
  · rw [if_pos hh]
    refine (kpoll_done wo q rv F x.t x.rs w i num wrt page data how read h1 hr hh).mono ?_
    rintro y w' ⟨rfl, e1⟩
    exact ⟨rfl, h.later e1⟩
  rw [if_neg hh]
  have hhow := hi.how _ hrm
  simp only at hhow
  have hF0 : ¬ (F 0 ∧ 0 < w.heap.size) := fun x => s1 x.1
  have fin : ∀ (r' : KReq) (t' : St) (x' : KW) (d : Option B4) (tr k rr tt : Int), x' = ⟨x.rs.set i r', t'⟩ →
      (∀ W, QT W q x.t (fun k => F k ∧ k < w.heap.size) → ErrVar W → Calls Tryz.prog 16 #[ptr q, .int .i64 num] W fun y w' => ∃ dv F', y = .returned (.tuple #[.agg #[dv, .int .i64 tr], plErr k rr tt]) ∧ QT w' q t' F' ∧ (∀ k, F' k → (F k ∧ k < w.heap.size) ∨ W.heap.size ≤ k) ∧ Chg (fun k => F k ∧ k < w.heap.size) W w' ∧ PD d dv W.heap.size F' w') →
      POut num wrt page data how read d tr k rr tt r' →
      Calls Tryz.prog 27 #[ptr wo, .int .i64 i] w fun y w' => y = .returned (.bool true) ∧ KO w0 w' wo x' := by
    rintro r' t' x' d tr k rr tt rfl hP hO
    refine (kpoll_any wo q rv F x.t t' x.rs w i num wrt page data how read r' d tr k rr tt h1 hw0 hr ⟨fun e => hh (.inl e), fun e => hh (.inr e)⟩ hP hO).mono ?_
    rintro y w' ⟨rfl, F', e1, e2, e3⟩
    refine ⟨rfl, KO.of h.below h3 e1 (fun k hk => ?_) e3⟩
    rcases hk with hk | hk | hk
    · exact (e2 k hk).imp .inl id
    · exact .inl (.inr (.inl hk))
    · exact .inl (.inr (.inr hk))
  cases hf : x.t.find num with
  | none =>
    have hgone := hi.gone hrm hf
    simp only at hgone
    refine fin ⟨num, wrt, page, data, how, read⟩ x.t x none 0 5 (-1) 0 (by rw [hset]) (fun W hq hv => ?_) (.told (by omega))
    refine (poll_none_p hq hv num hf).mono ?_
    rintro y w' ⟨rfl, e1⟩
    exact ⟨_, _, rfl, hq.below e1, fun k hk => .inl hk, chgB e1 _, rfl⟩
  | some o =>
    obtain ⟨f1, f2, f3, f4, f5⟩ := hi.find hrm hf
    simp only at f1 f2 f3 f4 f5
    obtain ⟨om, on, ot⟩ := find_some hf
    have hok := hi.ok.a.rs.ok o om
    have hdn := hi.done o om
    simp only
    by_cases h2 : o.state < 2
    · rw [if_pos h2]
      have hst : o.state = 0 ∨ o.state = 1 := by have := hok.st; omega
      have hlv : o.live = true := hst.elim (fun e => by simp [Req.live, e]) fun e => by simp [Req.live, hok.uair e]
      have h3' : o.tries ≤ 3 := hok.try3 hlv
      refine fin ⟨num, wrt, page, data, how, read⟩ x.t x none 0 6 num o.tries (by rw [hset]) (fun W hq hv => ?_) (.pend _ ⟨hok.tries.1, h3'⟩ (f3.2 (by omega)))
      refine (poll_pend_p hq hv num o hf hst).mono ?_
      rintro y w' ⟨rfl, e1⟩
      exact ⟨_, _, rfl, hq.below e1, fun k hk => .inl hk, chgB e1 _, rfl⟩
    · rw [if_neg h2]
      have hst := hok.st
      by_cases e2 : o.state = 2
      · have ht1 := hdn.1 e2
        cases hw : o.write with
        | true =>
          refine fin ⟨num, wrt, page, data, 1, ⟨#[]⟩⟩ (x.t.tell num) _ none o.tries 0 (-1) 0 (by unfold KW.pollR; simp [e2, hw]) (fun W hq hv => ?_) (.write _ ⟨ht1, hok.tries.2⟩ (by rw [← f4, hw]))
          refine (poll_write_p hq hi.ok hs hv hF0 num o hf e2 hw).mono ?_
          rintro y w' ⟨rfl, e3, e4⟩
          exact ⟨_, _, rfl, e3, fun k hk => .inl hk, e4, rfl⟩
        | false =>
          refine fin ⟨num, wrt, page, data, 1, strOfNums [o.data.a, o.data.b, o.data.c, o.data.d]⟩ (x.t.tell num) _ (some o.data) o.tries 0 (-1) 0 (by unfold KW.pollR; simp [e2, hw, bytesOf]) (fun W hq hv => ?_) (.read _ _ ⟨ht1, hok.tries.2⟩ hok.byte (by rw [← f4, hw]))
          refine (poll_read_p hq hi.ok hs hv hF0 num o hf e2 hw).mono ?_
          rintro y w' ⟨v, F', rfl, e3, e4, e5, e6, e7⟩
          exact ⟨_, _, rfl, e3, e4, e6, e5, e7⟩
      · by_cases e3 : o.state = 3
        · refine fin ⟨num, wrt, page, data, 2, read⟩ (x.t.tell num) _ none 0 7 num 4 (by unfold KW.pollR; simp [e3]) (fun W hq hv => ?_) .bad
          refine (poll_bad_p hq hi.ok hs hv hF0 num o 7 hf (.inl ⟨e3, rfl⟩)).mono ?_
          rintro y w' ⟨rfl, e4, e5⟩
          exact ⟨_, _, by rw [hdn.2 e3], e4, fun k hk => .inl hk, e5, rfl⟩
        · have e4 : o.state = 4 := by omega
          refine fin ⟨num, wrt, page, data, how, read⟩ (x.t.tell num) _ none 0 8 num o.tries (by unfold KW.pollR; simp [e4]) (fun W hq hv => ?_) (.gone _ (by omega))
          refine (poll_bad_p hq hi.ok hs hv hF0 num o 8 hf (.inr ⟨e4, rfl⟩)).mono ?_
          rintro y w' ⟨rfl, e5, e6⟩
          exact ⟨_, _, rfl, e5, fun k hk => .inl hk, e6, rfl⟩
end Go.Proofs.YticobikhndlejaaGreatDoor
