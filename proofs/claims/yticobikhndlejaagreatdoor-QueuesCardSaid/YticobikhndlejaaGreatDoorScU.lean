/- The statements' world in memory that the law has laid itself, with all that was asked: what each call makes of it. -/
import Derived.Test.YticobikhndlejaaGreatDoorScR
import Derived.Test.YticobikhndlejaaGreatDoorScS
import Derived.Test.YticobikhndlejaaGreatDoorScT
import Derived.Test.YticobikhndlejaaGreatDoorScJ
namespace Go.Proofs.YticobikhndlejaaGreatDoor
open Go.RowKit Go.Shelf Go.Lib

/-- A world of the law's own, laid behind block B. -/
structure KO (w0 w : World) (wo : Nat) (x : KW) : Prop where
  ex : ∃ q rv F, KB w wo q rv F x.t x.rs ∧ ∀ k, KFoot wo rv F k → w0.heap.size ≤ k
  below : Below w0.heap.size w0 w
theorem KO.of {w0 w w' : World} {wo q : Nat} {rv rv' : Value} {F F' : Nat → Prop} {x' : KW} (hb : Below w0.heap.size w0 w) (hf : ∀ k, KFoot wo rv F k → w0.heap.size ≤ k)
    (h1 : KB w' wo q rv' F' x'.t x'.rs) (h2 : ∀ k, KFoot wo rv' F' k → KFoot wo rv F k ∨ w.heap.size ≤ k) (h3 : Chg (KFoot wo rv F) w w') : KO w0 w' wo x' :=
  ⟨⟨q, rv', F', h1, fun k hk => (h2 k hk).elim (hf k) fun h => Nat.le_trans hb.size h⟩, hb.trans (h3.to_below hf hb.size)⟩
theorem KO.err {w0 w : World} {wo : Nat} {x : KW} (h : KO w0 w wo x) (hg : ErrVar w0) : ErrVar w := hg.chg (chgB h.below fun _ => False) fun x => x
theorem KO.later {w0 w w' : World} {wo : Nat} {x : KW} (h : KO w0 w wo x) (hb : Below w.heap.size w w') : KO w0 w' wo x := by
  obtain ⟨q, rv, F, h1, h3⟩ := h.ex
  exact ⟨⟨q, rv, F, h1.below hb, h3⟩, h.below.trans (hb.mono h.below.size)⟩
theorem KO.cell {w0 w : World} {wo : Nat} {x : KW} (h : KO w0 w wo x) : ∃ q, w.cell? ⟨wo, 0, none⟩ = some (ptr q) ∧ wo < w.heap.size ∧ ∀ W, Below w.heap.size w W → ∃ F, QT W q x.t F ∧ (∀ k, F k → w0.heap.size ≤ k ∧ k < w.heap.size) ∧
    ∀ w' t' F', QT w' q t' F' → (∀ k, F' k → F k ∨ W.heap.size ≤ k) → Chg F W w' → KO w0 w' wo ⟨x.rs, t'⟩ := by
  obtain ⟨q, rv, F0, h0, h3'⟩ := h.ex
  have h1 := h0.lt
  have h3 : ∀ k, KFoot wo rv (fun k => F0 k ∧ k < w.heap.size) k → w0.heap.size ≤ k := fun k hk => h3' k (hk.imp (fun x => x.1) id)
  refine ⟨q, h1.c0, lt_of_heap h1.blk, fun W hB => ⟨_, h1.que.below hB, fun k hk => ⟨h3 k (.inl hk), hk.2⟩, fun w' t' F' hq hF hc => ?_⟩⟩
  have hK := (h1.below hB).que' hc hq hF
  exact KO.of (h.below.trans (hB.mono h.below.size)) h3 hK (fun k hk => by
    rcases hk with h | h | h
    · exact (hF k h).imp .inl id
    · exact .inl (.inr (.inl h))
    · exact .inl (.inr (.inr h))) (hc.mono fun k _ hk => .inl hk)
/-- What was asked: its row, cell by cell, in every later world. -/
theorem KO.rows {w0 w : World} {wo : Nat} {x : KW} (h : KO w0 w wo x) : ∃ ra rc, w.cell? ⟨wo, 1, none⟩ = some (.slice ra x.rs.length rc) ∧ wo < w.heap.size ∧
    ∀ (i : Nat) (r : KReq), x.rs[i]? = some r → ∃ g, ra = some ⟨g, 0, none⟩ ∧ g < w.heap.size ∧ (∀ j v, (kCells r)[j]? = some v → w.cell? ⟨g, i * 6 + j, none⟩ = some v) ∧ (∀ j, w.frozen? ⟨g, j, none⟩ = false) := by
  obtain ⟨q, rv, F, h1, h3⟩ := h.ex
  obtain ⟨ra, rc, rfl⟩ := own_slice h1.row
  refine ⟨ra, rc, h1.c1, lt_of_heap h1.blk, fun i r hi => ?_⟩
  obtain ⟨g, cap, cur, e, hg, _, _, _, _, hc⟩ := h1.cells hi
  simp only [Value.slice.injEq] at e
  exact ⟨g, e.1, lt_of_heap hg, hc, fun j => free_of hg⟩
theorem begun_o (d : Int) (w : World) (hg : ErrVar w) (hd : -9223372036854775808 ≤ d ∧ d ≤ 9223372036854775807) :
    Calls Tryz.prog 12 #[.int .i64 d] w fun x w' => ∃ wo, x = .returned (.tuple #[ptr wo, .bool true]) ∧ KO w w' wo ⟨[], St.new (1 + pickI d 4).toNat⟩ := by
  refine (begun_k d w hg hd).mono ?_
  rintro x w' ⟨wo, rfl, h1⟩
  obtain ⟨q, rv, F, rs, h2, h3, h4⟩ := h1.ex
  obtain rfl : rs = [] := List.length_eq_zero_iff.1 h3
  exact ⟨wo, rfl, ⟨q, rv, F, h2, h4⟩, h1.below⟩
theorem KO.sides {w0 w : World} {wo q : Nat} {rv : Value} {F : Nat → Prop} {x : KW} (h3 : ∀ k, KFoot wo rv F k → w0.heap.size ≤ k) (hg : ErrVar w0) : ¬ F 0 ∧ wo ≠ 0 ∧ rv.ownBlock ≠ some 0 := by
  have h0 : 0 < w0.heap.size := lt_of_cell hg
  exact ⟨fun x => by have := h3 0 (.inl x); omega, by have := h3 wo (.inr (.inl rfl)); omega, fun x => by have := h3 0 (.inr (.inr x)); omega⟩
theorem askR_o {w0 w : World} {wo : Nat} {x : KW} (h : KO w0 w wo x) (hg : ErrVar w0) (hi : KInv x) (hs : x.t.Small) (hh : x.t.held < 40) (page v : Int) (hp : 0 ≤ page ∧ page < 16) :
    Calls Tryz.prog 14 #[ptr wo, .bool false, .int .i64 page, .int .u8 v] w fun y w' => y = .returned (.bool true) ∧ KO w0 w' wo (x.askR page) := by
  obtain ⟨q, rv, F, h1, h3⟩ := h.ex
  obtain ⟨s1, s2, s3⟩ := KO.sides (w := w) (q := q) (x := x) h3 hg
  refine (ask_read wo q rv F x.t x.rs w page v h1 (h.err hg) s1 s2 s3 hi.ok hs hh hp hi.last).mono ?_
  rintro y w' ⟨rfl, rv', F', e1, e2, e3⟩
  unfold KW.askR
  rw [if_neg (by omega)]
  exact ⟨rfl, KO.of h.below h3 e1 e2 e3⟩
theorem askW_o {w0 w : World} {wo : Nat} {x : KW} (h : KO w0 w wo x) (hg : ErrVar w0) (hi : KInv x) (hs : x.t.Small) (hh : x.t.held < 40) (page v : Int) (hp : 0 ≤ page ∧ page < 16) (hv : 0 ≤ v ∧ v ≤ 255) :
    Calls Tryz.prog 14 #[ptr wo, .bool true, .int .i64 page, .int .u8 v] w fun y w' => y = .returned (.bool true) ∧ KO w0 w' wo (x.askW page v) := by
  obtain ⟨q, rv, F, h1, h3⟩ := h.ex
  obtain ⟨s1, s2, s3⟩ := KO.sides (w := w) (q := q) (x := x) h3 hg
  refine (ask_write wo q rv F x.t x.rs w page v h1 (h.err hg) s1 s2 s3 hi.ok hs hh hp hi.last hv).mono ?_
  rintro y w' ⟨rfl, rv', F', e1, e2, e3⟩
  unfold KW.askW
  rw [if_neg (by omega)]
  exact ⟨rfl, KO.of h.below h3 e1 e2 e3⟩
/-- Step, by the queue's own place. -/
theorem step_o {w0 w : World} {wo : Nat} {x : KW} (h : KO w0 w wo x) (hk : x.t.Ok) (hs : x.t.Small) : ∃ q, w.cell? ⟨wo, 0, none⟩ = some (ptr q) ∧ wo < w.heap.size ∧
    (x.t.cmd = none → ∀ W, Below w.heap.size w W → Calls Tryz.prog 18 #[ptr q] W fun y w' => y = .returned (.tuple #[noCmd, .bool false]) ∧ KO w0 w' wo x ∧ Below W.heap.size W w') ∧
    (∀ c, x.t.cmd = some c → ∀ W, Below w.heap.size w W → Calls Tryz.prog 18 #[ptr q] W fun y w' => ∃ va vc, y = .returned (.tuple #[.agg #[.bool c.write, .int .i64 c.page, .int .i64 c.count, .slice va c.nums.length vc], .bool true]) ∧ KO w0 w' wo ⟨x.rs, x.t.sent c⟩ ∧ Chg (fun k => k < w.heap.size) W w' ∧ w'.ownsRow W.heap.size 3 1 (.slice va c.nums.length vc) c.nums.length (c.nums.map fun n => Value.int .i64 n)) := by
  obtain ⟨q, h1, h2, h3⟩ := h.cell
  refine ⟨q, h1, h2, fun hc W hB => ?_, fun c hc W hB => ?_⟩
  · obtain ⟨F, f1, f2, f3⟩ := h3 W hB
    refine (step_none_c f1 hk hc).mono ?_
    rintro y w' ⟨rfl, e1⟩
    exact ⟨rfl, f3 w' _ F (f1.below e1) (fun k hk => .inl hk) (chgB e1 _), e1⟩
  · obtain ⟨F, f1, f2, f3⟩ := h3 W hB
    refine (step_some_c f1 hk hs c hc).mono ?_
    rintro y w' ⟨v, F', rfl, e1, e2, _, e4, e5⟩
    obtain ⟨va, vc, rfl⟩ := own_slice e5
    exact ⟨va, vc, rfl, f3 w' _ F' e1 e2 e4, e4.mono fun k _ hk => (f2 k hk).2, e5⟩
theorem comp_o {w0 w : World} {wo : Nat} {x : KW} (h : KO w0 w wo x) (hg : ErrVar w0) (hk : x.t.Ok) (hs : x.t.Small) : ∃ q, w.cell? ⟨wo, 0, none⟩ = some (ptr q) ∧ wo < w.heap.size ∧
    (∀ (k : Nat) (fault : Bool) t', x.t.complete k fault = some t' → ∀ W, Below w.heap.size w W → Calls Tryz.prog 19 #[ptr q, .int .i64 k, .bool fault] W fun y w' => y = .returned (plErr 0 (-1) 0) ∧ KO w0 w' wo ⟨x.rs, t'⟩ ∧ Chg (fun k => k < w.heap.size) W w') ∧
    (∀ (k : Nat) (fault : Bool), x.t.complete k fault = none → ∀ W, Below w.heap.size w W → Calls Tryz.prog 19 #[ptr q, .int .i64 k, .bool fault] W fun y w' => y = .returned (plErr 10 (-1) 0) ∧ KO w0 w' wo x ∧ Below W.heap.size W w') := by
  obtain ⟨q, h1, h2, h3⟩ := h.cell
  have h0 : 0 < w0.heap.size := lt_of_cell hg
  refine ⟨q, h1, h2, fun k fault t' hc W hB => ?_, fun k fault hc W hB => ?_⟩
  · obtain ⟨F, f1, f2, f3⟩ := h3 W hB
    refine (complete_p f1 hk hs ((h.err hg).chg (chgB hB fun _ => False) fun x => x) (fun x => by have := (f2 0 x).1; omega) k fault t' hc).mono ?_
    rintro y w' ⟨rfl, e1, e2⟩
    exact ⟨rfl, f3 w' _ F e1 (fun k hk => .inl hk) e2, e2.mono fun k _ hk => (f2 k hk).2⟩
  · obtain ⟨F, f1, f2, f3⟩ := h3 W hB
    have hlen : x.t.cs.length ≤ k := by
      unfold St.complete at hc
      split at hc
      · rename_i he
        simpa using he
      · cases hc
    refine (complete_no_p f1 ((h.err hg).chg (chgB hB fun _ => False) fun x => x) k fault (.inr (by omega))).mono ?_
    rintro y w' ⟨rfl, e1⟩
    exact ⟨rfl, f3 w' _ F (f1.below e1) (fun k hk => .inl hk) (chgB e1 _), e1⟩
theorem tick_o {w0 w : World} {wo : Nat} {x : KW} (h : KO w0 w wo x) (hk : x.t.Ok) (hs : x.t.Small) : ∃ q, w.cell? ⟨wo, 0, none⟩ = some (ptr q) ∧ wo < w.heap.size ∧
    ∀ W, Below w.heap.size w W → Calls Tryz.prog 42 #[ptr q] W fun y w' => y = .returned (.tuple #[]) ∧ KO w0 w' wo ⟨x.rs, x.t.tick⟩ ∧ Chg (fun k => k < w.heap.size) W w' := by
  obtain ⟨q, h1, h2, h3⟩ := h.cell
  refine ⟨q, h1, h2, fun W hB => ?_⟩
  obtain ⟨F, f1, f2, f3⟩ := h3 W hB
  refine (tick_c f1 hk hs).mono ?_
  rintro y w' ⟨rfl, e1, e2⟩
  exact ⟨rfl, f3 w' _ F e1 (fun k hk => .inl hk) e2, e2.mono fun k _ hk => (f2 k hk).2⟩
theorem disk_o {w0 w : World} {wo : Nat} {x : KW} (h : KO w0 w wo x) : ∃ q, w.cell? ⟨wo, 0, none⟩ = some (ptr q) ∧ wo < w.heap.size ∧
    ∀ W, Below w.heap.size w W → Calls Tryz.prog 23 #[ptr q] W fun y w' => ∃ v, y = .returned v ∧ w'.ownsRow W.heap.size 5 1 v 64 (x.t.disk.map fun b => Value.int .u8 b) ∧ Below W.heap.size W w' ∧ KO w0 w' wo x := by
  obtain ⟨q, h1, h2, h3⟩ := h.cell
  refine ⟨q, h1, h2, fun W hB => ?_⟩
  obtain ⟨F, f1, f2, f3⟩ := h3 W hB
  refine (disk_c f1).mono ?_
  rintro y w' ⟨v, rfl, e1, e2⟩
  exact ⟨v, rfl, e1, e2, f3 w' _ F (f1.below e2) (fun k hk => .inl hk) (chgB e2 _)⟩
theorem pend_o {w0 w : World} {wo : Nat} {x : KW} (h : KO w0 w wo x) (hg : ErrVar w0) (n : Int) (r : Req) (hf : x.t.find n = some r) (hr : r.state = 0 ∨ r.state = 1) : ∃ q, w.cell? ⟨wo, 0, none⟩ = some (ptr q) ∧ wo < w.heap.size ∧
    ∀ W, Below w.heap.size w W → Calls Tryz.prog 16 #[ptr q, .int .i64 n] W fun y w' => y = .returned (.tuple #[noAns, plErr 6 n r.tries]) ∧ Below W.heap.size W w' ∧ KO w0 w' wo x := by
  obtain ⟨q, h1, h2, h3⟩ := h.cell
  refine ⟨q, h1, h2, fun W hB => ?_⟩
  obtain ⟨F, f1, f2, f3⟩ := h3 W hB
  refine (poll_pend_p f1 ((h.err hg).chg (chgB hB fun _ => False) fun x => x) n r hf hr).mono ?_
  rintro y w' ⟨rfl, e1⟩
  exact ⟨rfl, e1, f3 w' _ F (f1.below e1) (fun k hk => .inl hk) (chgB e1 _)⟩
end Go.Proofs.YticobikhndlejaaGreatDoor

/- Flights, Waiting, Crash in plain states, and of a law's own world. -/
namespace Go.Proofs.YticobikhndlejaaGreatDoor
open Go.RowKit Go.Shelf Go.Lib

theorem cmd_len {t : St} (h : t.Ok) {c : Cmd} (hc : c ∈ t.cs) : (c.nums.length : Int) ≤ t.last := by
  have hnd : c.nums.Nodup := (List.pairwise_flatMap.1 h.a.rs.nodup).1 c hc
  have := len_sub c.nums hnd (t.rs.map (·.num)) fun n hn => by
    obtain ⟨r, hr, hrn, _⟩ := (h.cmds c hc).ins n hn
    exact List.mem_map.2 ⟨r, hr, hrn⟩
  rw [List.length_map] at this
  have := ok_len h
  omega
theorem er_cs {s : Sta} : s.er.cs = s.cs.map (·.1) := rfl
theorem sta_len {s : Sta} (h : s.er.Ok) (hs : s.er.Small) : (∀ c ∈ s.cs, c.1.nums.length ≤ 1000000) ∧ s.cs.length ≤ 1000 := by
  refine ⟨fun c hc => ?_, ?_⟩
  · have := cmd_len h (c := c.1) (List.mem_map_of_mem hc)
    have := hs.last
    omega
  · have h1 := h.len
    have h2 := h.a.depth
    have h3 : s.er.cs.length = s.cs.length := by simp [Sta.er]
    omega
section
variable {q : Nat} {t : St} {F : Nat → Prop} {w : World}
theorem flights_c (h : QT w q t F) (hk : t.Ok) (hs : t.Small) :
    Calls Tryz.prog 22 #[ptr q] w fun x w' => ∃ v cs', x = .returned v ∧ cs'.map (·.1) = t.cs ∧ CmdsAt w' w.heap.size v cs' ∧ Below w.heap.size w w' := by
  obtain ⟨s, h1, rfl⟩ := h
  exact flights_any q s F w h1 (sta_len hk hs).1 (sta_len hk hs).2
theorem waiting_c (h : QT w q t F) (hk : t.Ok) (hs : t.Small) :
    Calls Tryz.prog 20 #[ptr q] w fun x w' => ∃ v, x = .returned v ∧ w'.ownsRow w.heap.size 3 1 v t.waiting.length (t.waiting.map fun n => Value.int .i64 n) ∧ Below w.heap.size w w' := by
  obtain ⟨s, h1, rfl⟩ := h
  have e : s.er.waiting = waitE s.es := by
    unfold St.waiting waitE Sta.er
    simp only [List.filter_map, List.map_map]
    rfl
  rw [e]
  exact waiting_any q s F w h1
theorem crash_c (h : QT w q t F) (hk : t.Ok) (hs : t.Small) (v : Value) (l : List Bool) (hB : BRow w v l) (hv : ∀ k, v.ownBlock = some k → ¬ F k) :
    Calls Tryz.prog 24 #[ptr q, v] w fun x w' => x = .returned (.tuple #[]) ∧ QT w' q (t.crash fun i => l.getD i false) F ∧ Chg F w w' := by
  obtain ⟨s, h1, rfl⟩ := h
  refine (crash_any q s F w v l h1 hB hv (fun c hc hw n hn => ?_) (sta_len hk hs).1 (sta_len hk hs).2).mono ?_
  · obtain ⟨r, hr, hrn, _⟩ := (hk.cmds c.1 (List.mem_map_of_mem hc)).ins n hn
    obtain ⟨e, he, rfl⟩ := List.mem_map.1 hr
    exact ⟨e, he, hrn⟩
  · rintro x w' ⟨e1, e2, e3⟩
    refine ⟨e1, ⟨_, e2, ?_⟩, e3⟩
    simp [Sta.er, St.crash, wnums]
end
theorem flights_o {w0 w : World} {wo : Nat} {x : KW} (h : KO w0 w wo x) (hk : x.t.Ok) (hs : x.t.Small) : ∃ q, w.cell? ⟨wo, 0, none⟩ = some (ptr q) ∧ wo < w.heap.size ∧
    ∀ W, Below w.heap.size w W → Calls Tryz.prog 22 #[ptr q] W fun y w' => ∃ v cs', y = .returned v ∧ cs'.map (·.1) = x.t.cs ∧ CmdsAt w' W.heap.size v cs' ∧ Below W.heap.size W w' := by
  obtain ⟨q, h1, h2, h3⟩ := h.cell
  refine ⟨q, h1, h2, fun W hB => ?_⟩
  obtain ⟨F, f1, f2, f3⟩ := h3 W hB
  exact flights_c f1 hk hs
theorem waiting_o {w0 w : World} {wo : Nat} {x : KW} (h : KO w0 w wo x) (hk : x.t.Ok) (hs : x.t.Small) : ∃ q, w.cell? ⟨wo, 0, none⟩ = some (ptr q) ∧ wo < w.heap.size ∧
    ∀ W, Below w.heap.size w W → Calls Tryz.prog 20 #[ptr q] W fun y w' => ∃ v, y = .returned v ∧ w'.ownsRow W.heap.size 3 1 v x.t.waiting.length (x.t.waiting.map fun n => Value.int .i64 n) ∧ Below W.heap.size W w' := by
  obtain ⟨q, h1, h2, h3⟩ := h.cell
  refine ⟨q, h1, h2, fun W hB => ?_⟩
  obtain ⟨F, f1, f2, f3⟩ := h3 W hB
  exact waiting_c f1 hk hs
end Go.Proofs.YticobikhndlejaaGreatDoor

/- Strings of numbers, cut and joined. -/
namespace Go.Proofs.YticobikhndlejaaGreatDoor
open Go.RowKit Go.Shelf Go.Lib

theorem ba_ext {a b : ByteArray} (h : a.data.toList = b.data.toList) : a = b := by
  cases a; cases b
  congr 1
  exact Array.ext' h
theorem son_append (a b : List Int) : strOfNums a ++ strOfNums b = strOfNums (a ++ b) := by
  apply ba_ext
  rw [strOfNums_data, List.map_append, ← strOfNums_data a, ← strOfNums_data b]
  simp [ByteArray.data_append]
theorem son_extract (l : List Int) (i j : Nat) : (strOfNums l).extract i j = strOfNums ((l.take j).drop i) := by
  apply ba_ext
  rw [strOfNums_data]
  simp [ByteArray.data_extract, strOfNums, List.map_drop, List.map_take, List.drop_take]
theorem want_put {D : List Int} (h : D.length = 64) {p : Nat} (hp : p < 16) (d : B4) : (strOfNums D).extract 0 (4 * p) ++ bytesOf d ++ (strOfNums D).extract (4 * p + 4) 64 = strOfNums (dput D p d) := by
  rw [dput_split h hp d, ← son_append, ← son_append, son_extract, son_extract, List.take_of_length_le (Nat.le_of_eq h), ByteArray.append_assoc]
  rfl
/-- A page's bytes. -/
theorem want_get {D : List Int} (h : D.length = 64) : bytesOf (dget D 3) = (strOfNums D).extract 12 16 := by
  rw [son_extract]
  unfold bytesOf dget
  congr 1
  apply List.ext_getElem?
  intro i
  by_cases hi : i < 4
  · have : i = 0 ∨ i = 1 ∨ i = 2 ∨ i = 3 := by omega
    rcases this with rfl | rfl | rfl | rfl <;> simp [List.getElem?_drop, List.getElem?_take, h]
  · rw [List.getElem?_eq_none (by simp; omega), List.getElem?_eq_none (by simp; omega)]
theorem crash_o {w0 w : World} {wo : Nat} {x : KW} (h : KO w0 w wo x) (hk : x.t.Ok) (hs : x.t.Small) : ∃ q, w.cell? ⟨wo, 0, none⟩ = some (ptr q) ∧ wo < w.heap.size ∧
    ∀ W, Below w.heap.size w W → ∀ v l, BRow W v l → (∀ k, v.ownBlock = some k → w.heap.size ≤ k) → Calls Tryz.prog 24 #[ptr q, v] W fun y w' => y = .returned (.tuple #[]) ∧ KO w0 w' wo ⟨x.rs, x.t.crash fun i => l.getD i false⟩ ∧ Chg (fun k => k < w.heap.size) W w' := by
  obtain ⟨q, h1, h2, h3⟩ := h.cell
  refine ⟨q, h1, h2, fun W hB v l hv hvk => ?_⟩
  obtain ⟨F, f1, f2, f3⟩ := h3 W hB
  refine (crash_c f1 hk hs v l hv fun k hk hF => by have := hvk k hk; have := (f2 k hF).2; omega).mono ?_
  rintro y w' ⟨rfl, e1, e2⟩
  exact ⟨rfl, f3 w' _ F e1 (fun k hk => .inl hk) e2, e2.mono fun k _ hk => (f2 k hk).2⟩
theorem pollnone_o {w0 w : World} {wo : Nat} {x : KW} (h : KO w0 w wo x) (hg : ErrVar w0) (n : Int) (hf : x.t.find n = none) : ∃ q, w.cell? ⟨wo, 0, none⟩ = some (ptr q) ∧ wo < w.heap.size ∧
    ∀ W, Below w.heap.size w W → Calls Tryz.prog 16 #[ptr q, .int .i64 n] W fun y w' => y = .returned (.tuple #[noAns, plErr 5 (-1) 0]) ∧ Below W.heap.size W w' := by
  obtain ⟨q, h1, h2, h3⟩ := h.cell
  refine ⟨q, h1, h2, fun W hB => ?_⟩
  obtain ⟨F, f1, f2, f3⟩ := h3 W hB
  exact poll_none_p f1 ((h.err hg).chg (chgB hB fun _ => False) fun x => x) n hf
theorem read_o {w0 w : World} {wo : Nat} {x : KW} (h : KO w0 w wo x) (hg : ErrVar w0) (hk : x.t.Ok) (hs : x.t.Small) (hh : x.t.held < 40) (page : Int) (hp : 0 ≤ page ∧ page < 16) : ∃ q, w.cell? ⟨wo, 0, none⟩ = some (ptr q) ∧ wo < w.heap.size ∧
    ∀ W, Below w.heap.size w W → Calls Tryz.prog 25 #[ptr q, .int .i64 page] W fun y w' => y = .returned (.tuple #[.int .i64 (x.t.last + 1), plErr 0 (-1) 0]) ∧ KO w0 w' wo ⟨x.rs, x.t.add false page ⟨0, 0, 0, 0⟩⟩ ∧ Chg (fun k => k < w.heap.size) W w' := by
  obtain ⟨q, h1, h2, h3⟩ := h.cell
  have h0 : 0 < w0.heap.size := lt_of_cell hg
  refine ⟨q, h1, h2, fun W hB => ?_⟩
  obtain ⟨F, f1, f2, f3⟩ := h3 W hB
  refine (read_p f1 hk hs ((h.err hg).chg (chgB hB fun _ => False) fun x => x) (fun x => by have := (f2 0 x).1; omega) hh page hp).mono ?_
  rintro y w' ⟨rfl, e1, e2⟩
  exact ⟨rfl, f3 w' _ _ e1 (fun k hk => hk.imp id fun h => by omega) e2, e2.mono fun k _ hk => (f2 k hk).2⟩
theorem pollread_o {w0 w : World} {wo : Nat} {x : KW} (h : KO w0 w wo x) (hg : ErrVar w0) (hk : x.t.Ok) (hs : x.t.Small) (n : Int) (r : Req) (hf : x.t.find n = some r) (hst : r.state = 2) (hw : r.write = false) : ∃ q, w.cell? ⟨wo, 0, none⟩ = some (ptr q) ∧ wo < w.heap.size ∧
    ∀ W, Below w.heap.size w W → Calls Tryz.prog 16 #[ptr q, .int .i64 n] W fun y w' => ∃ v, y = .returned (.tuple #[.agg #[v, .int .i64 r.tries], plErr 0 (-1) 0]) ∧ KO w0 w' wo ⟨x.rs, x.t.tell n⟩ ∧ Chg (fun k => k < w.heap.size) W w' ∧ w'.ownsRow W.heap.size 5 1 v 4 (b4Cells r.data) := by
  obtain ⟨q, h1, h2, h3⟩ := h.cell
  have h0 : 0 < w0.heap.size := lt_of_cell hg
  refine ⟨q, h1, h2, fun W hB => ?_⟩
  obtain ⟨F, f1, f2, f3⟩ := h3 W hB
  refine (poll_read_p f1 hk hs ((h.err hg).chg (chgB hB fun _ => False) fun x => x) (fun x => by have := (f2 0 x).1; omega) n r hf hst hw).mono ?_
  rintro y w' ⟨v, F', rfl, e1, e2, _, e4, e5⟩
  exact ⟨v, rfl, f3 w' _ _ e1 e2 e4, e4.mono fun k _ hk => (f2 k hk).2, e5⟩
theorem conv_row {w : World} {base n : Nat} {a : Option Addr} {c : Nat} {l : List Int} (h : w.ownsRow base 5 1 (.slice a n c) n (l.map fun b => Value.int .u8 b)) (hn : l.length = n) (h0 : 0 < n) :
    (convert 41 9 (.slice a n c)).run Tryz.prog w = .ok (.string (strOfNums l)) w := by
  rcases h.2 with ⟨_, e⟩ | ⟨g, cap, cur, e, h2, h3, h4, h5, h6, h7⟩
  · omega
  simp only [Value.slice.injEq] at e
  obtain ⟨rfl, _, rfl⟩ := e
  refine run_convert_bytes_arg (P := Tryz.prog) w 41 5 Tryz.underlying41 Tryz.underlying5 g 0 n c l hn (fun i hi => ?_) 9 Tryz.underlying9
  refine cell_of h3 ?_
  rw [Nat.zero_add, ← Array.getElem?_toList]
  have h8 : (l.map fun b => Value.int .u8 b)[i]? = some (.int .u8 (l.getD i 0)) := by
    rw [List.getElem?_map, List.getElem?_eq_getElem (by omega)]
    simp [List.getD_eq_getElem?_getD, List.getElem?_eq_getElem (show i < l.length by omega)]
  rw [← h7, List.getElem?_take_of_lt (by omega)] at h8
  exact h8
/-- Who writes in the first j commands. -/
def wnT (cs : List Cmd) (j : Nat) : List Int := ((cs.take j).filter (·.write)).flatMap (·.nums)
theorem wnT_succ {cs : List Cmd} {j : Nat} {c : Cmd} (h : cs[j]? = some c) : wnT cs (j + 1) = wnT cs j ++ (if c.write then c.nums else []) := by
  obtain ⟨h1, h2⟩ := List.getElem?_eq_some_iff.1 h
  unfold wnT
  rw [List.take_succ_eq_append_getElem h1, h2, List.filter_append, List.flatMap_append]
  congr 1
  cases hw : c.write <;> simp [hw]
theorem wnT_all {cs : List Cmd} {j : Nat} (h : cs.length ≤ j) : wnT cs j = (cs.filter (·.write)).flatMap (·.nums) := by
  unfold wnT
  rw [List.take_of_length_le h]
end Go.Proofs.YticobikhndlejaaGreatDoor
