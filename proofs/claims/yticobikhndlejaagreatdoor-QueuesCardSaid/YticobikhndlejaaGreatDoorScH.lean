/- THE QUEUE: its state in plain Lean, how it lies in memory, and the methods that do little: New, Tick, Read, Write. -/
import Derived.Test.YticobikhndlejaaGreatDoorScG
import Derived.Test.YticobikhndlejaaGreatDoorScD
namespace Go.Proofs.YticobikhndlejaaGreatDoor
open Go.RowKit Go.Shelf Go.Lib

/-- A queue's state: commands under way with the slices that hold their requests' numbers. -/
structure Sta where
  depth : Nat
  es : List Ent
  last : Int
  held : Int
  cs : List (Cmd × Value)
  now : Int
  head : Nat
  disk : List Int
def cmdCells (c : Cmd × Value) : List Value := [.bool c.1.write, .int .i64 c.1.page, .int .i64 c.1.count, c.2]
def qCells (tb : Nat) (fv : Value) (s : Sta) : Array Value := ([.int .i64 s.depth, ptr tb, fv, .int .i64 s.now, .int .i64 s.head] ++ s.disk.map fun b => Value.int .u8 b).toArray
/-- How it lies in memory. -/
structure QB (w : World) (q tb mb clock : Nat) (fv : Value) (s : Sta) : Prop where
  que : w.heap[q]? = some (.cells (qCells tb fv s) 89 (0, 0))
  tab : TabB w tb mb clock s.last s.held s.es
  fl : w.ownsRow 0 48 4 fv s.cs.length (s.cs.flatMap cmdCells)
  rows : ∀ c ∈ s.cs, w.ownsRow 0 3 1 c.2 c.1.nums.length (c.1.nums.map fun n => Value.int .i64 n)
  disk : s.disk.length = 64
/-- Its blocks. -/
def QFoot (q tb mb : Nat) (fv : Value) (s : Sta) (k : Nat) : Prop := k = q ∨ k = tb ∨ k = mb ∨ fv.ownBlock = some k ∨ (∃ e ∈ s.es, k = e.p) ∨ ∃ c ∈ s.cs, c.2.ownBlock = some k
/-- A queue lies at q, its blocks are among F. -/
def QAt (w : World) (q : Nat) (s : Sta) (F : Nat → Prop) : Prop := ∃ tb mb clock fv, QB w q tb mb clock fv s ∧ ∀ k, QFoot q tb mb fv s k → F k

section
variable {w W : World} {q tb mb clock : Nat} {fv : Value} {s : Sta}
theorem ownsRow_chg {base : Nat} {t : TypeId} {size n : Nat} {v : Value} {xs : List Value} (h : w.ownsRow base t size v n xs) {S : Nat → Prop} (hc : Chg S w W) (hn : ∀ k, v.ownBlock = some k → ¬ S k) : W.ownsRow base t size v n xs := by
  refine ⟨h.1, h.2.imp id fun ⟨g, c, cur, h1, h2, h3, h4⟩ => ⟨g, c, cur, h1, h2, (hc.block g (lt_of_heap h3) (hn g (by rw [h1]; rfl))).trans h3, h4⟩⟩
theorem QB.kept (h : QB w q tb mb clock fv s) {S : Nat → Prop} (hc : Chg S w W) (hn : ∀ k, QFoot q tb mb fv s k → ¬ S k) : QB W q tb mb clock fv s :=
  ⟨(hc.block _ (lt_of_heap h.que) (hn _ (.inl rfl))).trans h.que, h.tab.kept hc (hn _ (.inr (.inl rfl))) (hn _ (.inr (.inr (.inl rfl)))) fun e he => hn _ (.inr (.inr (.inr (.inr (.inl ⟨e, he, rfl⟩))))),
    ownsRow_chg h.fl hc fun _k hk => hn _ (.inr (.inr (.inr (.inl hk)))), fun c hcm => ownsRow_chg (h.rows c hcm) hc fun _k hk => hn _ (.inr (.inr (.inr (.inr (.inr ⟨c, hcm, hk⟩))))), h.disk⟩
theorem QAt.kept {F : Nat → Prop} (h : QAt w q s F) {S : Nat → Prop} (hc : Chg S w W) (hn : ∀ k, F k → ¬ S k) : QAt W q s F := by
  obtain ⟨tb, mb, clock, fv, hq, hF⟩ := h
  exact ⟨tb, mb, clock, fv, hq.kept hc fun k hk => hn k (hF k hk), hF⟩
theorem QAt.below {F : Nat → Prop} (h : QAt w q s F) (hb : Below w.heap.size w W) : QAt W q s F := h.kept (chgB hb fun _ => False) fun _ _ x => x
theorem QAt.mono {F G : Nat → Prop} (h : QAt w q s F) (hFG : ∀ k, F k → G k) : QAt w q s G := by
  obtain ⟨tb, mb, clock, fv, hq, hF⟩ := h
  exact ⟨tb, mb, clock, fv, hq, fun k hk => hFG k (hF k hk)⟩
theorem QB.c0 (h : QB w q tb mb clock fv s) : w.cell? ⟨q, 0, none⟩ = some (.int .i64 s.depth) := cell_of h.que rfl
theorem QB.c1 (h : QB w q tb mb clock fv s) : w.cell? ⟨q, 1, none⟩ = some (ptr tb) := cell_of h.que rfl
theorem QB.c2 (h : QB w q tb mb clock fv s) : w.cell? ⟨q, 2, none⟩ = some fv := cell_of h.que rfl
theorem QB.c3 (h : QB w q tb mb clock fv s) : w.cell? ⟨q, 3, none⟩ = some (.int .i64 s.now) := cell_of h.que rfl
theorem QB.c4 (h : QB w q tb mb clock fv s) : w.cell? ⟨q, 4, none⟩ = some (.int .i64 s.head) := cell_of h.que rfl
theorem QB.free (h : QB w q tb mb clock fv s) (i : Nat) : w.frozen? ⟨q, i, none⟩ = false := free_of h.que
theorem QB.ne_qt (h : QB w q tb mb clock fv s) : q ≠ tb := ne_of_heap h.que h.tab.tab (by simp)
theorem QB.ne_qm (h : QB w q tb mb clock fv s) : q ≠ mb := ne_of_heap h.que h.tab.map (by simp)
theorem QB.ne_qp (h : QB w q tb mb clock fv s) {e : Ent} (he : e ∈ s.es) : q ≠ e.p := ne_of_heap h.que (h.tab.reqs e he) (by simp)
theorem own_heap {base : Nat} {t : TypeId} {size n k : Nat} {v : Value} {xs : List Value} (h : w.ownsRow base t size v n xs) (hk : v.ownBlock = some k) : ∃ cur, w.heap[k]? = some (.cells cur t (0, 0)) := by
  rcases h.2 with ⟨rfl, _⟩ | ⟨g, c, cur, rfl, _, h3, _⟩
  · cases hk
  · cases hk; exact ⟨cur, h3⟩
theorem QB.ne_qf (h : QB w q tb mb clock fv s) {k : Nat} (hk : fv.ownBlock = some k) : q ≠ k := by
  obtain ⟨cur, hc⟩ := own_heap h.fl hk
  exact ne_of_heap h.que hc (by simp)
theorem QB.ne_qr (h : QB w q tb mb clock fv s) {c : Cmd × Value} (hcm : c ∈ s.cs) {k : Nat} (hk : c.2.ownBlock = some k) : q ≠ k := by
  obtain ⟨cur, hc⟩ := own_heap (h.rows c hcm) hk
  exact ne_of_heap h.que hc (by simp)
/-- The queue's own block is changed. -/
theorem QB.ques (h : QB w q tb mb clock fv s) (s' : Sta) (h1 : s'.es = s.es) (h2 : s'.last = s.last) (h3 : s'.held = s.held) (h4 : s'.cs = s.cs) (hd : s'.disk.length = 64) (hW : W.heap[q]? = some (.cells (qCells tb fv s') 89 (0, 0))) (hc : Chg (fun k => k = q) w W) : QB W q tb mb clock fv s' := by
  refine ⟨hW, ?_, ?_, ?_, hd⟩
  · rw [h1, h2, h3]
    exact h.tab.kept hc h.ne_qt.symm h.ne_qm.symm fun e he => (h.ne_qp he).symm
  · rw [h4]
    exact ownsRow_chg h.fl hc fun k hk => (h.ne_qf hk).symm
  · rw [h4]
    exact fun c hcm => ownsRow_chg (h.rows c hcm) hc fun k hk => (h.ne_qr hcm hk).symm
/-- The table is changed. -/
theorem QB.tabs (h : QB w q tb mb clock fv s) (clock' : Nat) (s' : Sta) (h0 : s'.depth = s.depth ∧ s'.now = s.now ∧ s'.head = s.head ∧ s'.disk = s.disk) (h4 : s'.cs = s.cs) (ht : TabB W tb mb clock' s'.last s'.held s'.es) {S : Nat → Prop} (hc : Chg S w W) (hS : ∀ k, S k → k = tb ∨ k = mb ∨ ∃ e ∈ s.es, k = e.p) : QB W q tb mb clock' fv s' := by
  obtain ⟨h5, h6, h7, h8⟩ := h0
  refine ⟨?_, ht, ?_, ?_, h8 ▸ h.disk⟩
  · have : qCells tb fv s' = qCells tb fv s := by simp [qCells, h5, h6, h7, h8]
    rw [this]
    exact (hc.block q (lt_of_heap h.que) fun hk => by
      rcases hS q hk with e | e | ⟨x, hx, e⟩
      · exact h.ne_qt e
      · exact h.ne_qm e
      · exact h.ne_qp hx e).trans h.que
  · rw [h4]
    refine ownsRow_chg h.fl hc fun k hk hs => ?_
    obtain ⟨cur, hcur⟩ := own_heap h.fl hk
    rcases hS k hs with e | e | ⟨x, hx, e⟩
    · exact ne_of_heap hcur h.tab.tab (by simp) e
    · exact ne_of_heap hcur h.tab.map (by simp) e
    · exact ne_of_heap hcur (h.tab.reqs x hx) (by simp) e
  · rw [h4]
    intro c hcm
    refine ownsRow_chg (h.rows c hcm) hc fun k hk hs => ?_
    obtain ⟨cur, hcur⟩ := own_heap (h.rows c hcm) hk
    rcases hS k hs with e | e | ⟨x, hx, e⟩
    · exact ne_of_heap hcur h.tab.tab (by simp) e
    · exact ne_of_heap hcur h.tab.map (by simp) e
    · exact ne_of_heap hcur (h.tab.reqs x hx) (by simp) e
end

/-- A new queue. -/
def sta0 (depth : Nat) : Sta := ⟨depth, [], 0, 0, [], 0, 0, List.replicate 64 0⟩

set_option maxRecDepth 100000 in
theorem new_no (d : Int) (w : World) (hd : d < 1 ∨ 4 < d) : Calls Tryz.prog 59 #[.int .i64 d] w fun e w' => e = .returned (.tuple #[.pointer none, errK 1]) ∧ w' = w := by
  rcases hd with hd | hd
  · go_enter Tryz.func59, Tryz.ntmps59
    go_wp2_with fail
    go_ret2
    exact ⟨rfl, rfl⟩
  · go_enter Tryz.func59, Tryz.ntmps59
    go_wp2_with fail
    go_ret2
    exact ⟨rfl, rfl⟩

set_option maxRecDepth 100000 in
theorem new_any (d : Nat) (w : World) (hd : 1 ≤ d ∧ d ≤ 4) : Calls Tryz.prog 59 #[.int .i64 d] w fun e w' => ∃ q, e = .returned (.tuple #[ptr q, .nilIface]) ∧ QAt w' q (sta0 d) (fun k => w.heap.size ≤ k) ∧ w.heap.size ≤ q ∧ Below w.heap.size w w' := by
  have h1 : ¬ ((d : Int) < 1) := by omega
  have h2 : ¬ ((d : Int) > 4) := by omega
  go_enter Tryz.func59, Tryz.ntmps59
  go_wp2_with fail
  refine (newTable_any w).mono ?_
  rintro x w' ⟨tb, mb, rfl, hT, hbt, hbm, hB⟩
  have H := Lib.hid hT
  clear hT
  go_wp2_with fail
  go_ret2
  have hT := H.out
  have hq : (w'.alloc (.cells (qCells tb (.slice none 0 0) (sta0 d)) 89)).heap[w'.heap.size]? = some (.cells (qCells tb (.slice none 0 0) (sta0 d)) 89 (0, 0)) := World.alloc_heap_new _ _
  refine ⟨w'.heap.size, rfl, ⟨tb, mb, 0, .slice none 0 0, ⟨hq, hT.below ((Below.refl _ _).alloc (Nat.le_refl _) _), World.ownsRow_nil _ _ _ _, (fun c hc => by cases hc), rfl⟩, ?_⟩, hB.size, hB.alloc hB.size _⟩
  intro k hk
  have := hB.size
  rcases hk with h | h | h | h | ⟨e, he, _⟩ | ⟨c, hc, _⟩
  · omega
  · omega
  · omega
  · cases h
  · cases he
  · cases hc

set_option maxRecDepth 100000 in
theorem tick_any (q : Nat) (s : Sta) (F : Nat → Prop) (w : World) (h : QAt w q s F) (hn : 0 ≤ s.now ∧ s.now < 2 ^ 60) : Calls Tryz.prog 42 #[ptr q] w fun e w' => e = .returned (.tuple #[]) ∧ QAt w' q { s with now := s.now + 1 } F ∧ Chg (fun k => k = q) w w' := by
  obtain ⟨tb, mb, clock, fv, hq, hF⟩ := h
  have c3 := hq.c3
  have f3 := hq.free 3
  have hw : IntKind.i64.wrap (s.now + 1) = s.now + 1 := by rw [IntKind.wrap_i64]; omega
  have h' := hq.ques (W := w.setCell ⟨q, 3, none⟩ (.int .i64 (s.now + 1))) { s with now := s.now + 1 } rfl rfl rfl rfl hq.disk (heap_setCell _ hq.que) (chg_set _)
  have H := Lib.hid h'
  have HF := Lib.hid hF
  clear hq h' hF
  go_enter Tryz.func42, Tryz.ntmps42
  go_wp2_with fail
  go_end0
  exact ⟨rfl, ⟨tb, mb, clock, fv, H.out, HF.out⟩, chg_set _⟩

set_option maxRecDepth 100000 in
theorem isPage_any (p : Int) (w : World) : Calls Tryz.prog 76 #[.int .i64 p] w fun e w' => e = .returned (.bool (decide (0 ≤ p) && decide (p < 16))) ∧ w' = w := by
  by_cases h : 0 ≤ p
  · by_cases h2 : p < 16
    · have d1 : decide (p ≥ 0) = true := by simpa using h
      have d2 : decide (p < 16) = true := by simpa using h2
      go_enter Tryz.func76, Tryz.ntmps76
      go_wp2_with fail
      go_ret
      exact ⟨by simp [h, h2], rfl⟩
    · have d1 : decide (p ≥ 0) = true := by simpa using h
      have d2 : decide (p < 16) = false := by simpa using h2
      go_enter Tryz.func76, Tryz.ntmps76
      go_wp2_with fail
      go_ret
      exact ⟨by simp, rfl⟩
  · have d1 : decide (p ≥ 0) = false := by simpa using h
    go_enter Tryz.func76, Tryz.ntmps76
    go_wp2_with fail
    go_ret
    exact ⟨by simp, rfl⟩

/-- The footprint behind a change of the table. -/
theorem foot_tabs {q tb mb : Nat} {fv : Value} {s s' : Sta} {F : Nat → Prop} {n : Nat} (hF : ∀ k, QFoot q tb mb fv s k → F k) (h4 : s'.cs = s.cs) (he : ∀ e ∈ s'.es, (∃ x ∈ s.es, x.p = e.p) ∨ n ≤ e.p) : ∀ k, QFoot q tb mb fv s' k → F k ∨ n ≤ k := by
  intro k hk
  rcases hk with h | h | h | h | ⟨e, hm, h⟩ | ⟨c, hc, h⟩
  · exact .inl (hF k (.inl h))
  · exact .inl (hF k (.inr (.inl h)))
  · exact .inl (hF k (.inr (.inr (.inl h))))
  · exact .inl (hF k (.inr (.inr (.inr (.inl h)))))
  · rcases he e hm with ⟨x, hx, hxe⟩ | hn
    · exact .inl (hF k (.inr (.inr (.inr (.inr (.inl ⟨x, hx, h.trans hxe.symm⟩))))))
    · exact .inr (h ▸ hn)
  · exact .inl (hF k (.inr (.inr (.inr (.inr (.inr ⟨c, h4 ▸ hc, h⟩))))))
/-- A request more. -/
def addS (s : Sta) (write : Bool) (page : Int) (d : B4) (b clock : Nat) : Sta := { s with es := s.es ++ [⟨newReq (s.last + 1) write page d, b, clock⟩], last := s.last + 1, held := s.held + 1 }

set_option maxRecDepth 100000 in
theorem read_any (q : Nat) (s : Sta) (F : Nat → Prop) (w : World) (page : Int) (h : QAt w q s F) (hp : 0 ≤ page ∧ page < 16) (hh : 0 ≤ s.held ∧ s.held < 40) (hl : 0 ≤ s.last ∧ s.last < 2 ^ 60) (hn : ∀ e ∈ s.es, e.r.num ≤ s.last) (hlen : s.es.length < 1000000) :
    Calls Tryz.prog 46 #[ptr q, .int .i64 page] w fun x w' => ∃ b clock, x = .returned (.tuple #[.int .i64 (s.last + 1), .nilIface]) ∧ QAt w' q (addS s false page ⟨0, 0, 0, 0⟩ b clock) (fun k => F k ∨ w.heap.size ≤ k) ∧ Chg F w w' := by
  obtain ⟨tb, mb, clock, fv, hq, hF⟩ := h
  have c1 := hq.c1
  have HQ := Lib.hid hq
  have HF := Lib.hid hF
  have HN := Lib.hid hn
  have hpg : (decide (0 ≤ page) && decide (page < 16)) = true := by simp [hp.1, hp.2]
  clear hq hF hn
  go_enter Tryz.func46, Tryz.ntmps46
  go_wp2_with fail
  refine (isPage_any page w).mono ?_
  rintro x w1 ⟨rfl, rfl⟩
  rw [hpg]
  go_wp2_with fail
  refine (add_any tb mb clock s.last s.held s.es w1 HQ.out.tab hh hl HN.out hlen false page hp _ _ .nil).mono ?_
  rintro x w2 ⟨b, rfl, hT, hb, hc⟩
  have HT := Lib.hid hT
  clear hT
  go_wp2_with fail
  go_ret2
  refine ⟨b, clock, rfl, ⟨tb, mb, clock + 1, fv, HQ.out.tabs _ (addS s false page ⟨0, 0, 0, 0⟩ b clock) ⟨rfl, rfl, rfl, rfl⟩ rfl HT.out hc (fun k hk => hk.imp id .inl), foot_tabs HF.out rfl ?_⟩, hc.mono ?_⟩
  · intro e he
    rcases List.mem_append.1 he with he | he
    · exact .inl ⟨e, he, rfl⟩
    · rw [List.mem_singleton.1 he]; exact .inr hb
  · exact fun k _ hk => HF.out k (hk.elim (fun h => .inr (.inl h)) fun h => .inr (.inr (.inl h)))

set_option maxRecDepth 100000 in
theorem read_full (q : Nat) (s : Sta) (F : Nat → Prop) (w : World) (page : Int) (h : QAt w q s F) (hp : 0 ≤ page ∧ page < 16) (hh : 40 ≤ s.held) :
    Calls Tryz.prog 46 #[ptr q, .int .i64 page] w fun x w' => x = .returned (.tuple #[.int .i64 0, errK 4]) ∧ w' = w := by
  obtain ⟨tb, mb, clock, fv, hq, hF⟩ := h
  have c1 := hq.c1
  have HQ := Lib.hid hq
  have hpg : (decide (0 ≤ page) && decide (page < 16)) = true := by simp [hp.1, hp.2]
  clear hq hF
  go_enter Tryz.func46, Tryz.ntmps46
  go_wp2_with fail
  refine (isPage_any page w).mono ?_
  rintro x w1 ⟨rfl, rfl⟩
  rw [hpg]
  go_wp2_with fail
  refine (add_full tb mb clock s.last s.held s.es w1 HQ.out.tab hh false page _).mono ?_
  rintro x w2 ⟨rfl, rfl⟩
  go_wp2_with fail
  go_ret2
  exact ⟨rfl, rfl⟩

set_option maxRecDepth 100000 in
theorem write_any (q : Nat) (s : Sta) (F : Nat → Prop) (w : World) (page : Int) (v : Value) (d : B4) (cap : Nat) (a : Option Addr) (hv : v = .slice a 4 cap) (hd : DatV w v d) (h : QAt w q s F) (hp : 0 ≤ page ∧ page < 16) (hh : 0 ≤ s.held ∧ s.held < 40) (hl : 0 ≤ s.last ∧ s.last < 2 ^ 60) (hn : ∀ e ∈ s.es, e.r.num ≤ s.last) (hlen : s.es.length < 1000000) :
    Calls Tryz.prog 60 #[ptr q, .int .i64 page, v] w fun x w' => ∃ b clock, x = .returned (.tuple #[.int .i64 (s.last + 1), .nilIface]) ∧ QAt w' q (addS s true page d b clock) (fun k => F k ∨ w.heap.size ≤ k) ∧ Chg F w w' := by
  obtain ⟨tb, mb, clock, fv, hq, hF⟩ := h
  have c1 := hq.c1
  have HQ := Lib.hid hq
  have HF := Lib.hid hF
  have HN := Lib.hid hn
  have hpg : (decide (0 ≤ page) && decide (page < 16)) = true := by simp [hp.1, hp.2]
  subst hv
  clear hq hF hn
  go_enter Tryz.func60, Tryz.ntmps60
  go_wp2_with fail
  refine (isPage_any page w).mono ?_
  rintro x w1 ⟨rfl, rfl⟩
  rw [hpg]
  go_wp2_with fail
  refine (add_any tb mb clock s.last s.held s.es w1 HQ.out.tab hh hl HN.out hlen true page hp _ _ hd).mono ?_
  rintro x w2 ⟨b, rfl, hT, hb, hc⟩
  have HT := Lib.hid hT
  clear hT
  go_wp2_with fail
  go_ret2
  refine ⟨b, clock, rfl, ⟨tb, mb, clock + 1, fv, HQ.out.tabs _ (addS s true page d b clock) ⟨rfl, rfl, rfl, rfl⟩ rfl HT.out hc (fun k hk => hk.imp id .inl), foot_tabs HF.out rfl ?_⟩, hc.mono ?_⟩
  · intro e he
    rcases List.mem_append.1 he with he | he
    · exact .inl ⟨e, he, rfl⟩
    · rw [List.mem_singleton.1 he]; exact .inr hb
  · exact fun k _ hk => HF.out k (hk.elim (fun h => .inr (.inl h)) fun h => .inr (.inr (.inl h)))

set_option maxRecDepth 100000 in
theorem write_full (q : Nat) (s : Sta) (F : Nat → Prop) (w : World) (page : Int) (cap : Nat) (a : Option Addr) (h : QAt w q s F) (hp : 0 ≤ page ∧ page < 16) (hh : 40 ≤ s.held) :
    Calls Tryz.prog 60 #[ptr q, .int .i64 page, .slice a 4 cap] w fun x w' => x = .returned (.tuple #[.int .i64 0, errK 4]) ∧ w' = w := by
  obtain ⟨tb, mb, clock, fv, hq, hF⟩ := h
  have c1 := hq.c1
  have HQ := Lib.hid hq
  have hpg : (decide (0 ≤ page) && decide (page < 16)) = true := by simp [hp.1, hp.2]
  clear hq hF
  go_enter Tryz.func60, Tryz.ntmps60
  go_wp2_with fail
  refine (isPage_any page w).mono ?_
  rintro x w1 ⟨rfl, rfl⟩
  rw [hpg]
  go_wp2_with fail
  refine (add_full tb mb clock s.last s.held s.es w1 HQ.out.tab hh true page _).mono ?_
  rintro x w2 ⟨rfl, rfl⟩
  go_wp2_with fail
  go_ret2
  exact ⟨rfl, rfl⟩
end Go.Proofs.YticobikhndlejaaGreatDoor

/- Step by contract. -/
namespace Go.Proofs.YticobikhndlejaaGreatDoor
open Go.RowKit Go.Shelf Go.Lib

theorem row_int {w : World} {g n : Nat} {t : TypeId} {ns : List Int} {cur : Array Value} (hgb : w.heap[g]? = some (.cells cur t (0, 0))) (r4 : cur.toList.take (n * 1) = ns.map fun n => Value.int .i64 n) (hn : n = ns.length) (j : Nat) (hj : j < ns.length) :
    w.cell? ⟨g, j, none⟩ = some (.int .i64 (ns[j]'hj)) := by
  simp only [World.cell?, hgb]
  have h1 : (cur.toList.take (n * 1))[j]? = (ns.map fun n => Value.int .i64 n)[j]? := by rw [r4]
  rw [Nat.mul_one, List.getElem?_take_of_lt (by omega), List.getElem?_map, List.getElem?_eq_getElem hj] at h1
  simpa using h1
theorem own_slice {w : World} {base n size : Nat} {t : TypeId} {v : Value} {xs : List Value} (h : w.ownsRow base t size v n xs) : ∃ a c, v = .slice a n c := by
  rcases h.2 with ⟨rfl, rfl⟩ | ⟨g, c, cur, rfl, _⟩
  · exact ⟨_, _, rfl⟩
  · exact ⟨_, _, rfl⟩
theorem QB.foot_lt {w : World} {q tb mb clock : Nat} {fv : Value} {s : Sta} (h : QB w q tb mb clock fv s) {k : Nat} (hk : QFoot q tb mb fv s k) : k < w.heap.size := by
  rcases hk with rfl | rfl | rfl | hk | ⟨e, he, rfl⟩ | ⟨c, hc, hk⟩
  · exact lt_of_heap h.que
  · exact lt_of_heap h.tab.tab
  · exact lt_of_heap h.tab.map
  · obtain ⟨cur, hc⟩ := own_heap h.fl hk
    exact lt_of_heap hc
  · exact lt_of_heap (h.tab.reqs e he)
  · obtain ⟨cur, hc⟩ := own_heap (h.rows c hc) hk
    exact lt_of_heap hc
theorem cloneInts (v : Value) (ns : List Int) (w : World) (h : w.ownsRow 0 3 1 v ns.length (ns.map fun n => Value.int .i64 n)) (hl : ns.length ≤ 1000000) :
    Calls Tryz.prog 70 #[v] w fun e w' => ∃ v', e = .returned v' ∧ w'.ownsRow w.heap.size 3 1 v' ns.length (ns.map fun n => Value.int .i64 n) ∧ Below w.heap.size w w' := by
  rcases h.2 with ⟨rfl, h0⟩ | ⟨g, cap, cur, rfl, _, h3, h4, h5, h6, h7⟩
  · refine (Tryz.slices_Clone_int_nil 0 0 w).mono ?_
    rintro e w' ⟨rfl, rfl⟩
    have : ns = [] := List.length_eq_zero_iff.1 h0
    subst this
    exact ⟨_, rfl, World.ownsRow_nil _ _ _ _, Below.refl _ _⟩
  · refine (Tryz.slices_Clone_int g 0 ns.length cap ns w (Nat.le_refl _) (by omega) fun j hj => ?_).mono ?_
    · rw [Nat.zero_add, row_int h3 h7 rfl j hj]
      simp [List.getD, List.getElem?_eq_getElem hj]
    · rintro e w' ⟨v', rfl, h1, _, h2⟩
      rw [List.take_length] at h1
      exact ⟨v', rfl, h1, h2⟩

set_option maxRecDepth 100000 in
theorem clone_any (b : Bool) (p c : Int) (v : Value) (ns : List Int) (w : World) (h : w.ownsRow 0 3 1 v ns.length (ns.map fun n => Value.int .i64 n)) (hl : ns.length ≤ 1000000) :
    Calls Tryz.prog 39 #[.agg #[.bool b, .int .i64 p, .int .i64 c, v]] w fun e w' => ∃ v', e = .returned (.agg #[.bool b, .int .i64 p, .int .i64 c, v']) ∧ w'.ownsRow w.heap.size 3 1 v' ns.length (ns.map fun n => Value.int .i64 n) ∧ Below w.heap.size w w' := by
  obtain ⟨W1, hW1⟩ : ∃ W1, ((w.alloc (.cells #[.bool b, .int .i64 p, .int .i64 c, v] 48)).alloc (.cells #[.bool false, .int .i64 0, .int .i64 0, .slice none 0 0] 48)) = W1 := ⟨_, rfl⟩
  have hb1 : Below w.heap.size w W1 := by rw [← hW1]; exact ((Below.refl _ _).alloc (Nat.le_refl _) _).alloc (by simp) _
  have hs1 : W1.heap.size = w.heap.size + 2 := by rw [← hW1]; simp
  have hr1 : W1.heap[w.heap.size]? = some (.cells #[.bool b, .int .i64 p, .int .i64 c, v] 48 (0, 0)) := by
    rw [← hW1]; exact (Below.heap_alloc _ _ _ (by simp)).trans (World.alloc_heap_new w _)
  have hr2 : W1.heap[w.heap.size + 1]? = some (.cells #[.bool false, .int .i64 0, .int .i64 0, .slice none 0 0] 48 (0, 0)) := by
    rw [← hW1, show w.heap.size + 1 = (w.alloc (.cells #[.bool b, .int .i64 p, .int .i64 c, v] 48)).heap.size from by simp]; exact World.alloc_heap_new _ _
  have HC := Lib.hid (cloneInts v ns W1 (ownsRow_chg h (chgB hb1 fun _ => False) fun _ _ x => x) hl)
  have HR := Lib.hid hr1
  have HR2 := Lib.hid hr2
  have g3 : W1.cell? ⟨w.heap.size, 3, none⟩ = some v := cell_of hr1 rfl
  clear h hr1 hr2
  go_enter Tryz.func39, Tryz.ntmps39
  go_wp2_with fail
  refine HC.out.mono ?_
  rintro x w2 ⟨v', rfl, hrow, hB⟩
  obtain ⟨va, vc, rfl⟩ := own_slice hrow
  have e1 := (hB.block w.heap.size (by omega)).trans HR.out
  have e2 := (hB.block (w.heap.size + 1) (by omega)).trans HR2.out
  have hsz := hB.size
  have a0 : w2.cell? ⟨w.heap.size, 0, none⟩ = some (.bool b) := cell_of e1 rfl
  have a1 : w2.cell? ⟨w.heap.size, 1, none⟩ = some (.int .i64 p) := cell_of e1 rfl
  have a2 : w2.cell? ⟨w.heap.size, 2, none⟩ = some (.int .i64 c) := cell_of e1 rfl
  have a3 : w2.cell? ⟨w.heap.size, 3, none⟩ = some v := cell_of e1 rfl
  have fr1 : ∀ i, w2.frozen? ⟨w.heap.size, i, none⟩ = false := fun i => free_of e1
  have b0 : w2.cell? ⟨w.heap.size + 1, 0, none⟩ = some (.bool false) := cell_of e2 rfl
  have b1 : w2.cell? ⟨w.heap.size + 1, 1, none⟩ = some (.int .i64 0) := cell_of e2 rfl
  have b2 : w2.cell? ⟨w.heap.size + 1, 2, none⟩ = some (.int .i64 0) := cell_of e2 rfl
  have b3 : w2.cell? ⟨w.heap.size + 1, 3, none⟩ = some (.slice none 0 0) := cell_of e2 rfl
  have fr2 : ∀ i, w2.frozen? ⟨w.heap.size + 1, i, none⟩ = false := fun i => free_of e2
  have HROW := Lib.hid hrow
  have HB := Lib.hid hB
  have H1 := Lib.hid e1
  have H2 := Lib.hid e2
  clear hrow hB e1 e2
  go_wp2_with fail
  obtain ⟨W5, hW5⟩ : ∃ W5, (((((w2.setCell ⟨w.heap.size, 3, none⟩ (.slice va ns.length vc)).setCell ⟨w.heap.size + 1, 0, none⟩ (.bool b)).setCell ⟨w.heap.size + 1, 1, none⟩ (.int .i64 p)).setCell ⟨w.heap.size + 1, 2, none⟩ (.int .i64 c)).setCell ⟨w.heap.size + 1, 3, none⟩ (.slice va ns.length vc)) = W5 := ⟨_, rfl⟩
  have hc5 : Chg (fun k => k = w.heap.size ∨ k = w.heap.size + 1) w2 W5 := by
    rw [← hW5]
    exact ((((((chg_set _).mono fun k _ hk => .inl hk).then ((chg_set _).mono fun k _ hk => .inr hk)).then ((chg_set _).mono fun k _ hk => .inr hk)).then ((chg_set _).mono fun k _ hk => .inr hk)).then ((chg_set _).mono fun k _ hk => .inr hk))
  have e5 : W5.heap[w.heap.size + 1]? = some (.cells #[.bool b, .int .i64 p, .int .i64 c, .slice va ns.length vc] 48 (0, 0)) := by
    rw [← hW5]
    exact heap_setCell (i := 3) _ (heap_setCell (i := 2) _ (heap_setCell (i := 1) _ (heap_setCell (i := 0) _ ((heap_setCell_ne _ (by show w.heap.size + 1 ≠ w.heap.size; omega)).trans H2.out))))
  rw [hW5]
  have z0 : W5.cell? ⟨w.heap.size + 1, 0, none⟩ = some (.bool b) := cell_of e5 rfl
  have z1 : W5.cell? ⟨w.heap.size + 1, 1, none⟩ = some (.int .i64 p) := cell_of e5 rfl
  have z2 : W5.cell? ⟨w.heap.size + 1, 2, none⟩ = some (.int .i64 c) := cell_of e5 rfl
  have z3 : W5.cell? ⟨w.heap.size + 1, 3, none⟩ = some (.slice va ns.length vc) := cell_of e5 rfl
  refine bodyPost_ret (v := .agg #[.bool b, .int .i64 p, .int .i64 c, .slice va ns.length vc]) (by simp [results, Tryz.results39, go_sem, z0, z1, z2, z3]) rfl ⟨_, rfl, ?_, ?_⟩
  · exact ownsRow_chg (ownsRow_low HROW.out hb1.size) hc5 fun k hk hh => by
      have := (HROW.out.lt k hk).1
      omega
  · refine ((hb1.trans (HB.out.mono hb1.size)).trans ⟨hc5.os, hc5.tape, hc5.output, hc5.size, fun k hk => hc5.block k ?_ (by omega)⟩)
    have := hb1.size
    omega
end Go.Proofs.YticobikhndlejaaGreatDoor
