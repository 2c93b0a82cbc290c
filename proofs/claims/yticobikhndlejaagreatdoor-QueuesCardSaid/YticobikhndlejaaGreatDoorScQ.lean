/- package elevatorkeep by contracts: begun, ask. -/
import Derived.Test.YticobikhndlejaaGreatDoorScP
namespace Go.Proofs.YticobikhndlejaaGreatDoor
open Go.RowKit Go.Shelf Go.Lib

/-- What was asked for, and what became of it. -/
structure KReq where
  num : Int
  write : Bool
  page : Int
  data : ByteArray
  how : Int
  read : ByteArray
def kCells (r : KReq) : List Value := [.int .i64 r.num, .bool r.write, .int .i64 r.page, .string r.data, .int .i64 r.how, .string r.read]
/-- A world: a queue and all that was asked of it. -/
structure KB (w : World) (wo q : Nat) (rv : Value) (F : Nat → Prop) (t : St) (rs : List KReq) : Prop where
  blk : w.heap[wo]? = some (.cells #[ptr q, rv] 36 (0, 0))
  row : w.ownsRow 0 32 6 rv rs.length (rs.flatMap kCells)
  que : QT w q t F
  now : ¬ F wo
  nor : ∀ k, rv.ownBlock = some k → ¬ F k
/-- Its blocks. -/
def KFoot (wo : Nat) (rv : Value) (F : Nat → Prop) (k : Nat) : Prop := F k ∨ k = wo ∨ rv.ownBlock = some k
theorem KB.kept {w W : World} {wo q : Nat} {rv : Value} {F : Nat → Prop} {t : St} {rs : List KReq} (h : KB w wo q rv F t rs) {S : Nat → Prop} (hc : Chg S w W) (hS : ∀ k, KFoot wo rv F k → ¬ S k) : KB W wo q rv F t rs :=
  ⟨(hc.block _ (lt_of_heap h.blk) (hS _ (.inr (.inl rfl)))).trans h.blk, ownsRow_chg h.row hc fun k hk => hS k (.inr (.inr hk)), h.que.kept hc fun k hk => hS k (.inl hk), h.now, h.nor⟩
theorem KB.below {w W : World} {wo q : Nat} {rv : Value} {F : Nat → Prop} {t : St} {rs : List KReq} (h : KB w wo q rv F t rs) (hb : Below w.heap.size w W) : KB W wo q rv F t rs := h.kept (chgB hb fun _ => False) fun _ _ x => x
theorem KB.ne {w : World} {wo q : Nat} {rv : Value} {F : Nat → Prop} {t : St} {rs : List KReq} (h : KB w wo q rv F t rs) {k : Nat} (hk : rv.ownBlock = some k) : wo ≠ k := by
  obtain ⟨cur, hc⟩ := own_heap h.row hk
  exact ne_of_heap h.blk hc (by simp)
/-- The queue is turned. -/
theorem KB.que' {w W : World} {wo q : Nat} {rv : Value} {F F' : Nat → Prop} {t t' : St} {rs : List KReq} (h : KB w wo q rv F t rs) (hc : Chg F w W) (hq : QT W q t' F') (hF : ∀ k, F' k → F k ∨ w.heap.size ≤ k) : KB W wo q rv F' t' rs :=
  ⟨(hc.block _ (lt_of_heap h.blk) h.now).trans h.blk, ownsRow_chg h.row hc h.nor, hq, fun hk => (hF _ hk).elim h.now fun hl => by have := lt_of_heap h.blk; omega, fun k hk hk2 => (hF _ hk2).elim (h.nor k hk) fun hl => by
    obtain ⟨cur, hcur⟩ := own_heap h.row hk
    have := lt_of_heap hcur; omega⟩
theorem KB.c0 {w : World} {wo q : Nat} {rv : Value} {F : Nat → Prop} {t : St} {rs : List KReq} (h : KB w wo q rv F t rs) : w.cell? ⟨wo, 0, none⟩ = some (ptr q) := cell_of h.blk rfl
theorem KB.c1 {w : World} {wo q : Nat} {rv : Value} {F : Nat → Prop} {t : St} {rs : List KReq} (h : KB w wo q rv F t rs) : w.cell? ⟨wo, 1, none⟩ = some rv := cell_of h.blk rfl
theorem KB.free {w : World} {wo q : Nat} {rv : Value} {F : Nat → Prop} {t : St} {rs : List KReq} (h : KB w wo q rv F t rs) (i : Nat) : w.frozen? ⟨wo, i, none⟩ = false := free_of h.blk

theorem KB.lt {w : World} {wo q : Nat} {rv : Value} {F : Nat → Prop} {t : St} {rs : List KReq} (h : KB w wo q rv F t rs) : KB w wo q rv (fun k => F k ∧ k < w.heap.size) t rs :=
  ⟨h.blk, h.row, h.que.lt, fun hk => h.now hk.1, fun k hk hk2 => h.nor k hk hk2.1⟩
set_option maxRecDepth 100000 in
theorem begun_any (d : Int) (w : World) (hg : ErrVar w) (hd : -9223372036854775808 ≤ d ∧ d ≤ 9223372036854775807) :
    Calls Tryz.prog 12 #[.int .i64 d] w fun x w' => ∃ wo q F, x = .returned (.tuple #[ptr wo, .bool true]) ∧ KB w' wo q (.slice none 0 0) F (St.new (1 + pickI d 4).toNat) [] ∧ (∀ k, F k → w.heap.size ≤ k) ∧ w.heap.size ≤ wo ∧ Below w.heap.size w w' := by
  have hp := pickI_lt d (n := 4) (by omega)
  obtain ⟨n, hn⟩ : ∃ n : Nat, 1 + pickI d 4 = (n : Int) := ⟨(1 + pickI d 4).toNat, by omega⟩
  have hw1 : IntKind.i64.wrap (1 + pickI d 4) = (n : Int) := by rw [IntKind.wrap_i64]; omega
  have hn1 : 1 ≤ n ∧ n ≤ 4 := by omega
  rw [show (1 + pickI d 4).toNat = n from by omega]
  have hge := lt_of_cell hg
  have HG := Lib.hid hg
  clear hg hn
  go_enter Tryz.func12, Tryz.ntmps12
  go_wp2_with fail
  refine (pick_any d 4 w hd (by omega)).mono ?_
  rintro x w' ⟨rfl, rfl⟩
  go_wp2_with fail
  refine (new_p n w' HG.out hn1).mono ?_
  rintro x w1 ⟨q, rfl, hq, hB⟩
  have HQ := Lib.hid hq
  have HB := Lib.hid hB
  clear hq hB
  go_wp2_with fail
  refine (fine_yes _).mono ?_
  rintro x w2 ⟨rfl, hB2⟩
  have HB2 := Lib.hid hB2
  clear hB2
  go_wp2_with fail
  go_ret2
  have hb2 : Below w1.heap.size w1 w2 := ((Below.refl _ _).alloc (Nat.le_refl _) _).trans (HB2.out.mono (by simp))
  have hq2 : QT (w2.alloc (.cells #[ptr q, .slice none 0 0] 36)) q (St.new n) fun k => w'.heap.size < k ∧ k < w1.heap.size := HQ.out.lt.below (hb2.alloc hb2.size _)
  have hz1 := hb2.size
  have hz2 := HB.out.size
  refine ⟨w2.heap.size, q, fun k => w'.heap.size < k ∧ k < w1.heap.size, rfl, ⟨World.alloc_heap_new w2 _, World.ownsRow_nil _ _ _ _, hq2, fun h => by omega, fun k hk => by cases hk⟩, fun k hk => by omega, by omega, (HB.out.trans (hb2.mono hz2)).alloc (by omega) _⟩

/-- One more is laid into the list. -/
theorem KB.push {W4 W w5 : World} {wo q n : Nat} {ra : Option Addr} {rc gg cap2 : Nat} {F : Nat → Prop} {t : St} {rs : List KReq} {r : KReq} (h : KB W4 wo q (.slice ra n rc) F t rs) (hn : rs.length = n) (hW : Below W4.heap.size W4 W)
    (hown : w5.ownsRow 0 32 6 (.slice (some ⟨gg, 0, none⟩) (n + 1) cap2) (n + 1) (rs.flatMap kCells ++ kCells r)) (hgrow : W.grownBy w5 (Value.slice ra n rc).ownBlock) (hat : (Value.slice ra n rc).ownBlock = some gg ∨ gg = W4.heap.size + 1) :
    KB (w5.setCell ⟨wo, 1, none⟩ (.slice (some ⟨gg, 0, none⟩) (n + 1) cap2)) wo q (.slice (some ⟨gg, 0, none⟩) (n + 1) cap2) (fun k => F k ∧ k < W4.heap.size) t (rs ++ [r]) ∧
    Chg (fun k => k = wo ∨ (Value.slice ra n rc).ownBlock = some k) W4 (w5.setCell ⟨wo, 1, none⟩ (.slice (some ⟨gg, 0, none⟩) (n + 1) cap2)) := by
  have hlt := lt_of_heap h.blk
  have hc5 : Chg (fun k => (Value.slice ra n rc).ownBlock = some k) W4 w5 := (chgB hW _).grown hgrow fun k hk => .inl hk
  have hne : wo ≠ gg := by
    rcases hat with e | e
    · exact h.ne e
    · omega
  have hc6 : Chg (fun k => k = wo ∨ (Value.slice ra n rc).ownBlock = some k) W4 (w5.setCell ⟨wo, 1, none⟩ (.slice (some ⟨gg, 0, none⟩) (n + 1) cap2)) := (hc5.mono fun _ _ h => .inr h).then ((chg_set _).mono fun _ _ h => .inl h)
  refine ⟨⟨?_, ?_, h.que.lt.kept hc6 fun k hk hh => ?_, fun hk => h.now hk.1, fun k hk hk2 => ?_⟩, hc6⟩
  · have : w5.heap[wo]? = W4.heap[wo]? := hc5.block _ hlt fun e => h.ne e rfl
    exact heap_setCell (i := 1) _ (this.trans h.blk)
  · rw [List.flatMap_append, List.length_append, hn]
    have hx := ownsRow_chg hown (S := fun k => k = wo) (W := w5.setCell ⟨wo, 1, none⟩ (.slice (some ⟨gg, 0, none⟩) (n + 1) cap2)) (chg_set _) fun k hk e => by
      simp [Value.ownBlock] at hk; omega
    simpa using hx
  · rcases hh with e | e
    · exact h.now (e ▸ hk.1)
    · exact h.nor k e hk.1
  · simp [Value.ownBlock] at hk
    subst hk
    rcases hat with e | e
    · exact h.nor gg e hk2.1
    · omega
def newK (n : Int) (write : Bool) (page : Int) (d : ByteArray) : KReq := ⟨n, write, page, d, 0, ⟨#[]⟩⟩
theorem Tryz.infoQ : (Tryz.prog.info? 32).map (fun i => (i.zero, i.size, i.bytes)) = some (some (.agg #[.int .i64 0, .bool false, .int .i64 0, .string ⟨#[]⟩, .int .i64 0, .string ⟨#[]⟩]), 6, 64) := by kernel_rfl

set_option maxRecDepth 100000 in
theorem ask_read (wo q : Nat) (rv : Value) (F : Nat → Prop) (t : St) (rs : List KReq) (w : World) (page v : Int) (h : KB w wo q rv F t rs) (hg : ErrVar w) (hF : ¬ F 0) (_hw0 : wo ≠ 0) (hr0 : rv.ownBlock ≠ some 0) (hk : t.Ok) (hs : t.Small) (hh : t.held < 40) (hp : 0 ≤ page ∧ page < 16) (hl : t.last = rs.length) :
    Calls Tryz.prog 14 #[ptr wo, .bool false, .int .i64 page, .int .u8 v] w fun x w' => x = .returned (.bool true) ∧ ∃ rv' F', KB w' wo q rv' F' (t.add false page ⟨0, 0, 0, 0⟩) (rs ++ [newK (t.last + 1) false page ⟨#[]⟩]) ∧ (∀ k, KFoot wo rv' F' k → KFoot wo rv F k ∨ w.heap.size ≤ k) ∧ Chg (KFoot wo rv F) w w' := by
  have h := h.lt
  obtain ⟨ra, rc, rfl⟩ := own_slice h.row
  obtain ⟨n, hn⟩ : ∃ n, rs.length = n := ⟨_, rfl⟩
  obtain ⟨W0, hW0⟩ : ∃ W0, w.alloc (.cells #[.int .i64 0, .bool false, .int .i64 page, .string ⟨#[]⟩, .int .i64 0, .string ⟨#[]⟩] 32) = W0 := ⟨_, rfl⟩
  have hB0 : Below w.heap.size w W0 := by rw [← hW0]; exact (Below.refl _ _).alloc (Nat.le_refl _) _
  have hr0' : W0.heap[w.heap.size]? = some (.cells #[.int .i64 0, .bool false, .int .i64 page, .string ⟨#[]⟩, .int .i64 0, .string ⟨#[]⟩] 32 (0, 0)) := by rw [← hW0]; exact World.alloc_heap_new w _
  have hK0 := h.below hB0
  have c0 := h.c0
  have c1 := h.c1
  have HK := Lib.hid h
  have HK0 := Lib.hid hK0
  have HG := Lib.hid (hg.chg (chgB hB0 fun _ => False) fun x => x)
  have HB0 := Lib.hid hB0
  have HR0 := Lib.hid hr0'
  have hwlt := lt_of_heap h.blk
  have hwlt0 := lt_of_heap hK0.blk
  have hs0 : W0.heap.size = w.heap.size + 1 := by rw [← hW0]; simp
  have HW0 := Lib.hid hW0
  clear h hg hB0 hr0' hK0 hW0
  go_enter Tryz.func14, Tryz.ntmps14
  go_wp2_with fail
  rw [HW0.out]
  refine (read_p HK0.out.que hk hs HG.out (fun x => hF x.1) hh page hp).mono ?_
  rintro x w1 ⟨rfl, hq1, hc1⟩
  have hr1 := (hc1.block w.heap.size (by omega) (by omega)).trans HR0.out
  have r0 : w1.cell? ⟨w.heap.size, 0, none⟩ = some (.int .i64 0) := cell_of hr1 rfl
  have r1 : w1.cell? ⟨w.heap.size, 1, none⟩ = some (.bool false) := cell_of hr1 rfl
  have r2 : w1.cell? ⟨w.heap.size, 2, none⟩ = some (.int .i64 page) := cell_of hr1 rfl
  have r3 : w1.cell? ⟨w.heap.size, 3, none⟩ = some (.string ⟨#[]⟩) := cell_of hr1 rfl
  have r4 : w1.cell? ⟨w.heap.size, 4, none⟩ = some (.int .i64 0) := cell_of hr1 rfl
  have r5 : w1.cell? ⟨w.heap.size, 5, none⟩ = some (.string ⟨#[]⟩) := cell_of hr1 rfl
  have rf : ∀ i, w1.frozen? ⟨w.heap.size, i, none⟩ = false := fun i => free_of hr1
  have hK1 := HK0.out.que' hc1 hq1 fun k hk => hk.imp id fun h => by omega
  have hrl := lt_of_heap hr1
  have d0 := hK1.c0
  have d1 := hK1.c1
  have df := hK1.free
  have HK1 := Lib.hid hK1
  have HC1 := Lib.hid hc1
  have HR1 := Lib.hid hr1
  clear hK1 hc1 hr1 hq1
  go_wp2_with fail
  obtain ⟨W2, hW2⟩ : ∃ W2, (w1.setCell ⟨w.heap.size, 0, none⟩ (.int .i64 (n + 1))).alloc (.cells #[.int .i64 0, .int .i64 (-1), .int .i64 0, .bool true] 39) = W2 := ⟨_, rfl⟩
  have hc2 : Chg (fun k => k = w.heap.size) w1 W2 := by rw [← hW2]; exact (chg_set _).alloc _
  have hr2 : W2.heap[w.heap.size]? = some (.cells #[.int .i64 (n + 1), .bool false, .int .i64 page, .string ⟨#[]⟩, .int .i64 0, .string ⟨#[]⟩] 32 (0, 0)) := by
    rw [← hW2]
    exact (Below.heap_alloc _ _ _ (by simpa [World.setCell] using hrl)).trans (heap_setCell (i := 0) _ HR1.out)
  have hK2 := HK1.out.kept hc2 fun k hk e => by
    rcases hk with h | h | h
    · rcases h with ⟨_, h⟩ | h <;> omega
    · omega
    · obtain ⟨cur, hcur⟩ := own_heap HK.out.row h
      have := lt_of_heap hcur; omega
  rw [hW2]
  have HK2 := Lib.hid hK2
  have HR2 := Lib.hid hr2
  have HC2 := Lib.hid hc2
  clear hK2 hr2 hc2 hW2 r0 r1 r2 r3 r4 r5 rf d0 d1 df
  refine (fine_yes W2).mono ?_
  rintro x w3 ⟨rfl, hB3⟩
  have hr3 := (hB3.block _ (lt_of_heap HR2.out)).trans HR2.out
  have hK3 := HK2.out.below hB3
  have d0 := hK3.c0
  have d1 := hK3.c1
  have df := hK3.free
  have r0 : w3.cell? ⟨w.heap.size, 0, none⟩ = some (.int .i64 (n + 1)) := cell_of hr3 rfl
  have r1 : w3.cell? ⟨w.heap.size, 1, none⟩ = some (.bool false) := cell_of hr3 rfl
  have r2 : w3.cell? ⟨w.heap.size, 2, none⟩ = some (.int .i64 page) := cell_of hr3 rfl
  have r3 : w3.cell? ⟨w.heap.size, 3, none⟩ = some (.string ⟨#[]⟩) := cell_of hr3 rfl
  have r4 : w3.cell? ⟨w.heap.size, 4, none⟩ = some (.int .i64 0) := cell_of hr3 rfl
  have r5 : w3.cell? ⟨w.heap.size, 5, none⟩ = some (.string ⟨#[]⟩) := cell_of hr3 rfl
  have hwlt3 := lt_of_heap hK3.blk
  have hrl3 := lt_of_heap hr3
  have hrow := hK3.row
  have hneb : ∀ k, (Value.slice ra n rc).ownBlock = some k → wo ≠ k := fun k hk => by
    rw [← hn] at hk; exact hK3.ne hk
  rw [hn] at d1 hrow
  have hwn : IntKind.i64.wrap ((n : Int) + 1) = (n : Int) + 1 := by
    have := hs.last
    rw [IntKind.wrap_i64]; omega
  have HK3 := Lib.hid hK3
  have HB3 := Lib.hid hB3
  clear hK3 hB3 hr3
  go_wp2_with fail
  go_quiet (fail)
  go_wp2_with fail
  obtain ⟨W4, hW4⟩ : ∃ W4, w3.drewN nq = W4 := ⟨_, rfl⟩
  have hB4 : Below w3.heap.size w3 W4 := by rw [← hW4]; exact below_drewN (Below.refl _ _) _
  have hK4 := HK3.out.below hB4
  have hr4 := (hB4.block _ hrl3).trans ((HB3.out.block _ (lt_of_heap HR2.out)).trans HR2.out)
  have d0' := hK4.c0
  have d1' := hK4.c1
  have df' := hK4.free
  have u0 : W4.cell? ⟨w.heap.size, 0, none⟩ = some (.int .i64 (n + 1)) := cell_of hr4 rfl
  have u1 : W4.cell? ⟨w.heap.size, 1, none⟩ = some (.bool false) := cell_of hr4 rfl
  have u2 : W4.cell? ⟨w.heap.size, 2, none⟩ = some (.int .i64 page) := cell_of hr4 rfl
  have u3 : W4.cell? ⟨w.heap.size, 3, none⟩ = some (.string ⟨#[]⟩) := cell_of hr4 rfl
  have u4 : W4.cell? ⟨w.heap.size, 4, none⟩ = some (.int .i64 0) := cell_of hr4 rfl
  have u5 : W4.cell? ⟨w.heap.size, 5, none⟩ = some (.string ⟨#[]⟩) := cell_of hr4 rfl
  have hrow4 := hK4.row
  rw [hn] at d1' hrow4
  have hwlt4 := lt_of_heap hK4.blk
  have hrl4 := lt_of_heap hr4
  have HK4 := Lib.hid hK4
  have HB4 := Lib.hid hB4
  rw [hW4]
  clear hW4 hK4 hB4 hr4 d0 d1 df r0 r1 r2 r3 r4 r5
  obtain ⟨i4, hi4, hz40, hz41, hz42⟩ := info_parts Tryz.infoQ
  have ag : (Value.slice ra n rc).ownBlock ≠ some wo := fun h => hneb wo h rfl
  have hnl : n ≤ 900000 := by have := hs.last; omega
  have n1 := World.new_ne W4 _ d1'
  have n2 := World.new_ne W4 _ u0
  go_region_law
    ((refine step_append_lies _ (by rfl) _ _ _ (by rfl) 0 32 i4 _ 6 64 Tryz.underlying34 hi4 hz40 hz41 hz42 rfl (by omega) (.slice ra n rc) n _ (by rfl) ((hrow4.alloc _).drew)
        ⟨W4.heap.size, 0, none⟩ 1 1 [.int .i64 (n + 1), .bool false, .int .i64 page, .string ⟨#[]⟩, .int .i64 0, .string ⟨#[]⟩] (by rfl) (by rfl) (World.news_of_block (cs := #[.int .i64 (n + 1), .bool false, .int .i64 page, .string ⟨#[]⟩, .int .i64 0, .string ⟨#[]⟩]) (t := 32) (fr := (0, 0)) (heap_alloc_new W4 _)) (by simp [Value.oneCell'])
        (by omega) (by unfold maxLen; omega) (by omega) (by omega) (W4.heap.size + 1) (by simp) ?_; intro gg cap2 w5 hown5 hgrow hat hltg
      have z2 := hgrow.cell (a := ⟨wo, 1, none⟩) (v := .slice ra n rc) (by go_keep) (fun h => ag h.symm)
      have z3 := grown_free hgrow (a := ⟨wo, 1, none⟩) (v := .slice ra n rc) (by go_keep) (by simp [*, frozen?_alloc_cells]) (fun h => ag h.symm)))
  all_goals
    have hg1 : Below W4.heap.size W4 (((W4.alloc (.cells #[.int .i64 (n + 1), .bool false, .int .i64 page, .string ⟨#[]⟩, .int .i64 0, .string ⟨#[]⟩] 32)).drew)) := by go_grown
    have hKB : KB W4 wo q (.slice ra n rc) _ _ rs := hn ▸ HK4.out
    obtain ⟨f1, f2⟩ := hKB.push hn hg1 (r := newK (n + 1) false page ⟨#[]⟩) hown5 hgrow hat
    have HF1 := Lib.hid f1
    have HF2 := Lib.hid f2
    clear f1 f2 hKB hg1 hown5 hgrow
    go_wp2_with fail
    go_ret
    refine ⟨rfl, .slice (some ⟨gg, 0, none⟩) (n + 1) cap2, _, HF1.out, ?_, ?_⟩
    · rintro k (h | h | h)
      · rcases h.1 with h | h
        · exact .inl (.inl h.1)
        · exact .inr (by omega)
      · exact .inl (.inr (.inl h))
      · simp [Value.ownBlock] at h
        subst h
        rcases hat with e | e
        · exact .inl (.inr (.inr e))
        · exact .inr (by have := HB4.out.size; have := HB3.out.size; have := HC2.out.size; omega)
    · have g1 : Chg (KFoot wo (.slice ra n rc) F) w w1 := (chgB HB0.out _).then (HC1.out.mono fun k _ hk => .inl hk.1)
      have g2 : Chg (KFoot wo (.slice ra n rc) F) w W4 := ((g1.trans (HC2.out.mono fun k _ hk => .inr (by omega))).of_below HB3.out).of_below HB4.out
      exact g2.then (HF2.out.mono fun k _ hk => hk.elim (fun e => .inr (.inl e)) fun e => .inr (.inr e))
end Go.Proofs.YticobikhndlejaaGreatDoor

/- package elevatorkeep by contracts: ask of a write. -/
namespace Go.Proofs.YticobikhndlejaaGreatDoor
open Go.RowKit Go.Shelf Go.Lib


set_option maxRecDepth 100000 in
theorem ask_write (wo q : Nat) (rv : Value) (F : Nat → Prop) (t : St) (rs : List KReq) (w : World) (page v : Int) (h : KB w wo q rv F t rs) (hg : ErrVar w) (hF : ¬ F 0) (_hw0 : wo ≠ 0) (hr0 : rv.ownBlock ≠ some 0) (hk : t.Ok) (hs : t.Small) (hh : t.held < 40) (hp : 0 ≤ page ∧ page < 16) (hl : t.last = rs.length) (_hv : 0 ≤ v ∧ v ≤ 255) :
    Calls Tryz.prog 14 #[ptr wo, .bool true, .int .i64 page, .int .u8 v] w fun x w' => x = .returned (.bool true) ∧ ∃ rv' F', KB w' wo q rv' F' (t.add true page (askD v rs.length)) (rs ++ [newK (t.last + 1) true page (strOfNums (askL v rs.length))]) ∧ (∀ k, KFoot wo rv' F' k → KFoot wo rv F k ∨ w.heap.size ≤ k) ∧ Chg (KFoot wo rv F) w w' := by
  have h := h.lt
  obtain ⟨ra, rc, rfl⟩ := own_slice h.row
  obtain ⟨n, hn⟩ : ∃ n, rs.length = n := ⟨_, rfl⟩
  obtain ⟨kk, hkk⟩ : ∃ kk : Int, (n : Int) % 256 = kk := ⟨_, rfl⟩
  obtain ⟨k2, hk2⟩ : ∃ k2 : Int, kk / 2 = k2 := ⟨_, rfl⟩
  have hd4 : askD v rs.length = ⟨v, kk, k2, 1⟩ := by unfold askD; rw [hn, hkk, hk2]
  have hdl : askL v rs.length = [v, kk, k2, 1] := by unfold askL; rw [hn, hkk, hk2]
  rw [hd4, hdl]
  have hw8 : IntKind.u8.wrap (n : Int) = kk := by rw [← hkk]; exact IntKind.wrap_u8 _
  have hkb : 0 ≤ kk ∧ kk < 256 := by omega
  have htd : kk.tdiv 2 = k2 := by rw [← hk2, Int.tdiv_eq_ediv_of_nonneg hkb.1]
  have hk2b : 0 ≤ k2 ∧ k2 < 128 := by omega
  have hw9 : IntKind.u8.wrap k2 = k2 := by rw [IntKind.wrap_u8]; omega
  obtain ⟨sd, hsd⟩ : ∃ sd, strOfNums [v, kk, k2, 1] = sd := ⟨_, rfl⟩
  obtain ⟨W0, hW0⟩ : ∃ W0, (w.alloc (.cells #[.int .i64 0, .bool true, .int .i64 page, .string ⟨#[]⟩, .int .i64 0, .string ⟨#[]⟩] 32)).alloc (.cells #[.int .u8 v, .int .u8 kk, .int .u8 k2, .int .u8 1] 5) = W0 := ⟨_, rfl⟩
  have hcv : ∀ dst, Tryz.prog.underlying dst = some .string → (convert 41 dst (.slice (some ⟨w.heap.size + 1, 0, none⟩) 4 4)).run Tryz.prog W0 = .ok (.string sd) W0 := by
    rw [← hsd]
    have hb : W0.heap[w.heap.size + 1]? = some (.cells #[.int .u8 v, .int .u8 kk, .int .u8 k2, .int .u8 1] 5 (0, 0)) := by
      rw [← hW0, show w.heap.size + 1 = (w.alloc (.cells #[.int .i64 0, .bool true, .int .i64 page, .string ⟨#[]⟩, .int .i64 0, .string ⟨#[]⟩] 32)).heap.size from by simp]; exact World.alloc_heap_new _ _
    refine run_convert_bytes_arg (P := Tryz.prog) W0 41 5 Tryz.underlying41 Tryz.underlying5 (w.heap.size + 1) 0 4 4 [v, kk, k2, 1] rfl fun i hi => ?_
    refine cell_of hb ?_
    match i, hi with
    | 0, _ => rfl
    | 1, _ => rfl
    | 2, _ => rfl
    | 3, _ => rfl
  have hcv2 := hcv 9 Tryz.underlying9
  rw [← hW0] at hcv2
  have c0 := h.c0
  have c1 := h.c1
  rw [hn] at c1
  have HK := Lib.hid h
  have HG := Lib.hid hg
  have hwlt := lt_of_heap h.blk
  have HW0 := Lib.hid hW0
  clear h hg hW0 hcv hd4 hdl
  go_enter Tryz.func14, Tryz.ntmps14
  go_wp2_with fail
  obtain ⟨WA, hWA⟩ : ∃ WA, (w.alloc (.cells #[.int .i64 0, .bool true, .int .i64 page, .string sd, .int .i64 0, .string ⟨#[]⟩] 32)).alloc (.cells #[.int .u8 v, .int .u8 kk, .int .u8 k2, .int .u8 1] 5) = WA := ⟨_, rfl⟩
  have hsA : WA.heap.size = w.heap.size + 2 := by rw [← hWA]; simp
  have hB0 : Below w.heap.size w WA := by rw [← hWA]; exact ((Below.refl _ _).alloc (Nat.le_refl _) _).alloc (by simp) _
  have hrA : WA.heap[w.heap.size]? = some (.cells #[.int .i64 0, .bool true, .int .i64 page, .string sd, .int .i64 0, .string ⟨#[]⟩] 32 (0, 0)) := by
    rw [← hWA]; exact (Below.heap_alloc _ _ _ (by simp)).trans (World.alloc_heap_new w _)
  have hbA : WA.heap[w.heap.size + 1]? = some (.cells #[.int .u8 v, .int .u8 kk, .int .u8 k2, .int .u8 1] 5 (0, 0)) := by
    rw [← hWA, show w.heap.size + 1 = (w.alloc (.cells #[.int .i64 0, .bool true, .int .i64 page, .string sd, .int .i64 0, .string ⟨#[]⟩] 32)).heap.size from by simp]; exact World.alloc_heap_new _ _
  have hdat : DatV WA (.slice (some ⟨w.heap.size + 1, 0, none⟩) 4 4) ⟨v, kk, k2, 1⟩ := .four _ _ _ _ (cell_of hbA rfl) (cell_of hbA rfl) (cell_of hbA rfl) (cell_of hbA rfl)
  have hKA := HK.out.below hB0
  have HKA := Lib.hid hKA
  have HGA := Lib.hid (HG.out.chg (chgB hB0 fun _ => False) fun x => x)
  have HB0 := Lib.hid hB0
  have HR0 := Lib.hid hrA
  have HDA := Lib.hid hdat
  have hwlt0 := lt_of_heap hKA.blk
  rw [hWA]
  clear hWA hB0 hrA hbA hdat hKA hcv2
  refine (write_p HKA.out.que hk hs HGA.out (fun x => hF x.1) hh page hp _ 4 _ HDA.out).mono ?_
  rintro x w1 ⟨rfl, hq1, hc1⟩
  have hr1 := (hc1.block w.heap.size (by omega) (by omega)).trans HR0.out
  have r0 : w1.cell? ⟨w.heap.size, 0, none⟩ = some (.int .i64 0) := cell_of hr1 rfl
  have r1 : w1.cell? ⟨w.heap.size, 1, none⟩ = some (.bool true) := cell_of hr1 rfl
  have r2 : w1.cell? ⟨w.heap.size, 2, none⟩ = some (.int .i64 page) := cell_of hr1 rfl
  have r3 : w1.cell? ⟨w.heap.size, 3, none⟩ = some (.string sd) := cell_of hr1 rfl
  have r4 : w1.cell? ⟨w.heap.size, 4, none⟩ = some (.int .i64 0) := cell_of hr1 rfl
  have r5 : w1.cell? ⟨w.heap.size, 5, none⟩ = some (.string ⟨#[]⟩) := cell_of hr1 rfl
  have rf : ∀ i, w1.frozen? ⟨w.heap.size, i, none⟩ = false := fun i => free_of hr1
  have hK1 := HKA.out.que' hc1 hq1 fun k hk => hk.imp id fun h => by omega
  have hrl := lt_of_heap hr1
  have d0 := hK1.c0
  have d1 := hK1.c1
  have df := hK1.free
  have HK1 := Lib.hid hK1
  have HC1 := Lib.hid hc1
  have HR1 := Lib.hid hr1
  clear hK1 hc1 hr1 hq1
  go_wp2_with fail
  obtain ⟨W2, hW2⟩ : ∃ W2, (w1.setCell ⟨w.heap.size, 0, none⟩ (.int .i64 (n + 1))).alloc (.cells #[.int .i64 0, .int .i64 (-1), .int .i64 0, .bool true] 39) = W2 := ⟨_, rfl⟩
  have hc2 : Chg (fun k => k = w.heap.size) w1 W2 := by rw [← hW2]; exact (chg_set _).alloc _
  have hr2 : W2.heap[w.heap.size]? = some (.cells #[.int .i64 (n + 1), .bool true, .int .i64 page, .string sd, .int .i64 0, .string ⟨#[]⟩] 32 (0, 0)) := by
    rw [← hW2]
    exact (Below.heap_alloc _ _ _ (by simpa [World.setCell] using hrl)).trans (heap_setCell (i := 0) _ HR1.out)
  have hK2 := HK1.out.kept hc2 fun k hk e => by
    rcases hk with h | h | h
    · rcases h with ⟨_, h⟩ | h <;> omega
    · omega
    · obtain ⟨cur, hcur⟩ := own_heap HK.out.row h
      have := lt_of_heap hcur; omega
  rw [hW2]
  have HK2 := Lib.hid hK2
  have HR2 := Lib.hid hr2
  have HC2 := Lib.hid hc2
  clear hK2 hr2 hc2 hW2 r0 r1 r2 r3 r4 r5 rf d0 d1 df
  refine (fine_yes W2).mono ?_
  rintro x w3 ⟨rfl, hB3⟩
  have hr3 := (hB3.block _ (lt_of_heap HR2.out)).trans HR2.out
  have hK3 := HK2.out.below hB3
  have d0 := hK3.c0
  have d1 := hK3.c1
  have df := hK3.free
  have r0 : w3.cell? ⟨w.heap.size, 0, none⟩ = some (.int .i64 (n + 1)) := cell_of hr3 rfl
  have r1 : w3.cell? ⟨w.heap.size, 1, none⟩ = some (.bool true) := cell_of hr3 rfl
  have r2 : w3.cell? ⟨w.heap.size, 2, none⟩ = some (.int .i64 page) := cell_of hr3 rfl
  have r3 : w3.cell? ⟨w.heap.size, 3, none⟩ = some (.string sd) := cell_of hr3 rfl
  have r4 : w3.cell? ⟨w.heap.size, 4, none⟩ = some (.int .i64 0) := cell_of hr3 rfl
  have r5 : w3.cell? ⟨w.heap.size, 5, none⟩ = some (.string ⟨#[]⟩) := cell_of hr3 rfl
  have hwlt3 := lt_of_heap hK3.blk
  have hrl3 := lt_of_heap hr3
  have hrow := hK3.row
  have hneb : ∀ k, (Value.slice ra n rc).ownBlock = some k → wo ≠ k := fun k hk => by
    rw [← hn] at hk; exact hK3.ne hk
  rw [hn] at d1 hrow
  have hwn : IntKind.i64.wrap ((n : Int) + 1) = (n : Int) + 1 := by
    have := hs.last
    rw [IntKind.wrap_i64]; omega
  have HK3 := Lib.hid hK3
  have HB3 := Lib.hid hB3
  clear hK3 hB3 hr3
  go_wp2_with fail
  go_quiet (fail)
  go_wp2_with fail
  obtain ⟨W4, hW4⟩ : ∃ W4, w3.drewN nq = W4 := ⟨_, rfl⟩
  have hB4 : Below w3.heap.size w3 W4 := by rw [← hW4]; exact below_drewN (Below.refl _ _) _
  have hK4 := HK3.out.below hB4
  have hr4 := (hB4.block _ hrl3).trans ((HB3.out.block _ (lt_of_heap HR2.out)).trans HR2.out)
  have d0' := hK4.c0
  have d1' := hK4.c1
  have df' := hK4.free
  have u0 : W4.cell? ⟨w.heap.size, 0, none⟩ = some (.int .i64 (n + 1)) := cell_of hr4 rfl
  have u1 : W4.cell? ⟨w.heap.size, 1, none⟩ = some (.bool true) := cell_of hr4 rfl
  have u2 : W4.cell? ⟨w.heap.size, 2, none⟩ = some (.int .i64 page) := cell_of hr4 rfl
  have u3 : W4.cell? ⟨w.heap.size, 3, none⟩ = some (.string sd) := cell_of hr4 rfl
  have u4 : W4.cell? ⟨w.heap.size, 4, none⟩ = some (.int .i64 0) := cell_of hr4 rfl
  have u5 : W4.cell? ⟨w.heap.size, 5, none⟩ = some (.string ⟨#[]⟩) := cell_of hr4 rfl
  have hrow4 := hK4.row
  rw [hn] at d1' hrow4
  have hwlt4 := lt_of_heap hK4.blk
  have hrl4 := lt_of_heap hr4
  have HK4 := Lib.hid hK4
  have HB4 := Lib.hid hB4
  rw [hW4]
  clear hW4 hK4 hB4 hr4 d0 d1 df r0 r1 r2 r3 r4 r5
  obtain ⟨i4, hi4, hz40, hz41, hz42⟩ := info_parts Tryz.infoQ
  have ag : (Value.slice ra n rc).ownBlock ≠ some wo := fun h => hneb wo h rfl
  have hnl : n ≤ 900000 := by have := hs.last; omega
  have n1 := World.new_ne W4 _ d1'
  have n2 := World.new_ne W4 _ u0
  go_region_law
    ((refine step_append_lies _ (by rfl) _ _ _ (by rfl) 0 32 i4 _ 6 64 Tryz.underlying34 hi4 hz40 hz41 hz42 rfl (by omega) (.slice ra n rc) n _ (by rfl) ((hrow4.alloc _).drew)
        ⟨W4.heap.size, 0, none⟩ 1 1 [.int .i64 (n + 1), .bool true, .int .i64 page, .string sd, .int .i64 0, .string ⟨#[]⟩] (by rfl) (by rfl) (World.news_of_block (cs := #[.int .i64 (n + 1), .bool true, .int .i64 page, .string sd, .int .i64 0, .string ⟨#[]⟩]) (t := 32) (fr := (0, 0)) (heap_alloc_new W4 _)) (by simp [Value.oneCell'])
        (by omega) (by unfold maxLen; omega) (by omega) (by omega) (W4.heap.size + 1) (by simp) ?_; intro gg cap2 w5 hown5 hgrow hat hltg
      have z2 := hgrow.cell (a := ⟨wo, 1, none⟩) (v := .slice ra n rc) (by go_keep) (fun h => ag h.symm)
      have z3 := grown_free hgrow (a := ⟨wo, 1, none⟩) (v := .slice ra n rc) (by go_keep) (by simp [*, frozen?_alloc_cells]) (fun h => ag h.symm)))
  all_goals
    have hg1 : Below W4.heap.size W4 (((W4.alloc (.cells #[.int .i64 (n + 1), .bool true, .int .i64 page, .string sd, .int .i64 0, .string ⟨#[]⟩] 32)).drew)) := by go_grown
    have hKB : KB W4 wo q (.slice ra n rc) _ _ rs := hn ▸ HK4.out
    obtain ⟨f1, f2⟩ := hKB.push hn hg1 (r := newK (n + 1) true page sd) hown5 hgrow hat
    have HF1 := Lib.hid f1
    have HF2 := Lib.hid f2
    clear f1 f2 hKB hg1 hown5 hgrow
    go_wp2_with fail
    go_ret
    refine ⟨rfl, .slice (some ⟨gg, 0, none⟩) (n + 1) cap2, _, HF1.out, ?_, ?_⟩
    · rintro k (h | h | h)
      · rcases h.1 with h | h
        · exact .inl (.inl h.1)
        · exact .inr (by omega)
      · exact .inl (.inr (.inl h))
      · simp [Value.ownBlock] at h
        subst h
        rcases hat with e | e
        · exact .inl (.inr (.inr e))
        · exact .inr (by have := HB4.out.size; have := HB3.out.size; have := HC2.out.size; omega)
    · have g1 : Chg (KFoot wo (.slice ra n rc) F) w w1 := (chgB HB0.out _).then (HC1.out.mono fun k _ hk => .inl hk.1)
      have g2 : Chg (KFoot wo (.slice ra n rc) F) w W4 := ((g1.trans (HC2.out.mono fun k _ hk => .inr (by omega))).of_below HB3.out).of_below HB4.out
      exact g2.then (HF2.out.mono fun k _ hk => hk.elim (fun e => .inr (.inl e)) fun e => .inr (.inr e))
end Go.Proofs.YticobikhndlejaaGreatDoor
