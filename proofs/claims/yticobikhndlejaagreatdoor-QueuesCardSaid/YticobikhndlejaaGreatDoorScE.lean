/- package sched: pages.begin, pages.kind by contracts. -/
import Derived.Test.YticobikhndlejaaGreatDoorScD
import Derived.Deep.AppendLies
import Derived.Deep.RegionHeld3
import Derived.Test.YticobikhndlejaaGreatDoorScB
import Derived.Laws.BytesArg
namespace Go.Proofs.YticobikhndlejaaGreatDoor
open Go.RowKit Go.Shelf Go.Lib

theorem wrapAt_lt {head i : Nat} (h : head ≤ 16) (hi : i < 16) : wrapAt head i < 16 := by unfold wrapAt; split <;> omega
def beginI (o : Option Nat) : Int := match o with | some p => (p : Int) | none => -1
theorem beginE_some {ne : Nat → Bool} {head k : Nat} (hk : k < 16) (h1 : ∀ j, j < k → ne (wrapAt head j) = false) (h2 : ne (wrapAt head k) = true) : beginE ne head = some (wrapAt head k) := by
  unfold beginE
  rw [List.find?_map, Option.map_eq_some_iff]
  refine ⟨k, ?_, rfl⟩
  rw [List.find?_eq_some_iff_append]
  refine ⟨h2, List.range k, (List.range' (k + 1) (16 - (k + 1))), ?_, fun a ha => by simpa using h1 a (List.mem_range.1 ha)⟩
  rw [List.range_eq_range', List.range_eq_range', show (k :: List.range' (k + 1) (16 - (k + 1))) = List.range' k (16 - k) from by rw [show 16 - k = (16 - (k + 1)) + 1 from by omega]; rfl]
  rw [show List.range' k (16 - k) = List.range' (0 + 1 * k) (16 - k) from by simp, List.range'_append]
  congr 1; omega
theorem beginE_none {ne : Nat → Bool} {head : Nat} (h1 : ∀ j, j < 16 → ne (wrapAt head j) = false) : beginE ne head = none := by
  unfold beginE
  rw [List.find?_eq_none]
  intro x hx
  obtain ⟨j, hj, rfl⟩ := List.mem_map.1 hx
  simpa using h1 j (List.mem_range.1 hj)

set_option maxRecDepth 100000 in
set_option maxHeartbeats 1000000 in
theorem begin_any (pb head : Nat) (n : Nat → Nat) (w : World) (hh : head ≤ 16) (hn : ∀ k, n k ≤ 1000000) (hc : ∀ k, k < 16 → ∃ a c, w.cell? ⟨pb, k, none⟩ = some (.slice a (n k) c)) :
    Calls Tryz.prog 66 #[ptr pb, .int .i64 head] w fun e w' => e = .returned (.int .i64 (beginI (beginE (fun k => decide (0 < n k)) head))) ∧ w = w' := by
  have HC := Lib.hid hc
  have HN := Lib.hid hn
  clear hc hn
  go_enter Tryz.func66, Tryz.ntmps66
  go_wp2_with fail
  go_loop [7] (fun i => ∃ k : Nat, k ≤ 16 ∧ i = .int .i64 k ∧ Hid (∀ j, j < k → decide (0 < n (wrapAt head j)) = false)) (fun i => (16 - intOf i).toNat)
  case atStart => exact ⟨0, by omega, rfl, fun j hj => absurd hj (by omega)⟩
  case round =>
    obtain ⟨k, hk, rfl, HJ⟩ := hrel
    by_cases hlt : k < 16
    · have hwl := wrapAt_lt hh hlt
      obtain ⟨a, c, hcell⟩ := HC.out _ hwl
      have hnb := HN.out (wrapAt head k)
      obtain ⟨m, hm⟩ : ∃ m, n (wrapAt head k) = m := ⟨_, rfl⟩
      rw [hm] at hcell hnb
      by_cases hge : 16 ≤ head + k
      · have hw : wrapAt head k = head + k - 16 := by unfold wrapAt; rw [if_pos hge]
        obtain ⟨q, hq⟩ : ∃ q, head + k = q + 16 := ⟨head + k - 16, by omega⟩
        have hq2 : wrapAt head k = q := by omega
        rw [hq2] at hcell
        have hq3 : (head : Int) + k - 16 = q := by omega
        by_cases h0 : 0 < m
        · have HB := Lib.hid (beginE_some (ne := fun k => decide (0 < n k)) hlt HJ.out (by simp [hm, h0]))
          have HW := Lib.hid hq2
          have hq5 : q < 16 := by omega
          clear hw hm hq hq2
          go_wp2
          go_ret
          exact ⟨by rw [HB.out, HW.out]; rfl, rfl⟩
        · have h0' : m = 0 := by omega
          subst h0'
          have HJ' : Hid (∀ j, j < k + 1 → decide (0 < n (wrapAt head j)) = false) := fun j hj => by
            by_cases hjk : j = k
            · subst hjk; simp [hm]
            · exact HJ.out j (by omega)
          have hq5 : q < 16 := by omega
          clear hw hm hq hq2
          go_wp2
          go_round
          case rel => exact ⟨k + 1, by omega, by go_num, HJ'⟩
          case measure => simp [intOf]; omega
      · have hw : wrapAt head k = head + k := by unfold wrapAt; rw [if_neg hge]
        rw [hw] at hcell
        by_cases h0 : 0 < m
        · have HB := Lib.hid (beginE_some (ne := fun k => decide (0 < n k)) hlt HJ.out (by simp [hm, h0]))
          have HW := Lib.hid hw
          clear hw hm
          go_wp2
          go_ret
          exact ⟨by rw [HB.out, HW.out]; rfl, rfl⟩
        · have h0' : m = 0 := by omega
          subst h0'
          have HJ' : Hid (∀ j, j < k + 1 → decide (0 < n (wrapAt head j)) = false) := fun j hj => by
            by_cases hjk : j = k
            · subst hjk; simp [hm]
            · exact HJ.out j (by omega)
          clear hw hm
          go_wp2
          go_round
          case rel => exact ⟨k + 1, by omega, by go_num, HJ'⟩
          case measure => simp [intOf]; omega
    · have hk16 : k = 16 := by omega
      subst hk16
      have HB := Lib.hid (beginE_none (ne := fun k => decide (0 < n k)) HJ.out)
      go_wp2
      go_ret
      exact ⟨by rw [HB.out]; rfl, rfl⟩

theorem row_cell {w : World} {g : Nat} {cur : Array Value} {t : TypeId} {L : List Ent} (hgb : w.heap[g]? = some (.cells cur t (0, 0))) (r4 : cur.toList.take (L.length * 1) = L.map fun e => ptr e.p) {B : Nat} {wr : World} (hb : Below B w wr) (hg : g < B) (j : Nat) (hj : j < L.length) :
    wr.cell? ⟨g, j, none⟩ = some (ptr (L[j]'hj).p) := by
  rw [hb.cell (p := ⟨g, j, none⟩) hg]
  simp only [World.cell?, hgb]
  have h1 : (cur.toList.take (L.length * 1))[j]? = (L.map fun e => ptr e.p)[j]? := by rw [r4]
  rw [Nat.mul_one, List.getElem?_take_of_lt hj, List.getElem?_map, List.getElem?_eq_getElem hj] at h1
  simpa using h1

set_option maxRecDepth 100000 in
set_option maxHeartbeats 1000000 in
theorem kind_any (pb page base : Nat) (write : Bool) (v : Value) (L : List Ent) (w : World) (hp : page < 16) (hc : w.cell? ⟨pb, page, none⟩ = some v) (hrow : w.ownsRow base 97 1 v L.length (L.map fun e => ptr e.p)) (hlen : L.length ≤ 1000000) (hr : ∀ e ∈ L, ReqB w e.p e.r) :
    Calls Tryz.prog 67 #[ptr pb, .int .i64 page, .bool write] w fun e w' =>
      ∃ v' : Value, e = .returned v' ∧ w'.ownsRow w.heap.size 97 1 v' (L.filter (isKind write)).length ((L.filter (isKind write)).map fun e => ptr e.p) ∧ Below w.heap.size w w' := by
  obtain ⟨i0, hi, hz0, hz1, hz2⟩ := info_parts Tryz.infoP
  have hp1 : (0 : Int) ≤ (page : Int) := by omega
  have hp2 : (page : Int) < 16 := by omega
  have HR := Lib.hid hr
  clear hr
  rcases hrow.2 with ⟨rfl, hz⟩ | ⟨g, cap, cur, rfl, hbase, hgb, r1, r2, r3, r4⟩
  · have hL : L = [] := List.eq_nil_of_length_eq_zero hz
    subst hL
    clear hrow
    go_enter Tryz.func67, Tryz.ntmps67
    go_wp2
    refine wp_loop_rounds 1 ?_
    rw [rounds_succ]
    go_wp2
    go_ret
    exact ⟨_, rfl, World.ownsRow_nil _ _ _ _, Below.refl _ _⟩
  · have HCe := Lib.hid (fun wr (hb : Below w.heap.size w wr) j hj => row_cell hgb r4 hb (lt_of_heap hgb) j hj)
    clear hrow r4 r1 r2 r3
    go_enter Tryz.func67, Tryz.ntmps67
    go_wp2_with fail
    go_loopg [7, 16] L.length (fun k out i wr => ∃ j : Nat, k = L.length - j ∧ j ≤ L.length ∧ i = .int .i64 j ∧ wr.ownsRow w.heap.size 97 1 out ((L.take j).filter (isKind write)).length (((L.take j).filter (isKind write)).map fun e => ptr e.p) ∧ Below w.heap.size w wr)
    case atStart => exact ⟨0, by simp, Nat.zero_le _, rfl, World.ownsRow_nil _ _ _ _, Below.refl _ _⟩
    case round =>
      obtain ⟨j, rfl, hj, rfl, hrow, hB⟩ := hrel
      by_cases hlt : j < L.length
      · have hcell := HCe.out wr hB j hlt
        obtain ⟨e, he⟩ : ∃ e, L[j] = e := ⟨_, rfl⟩
        rw [he] at hcell
        have hmem : e ∈ L := by rw [← he]; exact List.getElem_mem hlt
        have hR : ReqB wr e.p e.r := (hB.block e.p (lt_of_heap (HR.out e hmem))).trans (HR.out e hmem)
        have c1 := hR.at.c1
        have c10 := hR.at.c10
        have HE := Lib.hid he
        clear hR he
        cases hk : isKind write e with
        | false =>
          have HN := Lib.hid (filter_take_no (isKind write) hlt (by rw [HE.out]; exact hk))
          by_cases hw : e.r.write = write
          · have hal : e.r.alone = true := by simpa [isKind, hw] using hk
            rw [hal] at c10
            rw [hw] at c1
            have hww : (write == write) = true := by simp
            clear hk hal hw
            go_wp2
            go_roundg (L.length - (j + 1))
            case measure => omega
            case rel => exact ⟨j + 1, rfl, by omega, by go_num, by rw [HN.out]; exact hrow, hB⟩
          · have hww : (e.r.write == write) = false := by simpa using hw
            clear hk hw
            go_wp2
            go_roundg (L.length - (j + 1))
            case measure => omega
            case rel => exact ⟨j + 1, rfl, by omega, by go_num, by rw [HN.out]; exact hrow, hB⟩
        | true =>
          have HN := Lib.hid (filter_take_yes (isKind write) hlt (by rw [HE.out]; exact hk))
          simp only [isKind, Bool.and_eq_true, beq_iff_eq, Bool.not_eq_true'] at hk
          obtain ⟨hw, hal⟩ := hk
          rw [hal] at c10
          rw [hw] at c1
          have hww : (write == write) = true := by simp
          have hfl : ((L.take j).filter (isKind write)).length ≤ j := Nat.le_trans (List.length_filter_le _ _) (List.length_take_le _ _)
          obtain ⟨R, hRR⟩ : ∃ R, (L.take j).filter (isKind write) = R := ⟨_, rfl⟩
          rw [hRR] at hrow hfl
          have HRR := Lib.hid hRR
          have hsz := hB.size
          clear hw hal hRR
          go_wp2_with (at_builtin; refine wpList_append_own _ rfl _ _ 90 rfl w.heap.size 97 i0 (.pointer none) 1 8 Tryz.underlying90 hi hz0 hz1 hz2 rfl (by decide) _ _ _ rfl (hrow.alloc _) ⟨wr.heap.size, 0, none⟩ 1 1 [ptr e.p] rfl rfl (cell_one_new _ _ _) (by simp [Value.oneCell']) ?_ ?_ ?_ ?_)
          · unfold maxLen; omega
          · omega
          · rw [World.size_alloc]; omega
          intro v' w2 hown' hgrow _
          have hB2 : Below w.heap.size w w2 := (hB.alloc hsz _).grown hgrow (by rw [World.size_alloc]; omega) (fun k ek => (hrow.lt k ek).1)
          have hown2 : w2.ownsRow w.heap.size 97 1 v' ((L.take (j + 1)).filter (isKind write)).length (((L.take (j + 1)).filter (isKind write)).map fun e => ptr e.p) := by
            rw [HN.out, HE.out, HRR.out]; simpa using hown'
          have HO2 := Lib.hid hown2
          clear hown' hgrow hown2 hrow
          go_wp2
          go_roundg (L.length - (j + 1))
          case measure => omega
          case rel => exact ⟨j + 1, rfl, by omega, by go_num, HO2.out, hB2⟩
      · have hjl : j = L.length := by omega
        have HRw := Lib.hid hrow
        have HJ := Lib.hid hjl
        clear hrow hjl
        go_wp2
        go_ret
        refine ⟨_, rfl, ?_, hB⟩
        have h1 := HRw.out
        rw [HJ.out, List.take_length] at h1
        exact h1
end Go.Proofs.YticobikhndlejaaGreatDoor

/- The document's queue in plain Lean: what its functions find in a list of requests. -/
namespace Go.Proofs.YticobikhndlejaaGreatDoor

/-- o, which lies ahead of r, stands in its way. -/
def stands (o r : Req) : Bool := (o.page == r.page) && ((o.write || r.write) && ((o.state == 0) || o.inAir))
theorem sorted_take {rs : List Req} (h : rs.Pairwise (·.num < ·.num)) {k : Nat} {r : Req} (hk : rs[k]? = some r) : (∀ o ∈ rs.take k, o.num < r.num) ∧ ∀ o ∈ rs.drop k, r.num ≤ o.num := by
  obtain ⟨hl, e⟩ := List.getElem?_eq_some_iff.1 hk
  have hd : rs.drop k = r :: rs.drop (k + 1) := by rw [List.drop_eq_getElem_cons hl, e]
  rw [← List.take_append_drop k rs, hd, List.pairwise_append, List.pairwise_cons] at h
  refine ⟨fun o ho => h.2.2 o ho r List.mem_cons_self, fun o ho => ?_⟩
  rw [hd] at ho
  rcases List.mem_cons.1 ho with rfl | ho
  · omega
  · have := h.2.1.1 o ho; omega
theorem any_stands {rs : List Req} (h : rs.Pairwise (·.num < ·.num)) {k : Nat} {r : Req} (hk : rs[k]? = some r) : rs.any (fun o => o.blocks r) = (rs.take k).any fun o => stands o r := by
  obtain ⟨h1, h2⟩ := sorted_take h hk
  conv => lhs; rw [← List.take_append_drop k rs]
  rw [List.any_append]
  have e1 : (rs.drop k).any (fun o => o.blocks r) = false := by
    rw [List.any_eq_false]
    intro o ho hb
    have := h2 o ho
    simp [Req.blocks] at hb
    omega
  rw [e1, Bool.or_false, Bool.eq_iff_iff, List.any_eq_true, List.any_eq_true]
  constructor
  · rintro ⟨o, ho, hb⟩
    refine ⟨o, ho, ?_⟩
    simp only [Req.blocks, Bool.and_eq_true] at hb
    simp only [stands, Bool.and_eq_true]
    exact hb.2
  · rintro ⟨o, ho, hb⟩
    refine ⟨o, ho, ?_⟩
    simp only [stands, Bool.and_eq_true] at hb
    simp only [Req.blocks, Bool.and_eq_true]
    exact ⟨by simpa using h1 o ho, hb⟩
theorem isReadyR_at {rs : List Req} (h : rs.Pairwise (·.num < ·.num)) {k : Nat} {r : Req} (hk : rs[k]? = some r) (now : Int) : isReadyR now rs r = ((r.state == 0) && (decide (r.after ≤ now) && !((rs.take k).any fun o => stands o r))) := by
  unfold isReadyR
  rw [any_stands h hk]
/-- The ready requests of a page, as they lie. -/
def readyP (now : Int) (rs : List Req) (p : Nat) (r : Req) : Bool := isReadyR now rs r && (r.page == (p : Int))
theorem byPageR_page (l : List Req) (p : Nat) (f : Req → Bool) : ∀ n : Nat, (((List.range n).flatMap fun m : Nat => l.filter fun r => r.page == (m : Int)).filter fun r => f r && (r.page == (p : Int))) = if p < n then l.filter fun r => f r && (r.page == (p : Int)) else []
  | 0 => by simp
  | n + 1 => by
    rw [List.range_succ, List.flatMap_append, List.filter_append, byPageR_page l p f n]
    simp only [List.flatMap_cons, List.flatMap_nil, List.append_nil, List.filter_filter]
    by_cases h1 : p < n
    · rw [if_pos h1, if_pos (by omega)]
      have : (l.filter fun a => (f a && (a.page == (p : Int))) && (a.page == (n : Int))) = [] := List.filter_eq_nil_iff.2 fun a _ => by simp; intro _ _; omega
      rw [this, List.append_nil]
    · rw [if_neg h1, List.nil_append]
      by_cases h2 : p = n
      · subst h2
        rw [if_pos (by omega)]
        refine List.filter_congr fun a _ => ?_
        cases f a <;> simp
      · rw [if_neg (by omega)]
        exact List.filter_eq_nil_iff.2 fun a _ => by simp; intro _ _; omega
theorem pageR_ready (now : Int) (rs : List Req) {p : Nat} (hp : p < 16) : pageR (readyR now rs) p = rs.filter (readyP now rs p) := by
  unfold pageR readyR byPageR
  rw [List.filter_filter]
  have := byPageR_page rs p (isReadyR now rs) 16
  rw [if_pos hp] at this
  rw [← show (fun r => isReadyR now rs r && (r.page == (p : Int))) = readyP now rs p from rfl, ← this]
  refine List.filter_congr fun a _ => ?_
  rw [Bool.and_comm]
def readyK (now : Int) (rs : List Req) (write : Bool) (p : Nat) (r : Req) : Bool := readyP now rs p r && isKindR write r
theorem kindR_ready (now : Int) (rs : List Req) (write : Bool) {p : Nat} (hp : p < 16) : kindR (readyR now rs) write p = rs.filter (readyK now rs write p) := by
  unfold kindR
  rw [pageR_ready now rs hp, List.filter_filter]
  refine List.filter_congr fun a _ => ?_
  rw [readyK, Bool.and_comm]
theorem filter_first {α : Type} {P : α → Bool} {l : List α} {i : Nat} {a : α} (h : (l.take i).filter P = []) (ha : l[i]? = some a) (hP : P a = true) : ∃ m, l.filter P = a :: m := by
  obtain ⟨hl, e⟩ := List.getElem?_eq_some_iff.1 ha
  refine ⟨(l.drop (i + 1)).filter P, ?_⟩
  conv => lhs; rw [← List.take_append_drop i l, List.drop_eq_getElem_cons hl, e]
  rw [List.filter_append, h, List.nil_append, List.filter_cons_of_pos hP]
theorem take_filter_no {α : Type} {P : α → Bool} {l : List α} {i : Nat} {a : α} (ha : l[i]? = some a) (hP : P a = false) : (l.take (i + 1)).filter P = (l.take i).filter P := by
  obtain ⟨hl, e⟩ := List.getElem?_eq_some_iff.1 ha
  rw [List.take_succ_eq_append_getElem hl, List.filter_append, e]
  simp [hP]
theorem take_filter_yes {α : Type} {P : α → Bool} {l : List α} {i : Nat} {a : α} (ha : l[i]? = some a) (hP : P a = true) : (l.take (i + 1)).filter P = (l.take i).filter P ++ [a] := by
  obtain ⟨hl, e⟩ := List.getElem?_eq_some_iff.1 ha
  rw [List.take_succ_eq_append_getElem hl, List.filter_append, e]
  simp [hP]
/-! ### where the next command begins -/
theorem wrap_over {head i : Nat} (hi : 16 ≤ i) (h : wrapAt head i < 16) : wrapAt head (i - 16) = wrapAt head i := by
  unfold wrapAt at h ⊢
  split at h
  · rw [if_neg (by omega), if_pos (by omega)]; omega
  · omega
theorem begin_found {ne : Nat → Bool} {head i : Nat} (h : ∀ j, j < i → ne (wrapAt head j) = false) (hw : wrapAt head i < 16) (hn : ne (wrapAt head i) = true) : beginE ne head = some (wrapAt head i) := by
  by_cases hi : i < 16
  · exact beginE_some hi h hn
  · exfalso
    have h1 := h (i - 16) (by omega)
    rw [wrap_over (by omega) hw, hn] at h1
    cases h1
theorem begin_over {ne : Nat → Bool} {head i : Nat} (hh : head ≤ 16) (h : ∀ j, j < i → ne (wrapAt head j) = false) (hw : 16 ≤ wrapAt head i ∨ 32 ≤ i) : beginE ne head = none := by
  refine beginE_none fun j hj => h j ?_
  unfold wrapAt at hw
  split at hw <;> omega
/-! ### the next command -/
theorem cmd_full {t : St} (h : t.depth ≤ t.cs.length) : t.cmd = none := by unfold St.cmd; rw [if_pos h]
def neR (t : St) (k : Nat) : Bool := decide (0 < (pageR (readyR t.now t.rs) k).length)
theorem cmd_idle {t : St} (h : beginE (neR t) t.head = none) : t.cmd = none := by
  have h' : nextR (readyR t.now t.rs) t.head = (0, 0, []) := by
    unfold nextR
    rw [show (fun k => decide (0 < (pageR (readyR t.now t.rs) k).length)) = neR t from rfl, h]
  unfold St.cmd
  rw [h']
  split <;> rfl
theorem cmd_alone {t : St} (hd : t.cs.length < t.depth) {p : Nat} (h : beginE (neR t) t.head = some p) {f : Req} {l : List Req} (hf : pageR (readyR t.now t.rs) p = f :: l) (ha : f.alone = true) : t.cmd = some ⟨f.write, p, 1, [f.num]⟩ := by
  have h' : nextR (readyR t.now t.rs) t.head = (p, 1, [f]) := by
    unfold nextR
    rw [show (fun k => decide (0 < (pageR (readyR t.now t.rs) k).length)) = neR t from rfl, h]
    simp only [hf, ha, if_true]
  unfold St.cmd
  rw [h', if_neg (by omega)]
  rfl
theorem runLenR_of {K : Nat → List Req} {a most j : Nat} (h : ∀ i, i < j → K (a + i) ≠ []) (hj : j ≤ most) (hs : j = most ∨ K (a + j) = []) : runLenR K a most = j := by
  obtain ⟨h1, h2, h3⟩ := runLenR_spec K a most
  rcases Nat.lt_trichotomy (runLenR K a most) j with hlt | he | hlt
  · exact absurd (h3 (by omega)) (h _ hlt)
  · exact he
  · rcases hs with hs | hs
    · omega
    · exact absurd hs (h2 j hlt)
theorem cmd_group {t : St} (hd : t.cs.length < t.depth) {p : Nat} (h : beginE (neR t) t.head = some p) {f : Req} {l : List Req} (hf : pageR (readyR t.now t.rs) p = f :: l) (ha : f.alone = false) {j : Nat}
    (h0 : 0 < j) (h1 : ∀ i, i < j → kindR (readyR t.now t.rs) f.write (p + i) ≠ []) (hj : j ≤ min 4 (16 - p)) (hs : j = min 4 (16 - p) ∨ kindR (readyR t.now t.rs) f.write (p + j) = []) :
    t.cmd = some ⟨f.write, p, j, (gatherR (kindR (readyR t.now t.rs) f.write) p j).map (·.num)⟩ := by
  have h' : nextR (readyR t.now t.rs) t.head = (p, j, gatherR (kindR (readyR t.now t.rs) f.write) p j) := by
    unfold nextR
    rw [show (fun k => decide (0 < (pageR (readyR t.now t.rs) k).length)) = neR t from rfl, h]
    simp only [hf, ha, Bool.false_eq_true, if_false]
    rw [runLenR_of h1 hj hs]
  unfold St.cmd
  rw [h', if_neg (by omega)]
  cases hg : gatherR (kindR (readyR t.now t.rs) f.write) p j with
  | nil =>
    exfalso
    have := gather_len_ge (K := kindR (readyR t.now t.rs) f.write) (p := p) j h1
    rw [hg] at this
    simp at this
    omega
  | cons x m =>
    have hx : x ∈ gatherR (kindR (readyR t.now t.rs) f.write) p j := by rw [hg]; exact List.mem_cons_self
    obtain ⟨i, _, hi⟩ := mem_gatherR.1 hx
    simp only [(mem_kindR.1 hi).2.2.1]
/-! ### one of a list is changed or dropped -/
theorem map_set {rs : List Req} (h : rs.Pairwise (·.num < ·.num)) {k : Nat} {r : Req} (hk : rs[k]? = some r) (f : Req → Req) : (rs.map fun x => if x.num = r.num then f x else x) = rs.set k (f r) := by
  obtain ⟨hl, e⟩ := List.getElem?_eq_some_iff.1 hk
  apply List.ext_getElem?
  intro i
  rw [List.getElem?_map, List.getElem?_set]
  by_cases hi : k = i
  · subst hi
    rw [if_pos rfl, if_pos hl, hk]
    simp
  · rw [if_neg hi]
    cases hx : rs[i]? with
    | none => rfl
    | some x =>
      have hne : x.num ≠ r.num := fun en => by
        obtain ⟨hl2, e2⟩ := List.getElem?_eq_some_iff.1 hx
        rw [List.pairwise_iff_getElem] at h
        rcases Nat.lt_or_gt_of_ne hi with hlt | hlt
        · have := h k i hl hl2 hlt; rw [e, e2] at this; omega
        · have := h i k hl2 hl hlt; rw [e, e2] at this; omega
      simp [hne]
theorem filter_erase {rs : List Req} (h : rs.Pairwise (·.num < ·.num)) {k : Nat} {r : Req} (hk : rs[k]? = some r) (P : Req → Bool) (hr : P r = false) (ho : ∀ x ∈ rs, x.num ≠ r.num → P x = true) : rs.filter P = rs.eraseIdx k := by
  obtain ⟨hl, e⟩ := List.getElem?_eq_some_iff.1 hk
  obtain ⟨h1, h2⟩ := sorted_take h hk
  have hd : rs.drop k = r :: rs.drop (k + 1) := by rw [List.drop_eq_getElem_cons hl, e]
  conv => lhs; rw [← List.take_append_drop k rs, hd]
  have hn : ∀ o ∈ rs.drop (k + 1), r.num < o.num := fun o ho' => by
    rw [← List.take_append_drop k rs, hd, List.pairwise_append, List.pairwise_cons] at h
    exact h.2.1.1 o ho'
  rw [List.filter_append, List.filter_cons_of_neg (by simp [hr]), List.eraseIdx_eq_take_drop_succ]
  congr 1
  · exact List.filter_eq_self.2 fun o ho' => ho o (List.mem_of_mem_take ho') (by have := h1 o ho'; omega)
  · exact List.filter_eq_self.2 fun o ho' => ho o (List.mem_of_mem_drop ho') (by have := hn o ho'; omega)
theorem tell_air {rs : List Req} (h : rs.Pairwise (·.num < ·.num)) {k : Nat} {r : Req} (hk : rs[k]? = some r) (ha : r.inAir = true) (hth : ∀ x ∈ rs, x.told = true → x.inAir = true) : St.tellRs rs r.num = rs.set k (tellR r) := by
  unfold St.tellRs
  rw [map_set h hk tellR]
  refine List.filter_eq_self.2 fun x hx => ?_
  rcases List.mem_or_eq_of_mem_set hx with hx | rfl
  · have := hth x hx
    cases ht : x.told <;> simp_all
  · simp [tellR, ha]
theorem set_sorted {rs : List Req} (h : rs.Pairwise (·.num < ·.num)) {k : Nat} {r y : Req} (hk : rs[k]? = some r) (hy : y.num = r.num) : (rs.set k y).Pairwise (·.num < ·.num) := by
  obtain ⟨hl, e⟩ := List.getElem?_eq_some_iff.1 hk
  rw [List.pairwise_iff_getElem] at h ⊢
  intro i j hi hj hij
  rw [List.length_set] at hi hj
  have := h i j hi hj hij
  rw [List.getElem_set, List.getElem_set]
  split <;> split <;> rename_i h1 h2 <;> (try subst h1) <;> (try subst h2) <;> simp_all
theorem erase_set {rs : List Req} {k : Nat} {y : Req} : (rs.set k y).eraseIdx k = rs.eraseIdx k := by
  rw [List.eraseIdx_eq_take_drop_succ, List.eraseIdx_eq_take_drop_succ, List.take_set, List.drop_set, if_pos (by omega), List.set_eq_of_length_le (by rw [List.length_take]; omega)]
theorem tell_drop {rs : List Req} (h : rs.Pairwise (·.num < ·.num)) {k : Nat} {r : Req} (hk : rs[k]? = some r) (ha : r.inAir = false) : St.tellRs rs r.num = rs.eraseIdx k := by
  unfold St.tellRs
  rw [map_set h hk tellR]
  have hl := (List.getElem?_eq_some_iff.1 hk).1
  have hk2 : (rs.set k (tellR r))[k]? = some (tellR r) := by rw [List.getElem?_set, if_pos rfl, if_pos hl]
  rw [filter_erase (set_sorted h hk (y := tellR r) rfl) hk2 _ (by simp [tellR, ha]) fun x _ hx => ?_, erase_set]
  have : x.num ≠ r.num := hx
  simp [this]
theorem land_at {t : St} (h : t.rs.Pairwise (·.num < ·.num)) {k : Nat} {r : Req} (hk : t.rs[k]? = some r) (fault : Bool) :
    (t.land fault r.num).rs = (if r.told then t.rs.eraseIdx k else t.rs.set k (St.landR t.now t.disk fault r)) ∧ (t.land fault r.num).disk = St.landD t.disk fault r := by
  have hf := find_num h (List.mem_of_getElem? hk)
  obtain ⟨a1, a2, a3, a4, a5⟩ := landR_num t.now t.disk fault r
  have hl := (List.getElem?_eq_some_iff.1 hk).1
  have hk2 : (t.rs.set k (St.landR t.now t.disk fault r))[k]? = some (St.landR t.now t.disk fault r) := by rw [List.getElem?_set, if_pos rfl, if_pos hl]
  have hs := set_sorted h hk (y := St.landR t.now t.disk fault r) a1
  unfold St.land
  rw [hf]
  refine ⟨?_, rfl⟩
  simp only
  rw [map_set h hk (St.landR t.now t.disk fault)]
  cases ht : r.told with
  | true =>
    simp only [if_true]
    rw [← erase_set (k := k) (y := St.landR t.now t.disk fault r)]
    refine filter_erase hs hk2 _ (by simp [a1, a4, a5, ht]) fun x _ hx => ?_
    have : x.num ≠ r.num := by rw [a1] at hx; exact hx
    simp [this]
  | false =>
    simp only [Bool.false_eq_true, if_false]
    refine List.filter_eq_self.2 fun x hx => ?_
    by_cases hn : x.num = r.num
    · have : x = St.landR t.now t.disk fault r := rnum_inj hs hx (List.mem_of_getElem? hk2) (by rw [a1]; exact hn)
      rw [this]
      simp [a5, ht]
    · simp [hn]
/-! ### the numbers of those that were told -/
structure ToldOk (told : List Int) (rs : List Req) : Prop where
  nodup : told.Nodup
  mem : ∀ n, n ∈ told ↔ ∃ r ∈ rs, r.num = n ∧ r.told = true
theorem perm_len {l m : List Int} (hl : l.Nodup) (hm : m.Nodup) (h : ∀ a, a ∈ l ↔ a ∈ m) : l.length = m.length :=
  ((List.perm_ext_iff_of_nodup hl hm).2 h).length_eq
theorem ToldOk.len {told : List Int} {rs : List Req} (h : ToldOk told rs) (hs : rs.Pairwise (·.num < ·.num)) : told.length = (rs.filter (·.told)).length := by
  have := perm_len h.nodup (m := (rs.filter (·.told)).map (·.num)) (List.pairwise_map.2 ((hs.filter _).imp fun hlt e => by omega)) fun a => by
    rw [h.mem a, List.mem_map]
    constructor
    · rintro ⟨r, h1, h2, h3⟩; exact ⟨r, List.mem_filter.2 ⟨h1, h3⟩, h2⟩
    · rintro ⟨r, h1, h2⟩; obtain ⟨h3, h4⟩ := List.mem_filter.1 h1; exact ⟨r, h3, h2, h4⟩
  rw [this, List.length_map]
/-- How many are not told. -/
theorem ToldOk.held {told : List Int} {rs : List Req} (h : ToldOk told rs) (hs : rs.Pairwise (·.num < ·.num)) : (rs.length : Int) - told.length = ((rs.filter fun r => !r.told).length : Int) := by
  have h1 := h.len hs
  have h2 := (List.filter_append_perm (fun r : Req => r.told) rs).length_eq
  rw [List.length_append] at h2
  omega
theorem ToldOk.at {told : List Int} {rs : List Req} (h : ToldOk told rs) (hs : rs.Pairwise (·.num < ·.num)) {r : Req} (hr : r ∈ rs) : r.num ∈ told ↔ r.told = true := by
  rw [h.mem]
  constructor
  · rintro ⟨x, hx, e, ht⟩; rwa [← rnum_inj hs hx hr e]
  · exact fun ht => ⟨r, hr, rfl, ht⟩
end Go.Proofs.YticobikhndlejaaGreatDoor

/- The document's queue beside the queue: requests as it keeps them, and that each call leaves both alike. Plain Lean. -/
namespace Go.Proofs.YticobikhndlejaaGreatDoor

/-- Four bytes as a text. -/
def str4 (d : B4) : ByteArray := strOfNums [d.a, d.b, d.c, d.d]
theorem str4_size (d : B4) : (str4 d).size = 4 := strOfNums_size _
/-- A request of the document's queue. -/
structure RR where
  r : Req
  data : ByteArray
  answer : ByteArray
structure RR.Ok (x : RR) : Prop where
  data : x.r.write = true → x.data = str4 x.r.data
  wans : x.r.write = true → x.answer = ⟨#[]⟩
  rans : x.r.state = 2 → x.r.write = false → x.answer = str4 x.r.data
/-- The document's requests, and who of them was told, are the queue's. -/
structure RRel (l : List RR) (told : List Int) (t : St) : Prop where
  rs : l.map (·.r) = t.rs
  ok : ∀ x ∈ l, x.Ok
  told : ToldOk told t.rs
theorem RRel.at {l : List RR} {told : List Int} {t : St} (h : RRel l told t) {k : Nat} {x : RR} (hk : l[k]? = some x) : t.rs[k]? = some x.r := by
  rw [← h.rs, List.getElem?_map, hk]; rfl
theorem RRel.back {l : List RR} {told : List Int} {t : St} (h : RRel l told t) {k : Nat} {r : Req} (hk : t.rs[k]? = some r) : ∃ x, l[k]? = some x ∧ x.r = r := by
  rw [← h.rs, List.getElem?_map] at hk
  exact Option.map_eq_some_iff.1 hk
theorem RRel.len {l : List RR} {told : List Int} {t : St} (h : RRel l told t) : l.length = t.rs.length := by rw [← h.rs, List.length_map]
theorem rrel_new (d : Nat) : RRel [] [] (St.new d) := ⟨rfl, fun _ h => (List.not_mem_nil h).elim, ⟨List.nodup_nil, fun n => by simp [St.new]⟩⟩
theorem rrel_add {l : List RR} {told : List Int} {t : St} (h : RRel l told t) (w : Bool) (p : Int) (d : B4) (data : ByteArray) (hd : w = true → data = str4 d) : RRel (l ++ [⟨newReq (t.last + 1) w p d, data, ⟨#[]⟩⟩]) told (t.add w p d) := by
  refine ⟨by simp [St.add, h.rs], fun x hx => ?_, ⟨h.told.nodup, fun n => ?_⟩⟩
  · rcases List.mem_append.1 hx with hx | hx
    · exact h.ok x hx
    · obtain rfl := List.mem_singleton.1 hx
      exact ⟨hd, fun _ => rfl, fun h => by simp [newReq] at h⟩
  · rw [h.told.mem]
    simp only [St.add, List.mem_append, List.mem_singleton]
    constructor
    · rintro ⟨r, h1, h2⟩; exact ⟨r, .inl h1, h2⟩
    · rintro ⟨r, h1 | rfl, h2, h3⟩
      · exact ⟨r, h1, h2, h3⟩
      · simp [newReq] at h3
theorem find_of {t : St} (hs : t.rs.Pairwise (·.num < ·.num)) {r : Req} (hr : r ∈ t.rs) (ht : r.told = false) : t.find r.num = some r := by
  unfold St.find
  cases hff : t.rs.find? fun x => x.num == r.num && !x.told with
  | none =>
    have := List.find?_eq_none.1 hff r hr
    simp [ht] at this
  | some y =>
    have h1 := List.find?_some hff
    have h2 := List.mem_of_find?_eq_some hff
    simp at h1
    rw [rnum_inj hs h2 hr h1.1]
theorem find_no {t : St} {n : Int} (h : ∀ r ∈ t.rs, r.num = n → r.told = true) : t.find n = none := by
  unfold St.find
  refine List.find?_eq_none.2 fun x hx => ?_
  by_cases hn : x.num = n
  · simp [h x hx hn]
  · simp [hn]
theorem rset_map {l : List RR} {k : Nat} {y : RR} : (l.set k y).map (·.r) = (l.map (·.r)).set k y.r := List.map_set
theorem rset_ok {l : List RR} (h : ∀ x ∈ l, x.Ok) {k : Nat} {y : RR} (hy : y.Ok) : ∀ x ∈ l.set k y, x.Ok := fun x hx => (List.mem_or_eq_of_mem_set hx).elim (h x) fun e => e ▸ hy
theorem told_set {told : List Int} {rs : List Req} (h : ToldOk told rs) (hs : rs.Pairwise (·.num < ·.num)) {k : Nat} {r y : Req} (hk : rs[k]? = some r) (hn : y.num = r.num) (ht : y.told = r.told) : ToldOk told (rs.set k y) := by
  refine ⟨h.nodup, fun n => ?_⟩
  rw [h.mem]
  have hl := (List.getElem?_eq_some_iff.1 hk).1
  have hy : y ∈ rs.set k y := List.mem_of_getElem? (by rw [List.getElem?_set, if_pos rfl, if_pos hl])
  constructor
  · rintro ⟨x, h1, h2, h3⟩
    by_cases hx : x.num = r.num
    · have := rnum_inj hs h1 (List.mem_of_getElem? hk) hx
      subst this
      exact ⟨y, hy, by rw [hn, h2], by rw [ht, h3]⟩
    · obtain ⟨j, hj⟩ := List.mem_iff_getElem?.1 h1
      have hjk : k ≠ j := fun e => by subst e; rw [hj] at hk; exact hx (by rw [Option.some.inj hk])
      exact ⟨x, List.mem_of_getElem? (i := j) (by rw [List.getElem?_set, if_neg hjk]; exact hj), h2, h3⟩
  · rintro ⟨x, h1, h2, h3⟩
    rcases List.mem_or_eq_of_mem_set h1 with h1 | rfl
    · exact ⟨x, h1, h2, h3⟩
    · exact ⟨r, List.mem_of_getElem? hk, by rw [← hn, h2], by rw [← ht, h3]⟩
theorem mem_erase_ne {rs : List Req} (hs : rs.Pairwise (·.num < ·.num)) {k : Nat} {r : Req} (hk : rs[k]? = some r) {x : Req} : x ∈ rs.eraseIdx k ↔ x ∈ rs ∧ x.num ≠ r.num := by
  rw [← filter_erase hs hk (fun x => !(x.num == r.num)) (by simp) (fun x _ hx => by simpa using hx), List.mem_filter]
  simp
theorem told_erase {told : List Int} {rs : List Req} (h : ToldOk told rs) (hs : rs.Pairwise (·.num < ·.num)) {k : Nat} {r : Req} (hk : rs[k]? = some r) (ht : r.told = false) : ToldOk told (rs.eraseIdx k) := by
  refine ⟨h.nodup, fun n => ?_⟩
  rw [h.mem]
  constructor
  · rintro ⟨x, h1, h2, h3⟩
    refine ⟨x, (mem_erase_ne hs hk).2 ⟨h1, fun e => ?_⟩, h2, h3⟩
    rw [rnum_inj hs h1 (List.mem_of_getElem? hk) e, ht] at h3
    cases h3
  · rintro ⟨x, h1, h2, h3⟩
    exact ⟨x, ((mem_erase_ne hs hk).1 h1).1, h2, h3⟩
theorem told_out {told : List Int} {rs : List Req} (h : ToldOk told rs) (hs : rs.Pairwise (·.num < ·.num)) {k : Nat} {r : Req} (hk : rs[k]? = some r) : ToldOk (told.filter fun m => !(m == r.num)) (rs.eraseIdx k) := by
  refine ⟨h.nodup.filter _, fun n => ?_⟩
  rw [List.mem_filter, h.mem]
  constructor
  · rintro ⟨⟨x, h1, h2, h3⟩, h4⟩
    exact ⟨x, (mem_erase_ne hs hk).2 ⟨h1, by rw [h2]; simpa using h4⟩, h2, h3⟩
  · rintro ⟨x, h1, h2, h3⟩
    obtain ⟨h4, h5⟩ := (mem_erase_ne hs hk).1 h1
    exact ⟨⟨x, h4, h2, h3⟩, by rw [h2] at h5; simpa using h5⟩
/-! ### told -/
def tellX (x : RR) : RR := ⟨tellR x.r, x.data, x.answer⟩
theorem rrel_tell_air {l : List RR} {told : List Int} {t : St} (h : RRel l told t) (hs : t.rs.Pairwise (·.num < ·.num)) (hth : ∀ x ∈ t.rs, x.told = true → x.inAir = true) {k : Nat} {x : RR} (hk : l[k]? = some x) (ha : x.r.inAir = true) (ht : x.r.told = false) :
    RRel (l.set k (tellX x)) (told ++ [x.r.num]) (t.tell x.r.num) := by
  have hk' := h.at hk
  have hl := (List.getElem?_eq_some_iff.1 hk').1
  have hrs : (t.tell x.r.num).rs = t.rs.set k (tellR x.r) := tell_air hs hk' ha hth
  have hin : tellR x.r ∈ t.rs.set k (tellR x.r) := List.mem_of_getElem? (by rw [List.getElem?_set, if_pos rfl, if_pos hl])
  have hno : x.r.num ∉ told := fun hm => by
    rw [h.told.at hs (List.mem_of_getElem? hk'), ht] at hm
    cases hm
  refine ⟨by rw [rset_map, h.rs, hrs]; rfl, rset_ok h.ok ?_, ?_⟩
  · have := h.ok x (List.mem_of_getElem? hk)
    exact ⟨this.data, this.wans, this.rans⟩
  · rw [hrs]
    refine ⟨List.nodup_append.2 ⟨h.told.nodup, by simp, fun a ha b hb => by rw [List.mem_singleton.1 hb]; exact fun e => hno (e ▸ ha)⟩, fun n => ?_⟩
    rw [List.mem_append, h.told.mem, List.mem_singleton]
    constructor
    · rintro (⟨y, h1, h2, h3⟩ | rfl)
      · obtain ⟨j, hj⟩ := List.mem_iff_getElem?.1 h1
        by_cases hjk : k = j
        · subst hjk
          rw [hk'] at hj
          rw [← Option.some.inj hj, ht] at h3
          cases h3
        · exact ⟨y, List.mem_of_getElem? (i := j) (by rw [List.getElem?_set, if_neg hjk]; exact hj), h2, h3⟩
      · exact ⟨tellR x.r, hin, rfl, rfl⟩
    · rintro ⟨y, h1, h2, h3⟩
      rcases List.mem_or_eq_of_mem_set h1 with h1 | rfl
      · exact .inl ⟨y, h1, h2, h3⟩
      · exact .inr h2.symm
theorem erase_map {l : List RR} {k : Nat} : (l.eraseIdx k).map (·.r) = (l.map (·.r)).eraseIdx k := by
  simp [List.eraseIdx_eq_take_drop_succ, List.map_take, List.map_drop]
theorem rrel_tell_drop {l : List RR} {told : List Int} {t : St} (h : RRel l told t) (hs : t.rs.Pairwise (·.num < ·.num)) {k : Nat} {x : RR} (hk : l[k]? = some x) (ha : x.r.inAir = false) (ht : x.r.told = false) : RRel (l.eraseIdx k) told (t.tell x.r.num) := by
  have hk' := h.at hk
  have hrs : (t.tell x.r.num).rs = t.rs.eraseIdx k := tell_drop hs hk' ha
  exact ⟨by rw [erase_map, h.rs, hrs], fun y hy => h.ok y (List.mem_of_mem_eraseIdx hy), by rw [hrs]; exact told_erase h.told hs hk' ht⟩
/-! ### given up -/
def giveX (x : RR) : RR := ⟨St.giveR x.r, x.data, x.answer⟩
theorem rrel_give {l : List RR} {told : List Int} {t : St} (h : RRel l told t) (hs : t.rs.Pairwise (·.num < ·.num)) {k : Nat} {x : RR} (hk : l[k]? = some x) : RRel (l.set k (giveX x)) told (t.give x.r.num) := by
  have hk' := h.at hk
  have hrs : (t.give x.r.num).rs = t.rs.set k (St.giveR x.r) := map_set hs hk' St.giveR
  have := h.ok x (List.mem_of_getElem? hk)
  exact ⟨by rw [rset_map, h.rs, hrs]; rfl, rset_ok h.ok ⟨this.data, this.wans, fun h => by simp [giveX, St.giveR] at h⟩, by rw [hrs]; exact told_set h.told hs hk' rfl rfl⟩
/-! ### sent -/
def sentX (x : RR) : RR := ⟨sentR x.r, x.data, x.answer⟩
/-- The first of the command's requests are under way. -/
def sentL (l : List RR) (ns : List Int) : List RR := l.map fun x => if x.r.num ∈ ns then sentX x else x
theorem sentL_nil (l : List RR) : sentL l [] = l := by simp [sentL]
theorem sentL_len (l : List RR) (ns : List Int) : (sentL l ns).length = l.length := List.length_map _
theorem sentL_at {l : List RR} {ns : List Int} {k : Nat} {x : RR} (hk : l[k]? = some x) : (sentL l ns)[k]? = some (if x.r.num ∈ ns then sentX x else x) := by
  unfold sentL
  rw [List.getElem?_map, hk]; rfl
theorem sentL_step {l : List RR} (hs : (l.map (·.r)).Pairwise (·.num < ·.num)) {ns : List Int} {k : Nat} {x : RR} (hk : l[k]? = some x) : (sentL l ns).set k (sentX x) = sentL l (ns ++ [x.r.num]) := by
  obtain ⟨hl, e⟩ := List.getElem?_eq_some_iff.1 hk
  apply List.ext_getElem?
  intro j
  rw [List.getElem?_set]
  by_cases hjk : k = j
  · subst hjk
    rw [if_pos rfl, sentL_len, if_pos hl, sentL_at hk, if_pos (by simp)]
  · rw [if_neg hjk]
    cases hj : l[j]? with
    | none => simp [sentL, List.getElem?_map, hj]
    | some y =>
      have hne : y.r.num ≠ x.r.num := fun en => by
        obtain ⟨hl2, e2⟩ := List.getElem?_eq_some_iff.1 hj
        rw [List.pairwise_map, List.pairwise_iff_getElem] at hs
        rcases Nat.lt_or_gt_of_ne hjk with hlt | hlt
        · have := hs k j hl hl2 hlt; rw [e, e2] at this; omega
        · have := hs j k hl2 hl hlt; rw [e, e2] at this; omega
      rw [sentL_at hj, sentL_at hj]
      congr 1
      simp [hne]
theorem rrel_sent {l : List RR} {told : List Int} {t : St} (h : RRel l told t) (c : Cmd) : RRel (sentL l c.nums) told (t.sent c) := by
  have hrs : (sentL l c.nums).map (·.r) = (t.sent c).rs := by
    unfold sentL St.sent
    simp only [List.map_map, ← h.rs]
    refine List.map_congr_left fun x _ => ?_
    simp only [Function.comp]
    split <;> rfl
  refine ⟨hrs, fun x hx => ?_, ⟨h.told.nodup, fun n => ?_⟩⟩
  · obtain ⟨y, hy, rfl⟩ := List.mem_map.1 hx
    have := h.ok y hy
    split
    · exact ⟨this.data, this.wans, fun h => by simp [sentX, sentR] at h⟩
    · exact this
  · rw [h.told.mem]
    unfold St.sent
    constructor
    · rintro ⟨r, h1, h2, h3⟩
      refine ⟨if r.num ∈ c.nums then sentR r else r, List.mem_map_of_mem h1, ?_, ?_⟩ <;> split <;> assumption
    · rintro ⟨r, h1, h2, h3⟩
      obtain ⟨y, hy, rfl⟩ := List.mem_map.1 h1
      refine ⟨y, hy, ?_, ?_⟩
      · revert h2; split <;> exact id
      · revert h3; split <;> exact id
/-! ### a try ends -/
def landX (now : Int) (disk : List Int) (fault : Bool) (x : RR) : RR := ⟨St.landR now disk fault x.r, x.data, if !fault && !x.r.write then str4 (dget disk x.r.page) else x.answer⟩
theorem landX_ok {x : RR} (h : x.Ok) (ha : x.r.state = 1 ∨ x.r.state = 4) (now : Int) (disk : List Int) (fault : Bool) : (landX now disk fault x).Ok := by
  obtain ⟨_, _, h3, _, _⟩ := landR_num now disk fault x.r
  have hd : (St.landR now disk fault x.r).data = if !fault && !x.r.write then dget disk x.r.page else x.r.data := by
    unfold St.landR; simp only; repeat' split
    all_goals simp_all
  refine ⟨fun hw => ?_, fun hw => ?_, fun h2 hw => ?_⟩
  · have hw' : x.r.write = true := h3.symm.trans hw
    show x.data = str4 (St.landR now disk fault x.r).data
    rw [hd, hw', h.data hw']; simp
  · have hw' : x.r.write = true := h3.symm.trans hw
    show (if !fault && !x.r.write then _ else _) = _
    rw [hw', h.wans hw']; simp
  · have hw' : x.r.write = false := h3.symm.trans hw
    show (if !fault && !x.r.write then str4 (dget disk x.r.page) else x.answer) = str4 (St.landR now disk fault x.r).data
    rw [hd]
    cases hf : fault with
    | false => simp [hw']
    | true =>
      exfalso
      have h2' : (St.landR now disk fault x.r).state = 2 := h2
      unfold St.landR at h2'
      subst hf
      simp only [Bool.not_true, Bool.false_eq_true, if_false, Bool.false_and] at h2'
      rcases ha with ha | ha
      · rw [if_pos ha] at h2'
        split at h2' <;> simp at h2'
      · rw [if_neg (by omega)] at h2'
        simp only at h2'
        omega
theorem rrel_land {l : List RR} {told : List Int} {t : St} (h : RRel l told t) (hs : t.rs.Pairwise (·.num < ·.num)) {k : Nat} {x : RR} (hk : l[k]? = some x) (ha : x.r.state = 1 ∨ x.r.state = 4) (fault : Bool) (ht : x.r.told = false) :
    RRel (l.set k (landX t.now t.disk fault x)) told (t.land fault x.r.num) := by
  have hk' := h.at hk
  obtain ⟨h1, _⟩ := land_at hs hk' fault
  rw [ht] at h1
  simp only [Bool.false_eq_true, if_false] at h1
  obtain ⟨a1, _, _, _, a5⟩ := landR_num t.now t.disk fault x.r
  exact ⟨by rw [rset_map, h.rs, h1]; rfl, rset_ok h.ok (landX_ok (h.ok x (List.mem_of_getElem? hk)) ha _ _ _), by rw [h1]; exact told_set h.told hs hk' a1 a5⟩
theorem rrel_land_told {l : List RR} {told : List Int} {t : St} (h : RRel l told t) (hs : t.rs.Pairwise (·.num < ·.num)) {k : Nat} {x : RR} (hk : l[k]? = some x) (fault : Bool) (ht : x.r.told = true) :
    RRel (l.eraseIdx k) (told.filter fun m => !(m == x.r.num)) (t.land fault x.r.num) := by
  have hk' := h.at hk
  obtain ⟨h1, _⟩ := land_at hs hk' fault
  rw [ht] at h1
  simp only [if_true] at h1
  exact ⟨by rw [erase_map, h.rs, h1], fun y hy => h.ok y (List.mem_of_mem_eraseIdx hy), by rw [h1]; exact told_out h.told hs hk'⟩
theorem rrel_crash {t : St} (f : Nat → Bool) : RRel [] [] (t.crash f) := ⟨rfl, fun _ h => (List.not_mem_nil h).elim, ⟨List.nodup_nil, fun n => by simp [St.crash]⟩⟩
theorem rrel_same {l : List RR} {told : List Int} {t t' : St} (h : RRel l told t) (e : t'.rs = t.rs) : RRel l told t' := ⟨by rw [e]; exact h.rs, h.ok, by rw [e]; exact h.told⟩
/-! ### cells -/
def rrCells (x : RR) : List Value := [.int .i64 x.r.num, .bool x.r.write, .int .i64 x.r.page, .string x.data, .int .i64 x.r.state, .int .i64 x.r.tries, .int .i64 x.r.after, .bool x.r.alone, .bool x.r.inAir, .string x.answer]
theorem rr_len (l : List RR) : (l.flatMap rrCells).length = l.length * 10 := by
  induction l with
  | nil => rfl
  | cons x l ih => simp [ih, rrCells]; omega
theorem rr_at : ∀ {l : List RR} {j : Nat} {x : RR}, l[j]? = some x → ∀ i v, (rrCells x)[i]? = some v → (l.flatMap rrCells)[j * 10 + i]? = some v
  | [], _, _, h => by simp at h
  | y :: l, 0, x, h => by
    intro i v hv
    simp at h
    subst h
    have hi : i < 10 := (List.getElem?_eq_some_iff.1 hv).1
    rw [List.flatMap_cons, List.getElem?_append_left (by simp [rrCells]; omega)]
    simpa using hv
  | y :: l, j + 1, x, h => by
    intro i v hv
    rw [List.flatMap_cons, List.getElem?_append_right (by simp [rrCells]; omega)]
    have := rr_at (by simpa using h) i v hv
    rw [show (j + 1) * 10 + i - (rrCells y).length = j * 10 + i from by simp [rrCells]; omega]
    exact this
theorem rr_same : ∀ (l : List RR) (k : Nat) {x y : RR}, l[k]? = some x → rrCells y = rrCells x → (l.set k y).flatMap rrCells = l.flatMap rrCells
  | [], _, _, _, h, _ => by simp at h
  | z :: l, 0, x, y, h, e => by
    simp at h
    subst h
    simp [e]
  | z :: l, k + 1, x, y, h, e => by
    have := rr_same l k (by simpa using h) e
    simp [this]
theorem rr_tell {l : List RR} {k : Nat} {x : RR} (hk : l[k]? = some x) : (l.set k (tellX x)).flatMap rrCells = l.flatMap rrCells := rr_same l k hk rfl
theorem rr_set1 (i : Nat) (v : Value) (hi : i < 10) : ∀ (l : List RR) (k : Nat) {x y : RR}, l[k]? = some x → rrCells y = (rrCells x).set i v → (l.set k y).flatMap rrCells = (l.flatMap rrCells).set (k * 10 + i) v
  | [], _, _, _, h, _ => by simp at h
  | z :: l, 0, x, y, h, e => by
    simp at h
    subst h
    simp only [List.set_cons_zero, List.flatMap_cons, e]
    rw [List.set_append, if_pos (by simp [rrCells]; omega)]
    simp
  | z :: l, k + 1, x, y, h, e => by
    have ih := rr_set1 i v hi l k (by simpa using h) e
    simp only [List.set_cons_succ, List.flatMap_cons, ih]
    have hl : (rrCells z).length = 10 := rfl
    rw [List.set_append, if_neg (by omega)]
    congr 2
    omega
end Go.Proofs.YticobikhndlejaaGreatDoor
