/- Crash by contract. -/
import Derived.Test.YticobikhndlejaaGreatDoorGxH
import Derived.Test.YticobikhndlejaaGreatDoorGxJ
import Derived.Lib.SliceRun
import Derived.Test.YticobikhndlejaaGreatDoorGxB
import Derived.Test.YticobikhndlejaaGreatDoorGxA
namespace Go.Proofs.YticobikhndlejaaGreatDoor
open Go.RowKit Go.Shelf Go.Lib

theorem run_clear_tab {P : Program} {w : World} {T K E mb clock : Nat} {es : List Ent} {ty : TypeId} (hT : P.underlying T = some (.map K E)) (hm : w.heap[mb]? = some (mapObj es clock)) :
    (Builtin.clear_ #[T] ty #[.map (some mb)]).run P w = .ok (.tuple #[]) (w.putObj mb (mapObj [] clock)) := by
  simp only [Builtin.clear_]
  simp [run_underlying hT, getMap_run hm, Result.andThen, setMap_run _ hm]
  simp [mapObj]
set_option maxRecDepth 100000 in
theorem clear_any (tb mb clock : Nat) (last held : Int) (es : List Ent) (w : World) (h : TabB w tb mb clock last held es) :
    Calls Tryz.prog 45 #[ptr tb] w fun x w' => x = .returned (.tuple #[]) ∧ TabB w' tb mb clock last 0 [] ∧ Chg (fun k => k = tb ∨ k = mb) w w' := by
  have c0 := h.c0
  have hm := h.map
  have hne : tb ≠ mb := ne_of_heap h.tab hm (by simp [mapObj])
  have hr := run_clear_tab (P := Tryz.prog) (ty := 0) Tryz.underlying146 hm
  have htb : (w.putObj mb (mapObj [] clock)).heap[tb]? = some (.cells #[.map (some mb), .int .i64 last, .int .i64 held] 148 (0, 0)) := by
    rw [World.putObj_heap_other hne]; exact h.tab
  have k0 : (w.putObj mb (mapObj [] clock)).cell? ⟨tb, 2, none⟩ = some (.int .i64 held) := cell_of htb rfl
  have kf : (w.putObj mb (mapObj [] clock)).frozen? ⟨tb, 2, none⟩ = false := free_of htb
  have hmb := lt_of_heap hm
  have HT := Lib.hid h
  have HB := Lib.hid htb
  clear h htb hm
  go_enter Tryz.func45, Tryz.ntmps45
  go_wp2_with fail
  go_end0
  have hc : Chg (fun k => k = tb ∨ k = mb) w ((w.putObj mb (mapObj [] clock)).setCell ⟨tb, 2, none⟩ (.int .i64 0)) := by
    have h0 : Chg (fun k => k = tb ∨ k = mb) w (w.putObj mb (mapObj [] clock)) := ⟨rfl, rfl, rfl, by simp, fun k _ hk => World.putObj_heap_other fun e => hk (.inr e)⟩
    exact h0.setCell (p := ⟨tb, 2, none⟩) (.inl (.inl rfl)) _
  refine ⟨rfl, ⟨heap_setCell (i := 2) _ HB.out, ?_, (fun e he => by cases he), (fun e he => by cases he), List.nodup_nil, ⟨(fun e he => by cases he), (fun e he => by cases he), List.Pairwise.nil⟩, by simp⟩, hc⟩
  rw [heap_setCell_ne _ (by simpa using hne.symm)]
  exact World.putObj_heap_same hmb

theorem kept_app (rs : List Req) (f : Nat → Bool) : ∀ (a b : List Int) (i : Nat) (d : List Int), St.kept rs (a ++ b) f i d = St.kept rs b f (i + a.length) (St.kept rs a f i d)
  | [], _, _, _ => rfl
  | n :: a, b, i, d => by
    simp only [List.cons_append, St.kept]
    rw [kept_app rs f a b]
    simp only [List.length_cons]
    congr 1; omega
theorem kept_len (rs : List Req) (f : Nat → Bool) : ∀ (a : List Int) (i : Nat) (d : List Int), (St.kept rs a f i d).length = d.length
  | [], _, _ => rfl
  | n :: a, i, d => by
    simp only [St.kept]
    rw [kept_len rs f a]
    split
    · split
      · rfl
      · simp [dput]
    · rfl
/-- The numbers that are to be written, of the first j commands. -/
def wnums (cs : List (Cmd × Value)) (j : Nat) : List Int := (((cs.take j).map (·.1)).filter (·.write)).flatMap (·.nums)
theorem wnums_succ {cs : List (Cmd × Value)} {j : Nat} {c : Cmd × Value} (h : cs[j]? = some c) : wnums cs (j + 1) = wnums cs j ++ (if c.1.write then c.1.nums else []) := by
  obtain ⟨h1, h2⟩ := List.getElem?_eq_some_iff.1 h
  unfold wnums
  rw [List.take_succ_eq_append_getElem h1, h2, List.map_append, List.filter_append, List.flatMap_append]
  congr 1
  cases hw : c.1.write <;> simp [hw]
theorem chg_setCells (b : Nat) : ∀ (vs : List Value) (o : Nat) (w : World), Chg (fun k => k = b) w (w.setCells b o vs)
  | [], _, w => Chg.refl _ w
  | v :: vs, o, w => ((chg_set (i := o) v)).then (chg_setCells b vs (o + 1) _)
theorem heap_setCellsE (b : Nat) {t : TypeId} : ∀ (vs : List Value) (o : Nat) (w : World) (cur : Array Value), w.heap[b]? = some (.cells cur t (0, 0)) → ∃ cur', (w.setCells b o vs).heap[b]? = some (.cells cur' t (0, 0)) ∧ cur'.size = cur.size
  | [], _, w, cur, h => ⟨cur, h, rfl⟩
  | v :: vs, o, w, cur, h => by
    obtain ⟨cur', h1, h2⟩ := heap_setCellsE b vs (o + 1) _ _ (heap_setCell (i := o) v h)
    exact ⟨cur', h1, by rw [h2]; simp⟩
theorem run_clear_cmds {P : Program} (w : World) (t e ty : TypeId) (zs : Array Value) (ht : P.underlying t = some (.slice e)) (hv : ∀ w, (zeroValue e).run P w = .ok (.agg zs) w) (hz : zs.size = 4) (h1 : ∀ v ∈ zs, v.oneCell' = true) (b n c : Nat) (hn : 0 < n) {cur : Array Value} {et : TypeId}
    (hc : w.heap[b]? = some (.cells cur et (0, 0))) (hs : n * 4 ≤ cur.size) : ∃ L : List Value,
    (Builtin.clear_ #[t] ty #[.slice (some ⟨b, 0, none⟩) n c]).run P w = .ok (.tuple #[]) (w.setCells b 0 L) := by
  refine ⟨(Builtin.zeroCells zs n).toList, ?_⟩
  have hlen : (Builtin.zeroCells zs n).toList.length = n * 4 := by simp [Builtin.zeroCells, hz]
  have hst := run_storeCells_cells (P := P) b 0 (Builtin.zeroCells zs n).toList 0 w (fun j hj => by
    rw [hlen] at hj
    rw [cell_of hc (i := 0 + 0 + j) (v := cur[0 + 0 + j]'(by omega)) (Array.getElem?_eq_getElem _)]; rfl) (fun j _ => free_of hc) (by
    intro v hv'
    simp only [Builtin.zeroCells, Array.toList_map, List.mem_map] at hv'
    obtain ⟨i, _, rfl⟩ := hv'
    have hi : i % zs.size < zs.size := Nat.mod_lt _ (by omega)
    rw [getElem!_pos zs (i % zs.size) hi]
    exact h1 _ (Array.getElem_mem hi))
  simp only [Nat.add_zero] at hst
  obtain ⟨m, rfl⟩ : ∃ m, n = m + 1 := ⟨n - 1, by omega⟩
  simp [Builtin.clear_, run_underlying ht, hv, hst, Value.cells]
/-- A row of bools. -/
def BRow (w : World) (v : Value) (l : List Bool) : Prop := w.ownsRow 0 4 1 v l.length (l.map Value.bool)
theorem BRow.cell {w : World} {a : Option Addr} {n c : Nat} {l : List Bool} (h : BRow w (.slice a n c) l) {i : Nat} (hi : i < l.length) : ∃ g, a = some ⟨g, 0, none⟩ ∧ n = l.length ∧ w.cell? ⟨g, i, none⟩ = some (.bool (l.getD i false)) := by
  rcases h.2 with ⟨e, h0⟩ | ⟨g, cap, cur, e, hb, h3, h4, h5, h6, h7⟩
  · omega
  · simp only [Value.slice.injEq] at e
    obtain ⟨rfl, rfl, rfl⟩ := e
    refine ⟨g, rfl, rfl, cell_of h3 ?_⟩
    have h1 : (l.map Value.bool)[i]? = some (.bool (l.getD i false)) := by rw [List.getElem?_map, List.getD_eq_getElem?_getD, List.getElem?_eq_getElem hi]; rfl
    rw [← h7, List.getElem?_take_of_lt (by omega)] at h1
    rw [← Array.getElem?_toList]; exact h1
theorem find_numC {es : List Ent} (hok : EntsOk es) {e : Ent} (he : e ∈ es) : (es.map (·.r)).find? (fun r => r.num == e.r.num) = some e.r := by
  have hu : ∀ x ∈ es, x.r.num = e.r.num → x = e := fun x hx hn => num_inj hok.nodup hx he hn
  cases hf : (es.map (·.r)).find? (fun r => r.num == e.r.num) with
  | none =>
    have := List.find?_eq_none.1 hf e.r (List.mem_map_of_mem he)
    simp at this
  | some r =>
    have h1 := List.mem_of_find?_eq_some hf
    have h2 := List.find?_some hf
    obtain ⟨x, hx, rfl⟩ := List.mem_map.1 h1
    rw [hu x hx (by simpa using h2)]
theorem qCells_fl (tb : Nat) (fv fv' : Value) (s : Sta) : (qCells tb fv s).setIfInBounds 2 fv' = qCells tb fv' s := by simp [qCells]
theorem qCells_hd (tb : Nat) (fv : Value) (s : Sta) : (qCells tb fv s).setIfInBounds 4 (.int .i64 0) = qCells tb fv { s with head := 0 } := by simp [qCells]
theorem own_len (a : Option Addr) (n m c : Nat) : (Value.slice a n c).ownBlock = (Value.slice a m c).ownBlock := by cases a <;> rfl
/-- What is laid on the disk. -/
def dSta (s : Sta) (D : List Int) : Sta := { s with disk := D }

set_option maxRecDepth 100000 in
set_option maxHeartbeats 4000000 in
theorem crash_any (q : Nat) (s : Sta) (F : Nat → Prop) (w : World) (v : Value) (l : List Bool) (h : QAt w q s F) (hB : BRow w v l) (hv : ∀ k, v.ownBlock = some k → ¬ F k)
    (hfly : ∀ c ∈ s.cs, c.1.write = true → ∀ n ∈ c.1.nums, ∃ e ∈ s.es, e.r.num = n) (hnl : ∀ c ∈ s.cs, c.1.nums.length ≤ 1000000) (hcl : s.cs.length ≤ 1000) :
    Calls Tryz.prog 24 #[ptr q, v] w fun x w' => x = .returned (.tuple #[]) ∧
      QAt w' q { s with es := [], held := 0, cs := [], head := 0, disk := St.kept (s.es.map (·.r)) (wnums s.cs s.cs.length) (fun i => l.getD i false) 0 s.disk } F ∧ Chg F w w' := by
  obtain ⟨tb, mb, clock, fv, hq, hF⟩ := h
  obtain ⟨fa, fc, rfl⟩ := own_slice hq.fl
  obtain ⟨va, vc, rfl⟩ := own_slice hB
  have c2 := hq.c2
  obtain ⟨n, hn⟩ : ∃ n, s.cs.length = n := ⟨_, rfl⟩
  rw [hn] at c2
  have hqF : F q := hF q (.inl rfl)
  have HQ := Lib.hid hq
  have HF := Lib.hid hF
  have HB := Lib.hid hB
  have HV := Lib.hid hv
  have HFL := Lib.hid hfly
  have HNL := Lib.hid hnl
  have hD0 : Hid (dSta s s.disk = s) := Lib.hid rfl
  have hlen0 := hq.disk
  clear hq hF hB hv hfly hnl
  go_enter Tryz.func24, Tryz.ntmps24
  go_wp2_with fail
  go_loopg [4, 15] n (fun k nv i wr => ∃ (j : Nat), k = n - j ∧ j ≤ n ∧ i = .int .i64 j ∧ nv = .int .i64 (wnums s.cs j).length ∧ Hid (QB wr q tb mb clock (.slice fa s.cs.length fc) (dSta s (St.kept (s.es.map (·.r)) (wnums s.cs j) (fun i => l.getD i false) 0 s.disk)) ∧ Chg (fun k => k = q) w wr) ∧ (wnums s.cs j).length ≤ 1000000 * j)
  case atStart => exact ⟨0, by simp, by omega, rfl, rfl, Lib.hid ⟨HQ.out, Chg.refl _ _⟩, by simp [wnums]⟩
  case round =>
    obtain ⟨j, rfl, hj, rfl, rfl, hQ, hle⟩ := hrel
    by_cases hlt : j < n
    · have hltI : (j : Int) < (n : Int) := by omega
      obtain ⟨⟨c, cv⟩, hc⟩ : ∃ c, s.cs[j]? = some c := ⟨_, List.getElem?_eq_getElem (by omega)⟩
      have hcm : (c, cv) ∈ s.cs := List.mem_of_getElem? hc
      have hrow := hQ.out.1.rows _ hcm
      obtain ⟨ra, rc, rfl⟩ : ∃ ra rc, cv = .slice ra c.nums.length rc := own_slice hrow
      obtain ⟨g, cap, e, _, hgl, hcell⟩ := cmd_cells hQ.out.1.fl hc
      simp only [Value.slice.injEq] at e
      obtain ⟨rfl, _, rfl⟩ := e
      have p0 : wr.cell? ⟨g, j * 4, none⟩ = some (.bool c.write) := hcell 0 _ rfl
      have p1 : wr.cell? ⟨g, j * 4 + 1, none⟩ = some (.int .i64 c.page) := hcell 1 _ rfl
      have p2 : wr.cell? ⟨g, j * 4 + 2, none⟩ = some (.int .i64 c.count) := hcell 2 _ rfl
      have p3 : wr.cell? ⟨g, j * 4 + 3, none⟩ = some (.slice ra c.nums.length rc) := hcell 3 _ rfl
      have hsucc := wnums_succ hc
      have HC := Lib.hid (And.intro hcm hsucc)
      have HR := Lib.hid hrow
      clear hcell hc hcm hsucc hrow
      cases hcw : c.write with
      | false =>
        rw [hcw] at p0
        go_wp2_with fail
        go_roundg (n - (j + 1))
        case measure => omega
        case rel =>
          have hw1 : wnums s.cs (j + 1) = wnums s.cs j := by rw [HC.out.2, hcw]; simp
          exact ⟨j + 1, rfl, by omega, by go_num, by rw [hw1], Lib.hid (by rw [hw1]; exact ⟨hQ.out.1.kept ((Chg.refl (fun _ => False) wr).alloc _) fun _ _ x => x, hQ.out.2.alloc _⟩), by rw [hw1]; omega⟩
      | true =>
        rw [hcw] at p0
        have hw1 : wnums s.cs (j + 1) = wnums s.cs j ++ c.nums := by rw [HC.out.2, hcw]; simp
        have HW1 := Lib.hid hw1
        have hnl := HNL.out _ HC.out.1
        have hfly := HFL.out _ HC.out.1 hcw
        have HFLY := Lib.hid hfly
        obtain ⟨m, hm⟩ : ∃ m, c.nums.length = m := ⟨_, rfl⟩
        obtain ⟨b0, hb0⟩ : ∃ b0, (wnums s.cs j).length = b0 := ⟨_, rfl⟩
        rw [hm] at p3
        simp only at hnl
        rw [hm] at hnl
        have HM := Lib.hid hm
        have HB0 := Lib.hid hb0
        rw [hb0]
        rw [hb0] at hle
        clear hw1 hfly hm hb0
        go_wp2_with fail
        have hQ1 : QB (wr.alloc (.cells #[.bool true, .int .i64 c.page, .int .i64 c.count, .slice ra m rc] 48)) q tb mb clock (.slice (some ⟨g, 0, none⟩) s.cs.length fc) (dSta s (St.kept (s.es.map (·.r)) (wnums s.cs j) (fun i => l.getD i false) 0 s.disk)) ∧ Chg (fun k => k = q) w (wr.alloc (.cells #[.bool true, .int .i64 c.page, .int .i64 c.count, .slice ra m rc] 48)) := ⟨hQ.out.1.kept ((Chg.refl (fun _ => False) wr).alloc _) fun _ _ x => x, hQ.out.2.alloc _⟩
        have HQ1 := Lib.hid hQ1
        clear hQ1
        obtain ⟨W0, rfl⟩ : ∃ x, x = wr := ⟨_, rfl⟩
        go_loopg [4, 25] m (fun kk nv iv wx => ∃ (i k : Nat), kk = m - i ∧ i ≤ m ∧ k = b0 + i ∧ iv = .int .i64 i ∧ nv = .int .i64 k ∧ Hid (QB wx q tb mb clock (.slice (some ⟨g, 0, none⟩) s.cs.length fc) (dSta s (St.kept (s.es.map (·.r)) (wnums s.cs j ++ c.nums.take i) (fun i => l.getD i false) 0 s.disk)) ∧ Chg (fun k => k = q) w wx))
        case atStart => exact ⟨0, b0, by simp, by omega, rfl, rfl, rfl, Lib.hid (by simpa using HQ1.out)⟩
        case round =>
          obtain ⟨i, k, rfl, hi, hki, rfl, rfl, hQi⟩ := hrel
          have hk1 : k ≤ 1001000000 := by omega
          by_cases hilt : i < m
          · have hiltI : (i : Int) < (m : Int) := by omega
            have hnum : i < c.nums.length := by rw [HM.out]; exact hilt
            obtain ⟨num, hnumE⟩ : ∃ num, c.nums[i]? = some num := ⟨_, List.getElem?_eq_getElem hnum⟩
            have hrow : wr.ownsRow 0 3 1 (.slice ra c.nums.length rc) c.nums.length (c.nums.map fun n => Value.int .i64 n) := hQi.out.1.rows _ HC.out.1
            rw [HM.out] at hrow
            rcases hrow.2 with ⟨e, h0⟩ | ⟨rg, cap, cur, e, _, r3, r4, r5, r6, r7⟩
            · omega
            simp only [Value.slice.injEq] at e
            obtain ⟨rfl, _, rfl⟩ := e
            have hcell : wr.cell? ⟨rg, i, none⟩ = some (.int .i64 num) := cell_of r3 (by
              have h1 : (c.nums.map fun n => Value.int .i64 n)[i]? = some (.int .i64 num) := by rw [List.getElem?_map, hnumE]; rfl
              rw [← r7, List.getElem?_take_of_lt (by omega)] at h1
              rw [← Array.getElem?_toList]; exact h1)
            have HN := Lib.hid hnumE
            clear hrow r3 r4 r5 r6 r7 hnumE hnum
            have HKI := Lib.hid hki
            have htake : c.nums.take (i + 1) = c.nums.take i ++ [num] := by
              obtain ⟨h1, h2⟩ := List.getElem?_eq_some_iff.1 HN.out
              rw [List.take_succ_eq_append_getElem h1, h2]
            have HT := Lib.hid htake
            have hkept : ∀ D', St.kept (s.es.map (·.r)) (wnums s.cs j ++ c.nums.take (i + 1)) (fun i => l.getD i false) 0 s.disk = D' ↔ St.kept (s.es.map (·.r)) [num] (fun i => l.getD i false) k (St.kept (s.es.map (·.r)) (wnums s.cs j ++ c.nums.take i) (fun i => l.getD i false) 0 s.disk) = D' := fun D' => by
              rw [HT.out, ← List.append_assoc, kept_app, Nat.zero_add, List.length_append, List.length_take, HB0.out, HM.out, Nat.min_eq_left hi, ← HKI.out]
            have HKP := Lib.hid hkept
            clear hki htake hkept
            by_cases hbl : k < l.length
            · have hblI : (k : Int) < (l.length : Int) := by omega
              have hk0I : (0 : Int) ≤ (k : Int) := by omega
              have hBw : BRow wr (.slice va l.length vc) l := ownsRow_chg HB.out hQi.out.2 fun b hb hh => HV.out b hb (hh ▸ hqF)
              obtain ⟨kg, rfl, _, hkc⟩ := hBw.cell hbl
              cases hf : l.getD k false with
              | false =>
                rw [hf] at hkc
                have HFv := Lib.hid hf
                clear hf hBw
                go_wp2_with fail
                go_roundg (m - (i + 1))
                case measure => omega
                case rel => exact ⟨i + 1, k + 1, rfl, by omega, by rw [HKI.out]; omega, by go_num, by go_num, Lib.hid (by rw [(HKP.out _).2 (show St.kept _ [num] _ k _ = _ from by simp only [St.kept]; exact if_neg (by rw [HFv.out]; decide))]; exact hQi.out)⟩
              | true =>
                rw [hf] at hkc
                have HFv := Lib.hid hf
                clear hf hBw
                obtain ⟨e, hee, hen⟩ := HFLY.out num (List.mem_of_getElem? HN.out)
                have t1 := hQi.out.1.c1
                subst hen
                obtain ⟨D, hD⟩ : ∃ D, St.kept (s.es.map (·.r)) (wnums s.cs j ++ c.nums.take i) (fun i => l.getD i false) 0 s.disk = D := ⟨_, rfl⟩
                rw [hD] at hQi
                have HD := Lib.hid hD
                have HEE := Lib.hid hee
                clear hD
                go_wp2_with fail
                refine (get_yes tb mb clock s.last s.held s.es wr hQi.out.1.tab e HEE.out).mono ?_
                rintro x w2 ⟨rfl, rfl⟩
                have hQ2 := hQi.out.1
                have hR : ReqB w2 e.p e.r := hQ2.tab.reqs e HEE.out
                have hpg := hQ2.tab.ok.page e HEE.out
                obtain ⟨pg, hpgE⟩ : ∃ pg : Nat, e.r.page = (pg : Int) := ⟨e.r.page.toNat, by omega⟩
                have hL : LandB w2 q tb (.slice (some ⟨g, 0, none⟩) s.cs.length fc) (dSta s D) e pg (dget D e.r.page).a (dget D e.r.page).b (dget D e.r.page).c (dget D e.r.page).d := ⟨hQ2.que, hR, hpgE, by omega, hQ2.disk, rfl⟩
                obtain ⟨l0, l1, l2, l3⟩ := hL.disk
                have hp0 : (0 : Int) ≤ (pg : Int) := by omega
                have hp1 : (pg : Int) < 16 := by omega
                have hne := hQ2.ne_qp HEE.out
                have hne2 := hne.symm
                have b2 : w2.cell? ⟨e.p, 2, none⟩ = some (.int .i64 pg) := by have := hR.at.c2; rw [← hpgE]; exact this
                have b3 : w2.cell? ⟨e.p, 3, none⟩ = some (.int .u8 e.r.data.a) := hR.at.c3
                have b4 : w2.cell? ⟨e.p, 3 + 1, none⟩ = some (.int .u8 e.r.data.b) := hR.at.c4
                have b5 : w2.cell? ⟨e.p, 3 + 2, none⟩ = some (.int .u8 e.r.data.c) := hR.at.c5
                have b6 : w2.cell? ⟨e.p, 3 + 3, none⟩ = some (.int .u8 e.r.data.d) := hR.at.c6
                have df : ∀ i, w2.frozen? ⟨q, i, none⟩ = false := fun i => free_of hQ2.que
                obtain ⟨W2, hW2⟩ : ∃ W2, ((((w2.setCell ⟨q, 5 + pg * 4, none⟩ (.int .u8 e.r.data.a)).setCell ⟨q, 5 + pg * 4 + 1, none⟩ (.int .u8 e.r.data.b)).setCell ⟨q, 5 + pg * 4 + 2, none⟩ (.int .u8 e.r.data.c)).setCell ⟨q, 5 + pg * 4 + 3, none⟩ (.int .u8 e.r.data.d)).drew = W2 := ⟨_, rfl⟩
                have hc2 : Chg (fun k => k = q) w2 W2 := by rw [← hW2]; exact ((((chg_set _).then (chg_set _)).then (chg_set _)).then (chg_set _)).drew
                have hq2 : W2.heap[q]? = some (.cells (qCells tb (.slice (some ⟨g, 0, none⟩) s.cs.length fc) (dSta s (dput D pg e.r.data))) 89 (0, 0)) := by
                  rw [← hW2, show dSta s (dput D pg e.r.data) = { (dSta s D) with disk := dput (dSta s D).disk pg e.r.data } from rfl, ← qCells_dput]
                  exact heap_setCell (i := 5 + pg * 4 + 3) _ (heap_setCell (i := 5 + pg * 4 + 2) _ (heap_setCell (i := 5 + pg * 4 + 1) _ (heap_setCell (i := 5 + pg * 4) _ hQ2.que)))
                have hQ3 := hQ2.ques (dSta s (dput D pg e.r.data)) rfl rfl rfl rfl (by simp only [dSta, dput, List.length_set]; exact hQ2.disk) hq2 hc2
                have hfn : (s.es.map (·.r)).find? (fun r => r.num == e.r.num) = some e.r := find_numC hQ2.tab.ok HEE.out
                have HQ3 := Lib.hid (And.intro hQ3 (hQi.out.2.then hc2))
                have HFN := Lib.hid hfn
                have HPG := Lib.hid hpgE
                have HW2 := Lib.hid hW2
                clear hW2 hQ2 hR hL hpg hc2 hq2 hQ3 hfn hpgE
                go_wp2_with fail
                go_region_held3 (fun w' => w'.cell? ⟨e.p, 2, none⟩ = some (.int .i64 pg) ∧ w'.cell? ⟨e.p, 3, none⟩ = some (.int .u8 e.r.data.a) ∧ w'.cell? ⟨e.p, 3 + 1, none⟩ = some (.int .u8 e.r.data.b) ∧ w'.cell? ⟨e.p, 3 + 2, none⟩ = some (.int .u8 e.r.data.c) ∧ w'.cell? ⟨e.p, 3 + 3, none⟩ = some (.int .u8 e.r.data.d)) (go_keep) (fail)
                rw [HW2.out]
                go_wp2_with fail
                go_roundg (m - (i + 1))
                case measure => omega
                case rel => exact ⟨i + 1, k + 1, rfl, by omega, by rw [HKI.out]; omega, by go_num, by go_num, Lib.hid (by rw [(HKP.out _).2 (show St.kept _ [e.r.num] _ k _ = dput D pg e.r.data from by simp only [St.kept, HD.out]; rw [if_pos HFv.out, HFN.out]; show dput D e.r.page e.r.data = _; rw [HPG.out])]; exact HQ3.out)⟩
            · have hblI : ¬ (k : Int) < (l.length : Int) := by omega
              go_wp2_with fail
              go_roundg (m - (i + 1))
              case measure => omega
              case rel => exact ⟨i + 1, k + 1, rfl, by omega, by rw [HKI.out]; omega, by go_num, by go_num, Lib.hid (by rw [(HKP.out _).2 (show St.kept _ [num] _ k _ = _ from by simp only [St.kept]; exact if_neg (by rw [List.getD_eq_getElem?_getD, List.getElem?_eq_none (by omega)]; decide))]; exact hQi.out)⟩
          · obtain rfl : i = m := by omega
            have hall : c.nums.take i = c.nums := List.take_of_length_le (by rw [HM.out]; exact Nat.le_refl _)
            rw [hall] at hQi
            clear hall
            go_wp2_with fail
            go_roundg (n - (j + 1))
            case measure => omega
            case rel => exact ⟨j + 1, rfl, by omega, by go_num, by rw [HW1.out, List.length_append, HB0.out, HM.out, hki], Lib.hid (by rw [HW1.out]; exact hQi.out), by rw [HW1.out, List.length_append, HB0.out, HM.out]; omega⟩
    · obtain rfl : j = n := by omega
      obtain ⟨D, hD⟩ : ∃ D, St.kept (s.es.map (·.r)) (wnums s.cs j) (fun i => l.getD i false) 0 s.disk = D := ⟨_, rfl⟩
      rw [hD] at hQ
      have HD := Lib.hid hD
      clear hD
      have hfl : wr.ownsRow 0 48 4 (.slice fa j fc) j ((dSta s D).cs.flatMap cmdCells) := by
        have h9 := hQ.out.1.fl
        have hcs : (dSta s D).cs.length = s.cs.length := rfl
        rw [hcs, hn] at h9
        exact h9
      have hclr : ∃ W1, (Builtin.clear_ #[55] 0 #[.slice fa j fc]).run Tryz.prog wr = .ok (.tuple #[]) W1 ∧ W1.ownsRow 0 48 4 (.slice fa 0 fc) 0 [] ∧ Chg (fun k => (Value.slice fa j fc).ownBlock = some k) wr W1 := by
        rcases hfl.2 with ⟨e, h0⟩ | ⟨g, cap, cur, e, _, r3, r4, r5, r6, r7⟩
        · simp only [Value.slice.injEq] at e
          obtain ⟨rfl, _, rfl⟩ := e
          refine ⟨wr, ?_, World.ownsRow_nil _ _ _ _, Chg.refl _ _⟩
          rw [h0]
          simp [Builtin.clear_, run_underlying Tryz.underlying55]
        · simp only [Value.slice.injEq] at e
          obtain ⟨rfl, _, rfl⟩ := e
          by_cases h0 : j = 0
          · subst h0
            refine ⟨wr, by simp [Builtin.clear_, run_underlying Tryz.underlying55], ⟨rfl, .inr ⟨g, fc, cur, rfl, Nat.zero_le _, r3, Nat.zero_le _, r5, r6, by simp⟩⟩, Chg.refl _ _⟩
          · obtain ⟨L, hL⟩ := run_clear_cmds (P := Tryz.prog) wr 55 48 0 #[.bool false, .int .i64 0, .int .i64 0, .slice none 0 0] Tryz.underlying55 Tryz.zeroValue48 rfl (by simp [Value.oneCell']) g j fc (by omega) r3 (by omega)
            obtain ⟨cur', h1, h2⟩ := heap_setCellsE g L 0 wr cur r3
            exact ⟨_, hL, ⟨rfl, .inr ⟨g, fc, cur', rfl, Nat.zero_le _, h1, Nat.zero_le _, r5, by rw [h2, r6], by simp⟩⟩, (chg_setCells g L 0 wr).mono fun k _ hk => by rw [hk]; rfl⟩
      obtain ⟨W1, hr1, hw1, hc1⟩ := hclr
      have hne : ∀ k, (Value.slice fa j fc).ownBlock = some k → q ≠ k ∧ tb ≠ k ∧ mb ≠ k ∧ ∀ e ∈ s.es, e.p ≠ k := fun k hk => by
        obtain ⟨cur, hcur⟩ := own_heap hfl hk
        exact ⟨ne_of_heap hQ.out.1.que hcur (by simp), ne_of_heap hQ.out.1.tab.tab hcur (by simp), ne_of_heap hQ.out.1.tab.map hcur (by simp [mapObj]), fun e he => ne_of_heap (hQ.out.1.tab.reqs e he) hcur (by simp)⟩
      have hq1 : W1.heap[q]? = some (.cells (qCells tb (.slice fa j fc) (dSta s D)) 89 (0, 0)) := by
        rw [hc1.block q (lt_of_heap hQ.out.1.que) fun hk => (hne q hk).1 rfl, hQ.out.1.que, hn]
      have c2 : W1.cell? ⟨q, 2, none⟩ = some (.slice fa j fc) := cell_of hq1 rfl
      have f2 : W1.frozen? ⟨q, 2, none⟩ = false := free_of hq1
      have c1 : (W1.setCell ⟨q, 2, none⟩ (.slice fa 0 fc)).cell? ⟨q, 1, none⟩ = some (ptr tb) := cell_of (heap_setCell (i := 2) _ hq1) (by rw [qCells_fl]; rfl)
      have c0 := (hQ.out.1).c2
      rw [hn] at c0
      have hc2 : Chg (fun k => k = q ∨ (Value.slice fa j fc).ownBlock = some k) wr (W1.setCell ⟨q, 2, none⟩ (.slice fa 0 fc)) := (hc1.mono fun k _ hk => .inr hk).then ((chg_set _).mono fun k _ hk => .inl hk)
      have hT2 := hQ.out.1.tab.kept hc2 (fun hk => hk.elim (fun e => hQ.out.1.ne_qt e.symm) fun e => (hne tb e).2.1 rfl) (fun hk => hk.elim (fun e => hQ.out.1.ne_qm e.symm) fun e => (hne mb e).2.2.1 rfl) (fun e he hk => hk.elim (fun x => hQ.out.1.ne_qp he x.symm) fun x => (hne e.p x).2.2.2 e he rfl)
      have HT2 := Lib.hid hT2
      have HQ1 := Lib.hid hq1
      have HW1 := Lib.hid hw1
      have HC2 := Lib.hid hc2
      have HNE := Lib.hid hne
      clear hT2 hq1 hw1 hc2 hne hfl hc1
      go_wp2_with fail
      refine (clear_any tb mb clock s.last s.held s.es _ HT2.out).mono ?_
      rintro x w3 ⟨rfl, hT3, hc3⟩
      have hq3 : w3.heap[q]? = some (.cells (qCells tb (.slice fa 0 fc) (dSta s D)) 89 (0, 0)) := by
        rw [hc3.block q (by simpa using lt_of_heap HQ1.out) (fun hk => hk.elim (fun e => hQ.out.1.ne_qt e) fun e => hQ.out.1.ne_qm e), heap_setCell (i := 2) _ HQ1.out, qCells_fl]
      have k4 : w3.cell? ⟨q, 4, none⟩ = some (.int .i64 s.head) := cell_of hq3 rfl
      have kf4 : w3.frozen? ⟨q, 4, none⟩ = false := free_of hq3
      have HQ3 := Lib.hid hq3
      have HT3 := Lib.hid hT3
      have HC3 := Lib.hid hc3
      clear hq3 hT3 hc3
      go_wp2_with fail
      go_end0
      have hfin : (w3.setCell ⟨q, 4, none⟩ (.int .i64 0)).heap[q]? = some (.cells (qCells tb (.slice fa 0 fc) { s with es := [], held := 0, cs := [], head := 0, disk := D }) 89 (0, 0)) := by
        rw [heap_setCell (i := 4) _ HQ3.out, qCells_hd]; rfl
      have hQS := hQ.out.1
      refine ⟨rfl, ⟨tb, mb, clock, .slice fa 0 fc, ⟨by rw [hn, HD.out]; exact hfin, HT3.out.kept (S := fun k => k = q) (chg_set _) (fun e => hQS.ne_qt e.symm) (fun e => hQS.ne_qm e.symm) (fun e he => by cases he), ?_, (fun c hc => by cases hc), by rw [hn, HD.out]; exact hQS.disk⟩, fun k hk => HF.out k ?_⟩, ?_⟩
      · refine ownsRow_chg (ownsRow_chg HW1.out (S := fun k => k = q ∨ k = tb ∨ k = mb) (((chg_set _).mono fun k _ hk => .inl hk).then (HC3.out.mono fun k _ hk => .inr hk)) fun k hk hh => ?_) (S := fun k => k = q) (chg_set _) fun k hk hh => (HNE.out k ((own_len _ _ _ _).trans hk)).1 hh.symm
        obtain ⟨n1, n2, n3, _⟩ := HNE.out k ((own_len _ _ _ _).trans hk)
        rcases hh with e | e | e
        · exact n1 e.symm
        · exact n2 e.symm
        · exact n3 e.symm
      · rcases hk with h | h | h | h | ⟨e, he, h⟩ | ⟨c, hc, h⟩
        · exact .inl h
        · exact .inr (.inl h)
        · exact .inr (.inr (.inl h))
        · exact .inr (.inr (.inr (.inl ((own_len _ _ _ _).trans h))))
        · cases he
        · cases hc
      · have h1 : Chg F w wr := hQ.out.2.mono fun k _ hk => hk ▸ hqF
        have h2 : Chg F w (W1.setCell ⟨q, 2, none⟩ (.slice fa 0 fc)) := h1.then (HC2.out.mono fun k _ hk => hk.elim (fun e => e ▸ hqF) fun e => HF.out k (.inr (.inr (.inr (.inl ((own_len _ _ _ _).trans e))))))
        have h3 : Chg F w w3 := h2.then (HC3.out.mono fun k _ hk => hk.elim (fun e => HF.out k (.inr (.inl e))) fun e => HF.out k (.inr (.inr (.inl e))))
        exact h3.setCell (p := ⟨q, 4, none⟩) (.inl hqF) _
end Go.Proofs.YticobikhndlejaaGreatDoor

/- The laid contracts (they lie in the text before). -/


/- maps.Keys over the table's map, slices.AppendSeq, slices.Collect, slices.Sorted at ints; Table.Waiting: by contracts. -/
namespace Go.Proofs.YticobikhndlejaaGreatDoor
open Go.RowKit Go.Shelf

attribute [local go_sem] Oper.semAt_some

set_option maxRecDepth 100000 in
set_option maxHeartbeats 1000000 in
/-- maps.Keys's iterator over the table's map: every entry comes once, in some order. -/
theorem keys1_in (F : Fence) (n : Nat) (hf : F.fn 107) (hro : F.round = none) (hn : 1 ≤ n) (l Bm mb clock : Nat) (es : List Ent) (J Jx : List Ent → World → Prop)
    (hY : ∀ pre x W, J pre W → pre.length < es.length → YieldAt F (n - 1) Tryz.prog l #[Value.int .i64 x.r.num] W fun e W' =>
      (e = .returned (.bool true) ∧ J (pre ++ [x]) W' ∧ KeepsWalks W W') ∨ (e = .returned (.bool false) ∧ Jx (pre ++ [x]) W'))
    (W : World) (hJ : AbidesFrom W.heap.size J) (hm : W.cell? ⟨Bm, 0, none⟩ = some (.map (some mb))) (hmap : W.heap[mb]? = some (mapObj es clock)) (hb : ∀ e ∈ es, e.born < clock) (hnd : (es.map Ent.born).Nodup) (h0 : J [] W) :
    CallsIn F n Tryz.prog 107 #[.func (.yield l) #[] #[], ptr Bm] W fun e W' => (∃ v, e = .returned v) ∧
      ((∃ xs, xs.Perm es ∧ J xs W') ∨ (∃ pre, True ∧ Jx pre W')) := by
  have hml := lt_of_heap hmap
  have hrg := run_range_map (P := Tryz.prog) (w := W) Tryz.underlying146 hmap
  refine callsIn_of_wp Tryz.func107 rfl hf ?_ hro
  simp only [Tryz.ntmps107, List.size_toArray, List.length_cons, List.length_nil, Nat.reduceAdd, Nat.reduceSub, Array.replicate_succ, Array.replicate_zero, List.push_toArray, List.append_toArray, List.nil_append, List.cons_append]
  gi_wp2
  gi_loopw [3] (fun _ wr => ∃ vs : List Ent, wr.heap[W.heap.size]? = some (iterObj mb clock (vs.map Ent.born)) ∧ wr.heap[mb]? = some (mapObj es clock) ∧ (∀ v ∈ vs, v ∈ es) ∧ (vs.map Ent.born).Nodup ∧ J vs wr)
    (fun _ wr => iterLeft es.length W.heap.size wr)
  case atStart =>
    refine ⟨[], World.alloc_heap_new W _, (Below.heap_alloc _ _ _ hml).trans hmap, by simp, by simp, ?_⟩
    exact hJ [] W _ none h0 (World.grownBy_alloc W _ none) (fun r e => by cases e)
  case round =>
    obtain ⟨vs, hI, hM, hve, hvn, hJs⟩ := hrel
    by_cases hl : leftOf es (vs.map Ent.born) = []
    · have hnx := fun ty => next_over (P := Tryz.prog) ty _ _ hI hM hb hl
      have hp := left_perm hve hnd hvn hl
      gi_wp2
      go_end0
      exact ⟨⟨_, rfl⟩, .inl ⟨vs, hp, hJs⟩⟩
    · obtain ⟨e, he, w2, hnx, hw2⟩ := next_some (P := Tryz.prog) 0 _ _ hI hM hb hl
      have hlt := len_lt_of_left hve hvn he
      have hee := (List.mem_filter.1 he).1
      have hnb : e.born ∉ vs.map Ent.born := by simpa using (List.mem_filter.1 he).2
      have hml2 := lt_of_heap hM
      have hil := lt_of_heap hI
      have hI2 : w2.heap[W.heap.size]? = some (iterObj mb clock ((vs ++ [e]).map Ent.born)) := by
        rcases hw2 with rfl | rfl
        · rw [World.putObj_heap_same hil]; simp
        · rw [World.putObj_heap_same (by simpa using hil)]; simp
      have hM2 : w2.heap[mb]? = some (mapObj es clock) := by
        rcases hw2 with rfl | rfl <;> rw [World.putObj_heap_other (by omega)]
        · exact hM
        · exact hM
      have hg2 : wr.grownBy w2 (some W.heap.size) := by
        rcases hw2 with rfl | rfl
        · exact grownBy_putObj' _ _ _
        · exact ⟨rfl, rfl, rfl, by simp, fun k _ hk => World.putObj_heap_other (fun e => hk (by rw [e]))⟩
      have hJ2 : J vs w2 := hJ vs wr w2 (some W.heap.size) hJs hg2 (fun r e => by cases e; exact ⟨Nat.le_refl _, _, hI, rfl⟩)
      have hen := entry_run (P := Tryz.prog) (w := w2) _ _ (by simpa using hI2) hM2 hee hnd
      obtain ⟨fn, tmps, assign, body, hy, hR⟩ := hY vs e w2 hJ2 hlt
      clear hw2
      have HI2 := Lib.hid hI2
      have HM2 := Lib.hid hM2
      have HI := Lib.hid hI
      clear hI2 hM2 hI hM hmap hrg
      gi_wp2
      refine hR.mono ?_
      have hve' : ∀ v ∈ vs ++ [e], v ∈ es := fun v hv => (List.mem_append.1 hv).elim (hve v) (fun h => by simp at h; subst h; exact hee)
      have hvn' : ((vs ++ [e]).map Ent.born).Nodup := by
        rw [List.map_append]
        exact List.nodup_append.2 ⟨hvn, by simp, fun a ha b hb hab => by simp at hb; subst hb; exact hnb (hab ▸ ha)⟩
      rintro e' W3 (⟨rfl, hJ3, hk3⟩ | ⟨rfl, hJx3⟩)
      · gi_wp2
        have hI3 := hk3.same _ _ HI2.out rfl
        go_roundw
        case rel => exact ⟨vs ++ [e], hI3, hk3.same _ _ HM2.out rfl, hve', hvn', hJ3⟩
        case measure => rw [iterLeft_eq hI3, iterLeft_eq HI.out]; simp; omega
      · gi_wp2
        refine bodyPost_ret (results_none rfl _ _ _) rfl ?_
        exact ⟨⟨_, rfl⟩, .inr ⟨vs ++ [e], trivial, hJx3⟩⟩

/-- maps.Keys(m): the map is boxed; the function value captures the box. -/
theorem keys_in (F : Fence) (n : Nat) (hf : F.fn 74) (hro : F.round = none) (m : Option Nat) (w : World) :
    CallsIn F n Tryz.prog 74 #[.map m] w fun e w' => e = .returned (.func (.func 107) #[] #[ptr w.heap.size]) ∧ w' = w.alloc (.cells #[.map m] 146) := by
  refine callsIn_of_wp Tryz.func74 rfl hf ?_ hro
  simp only [Tryz.ntmps74, List.size_toArray, List.length_cons, List.length_nil, Nat.reduceAdd, Nat.reduceSub, Array.replicate_succ, Array.replicate_zero, List.push_toArray, List.append_toArray, List.nil_append, List.cons_append]
  gi_wp2
  go_ret
  exact ⟨rfl, rfl⟩
theorem keys_stops (F : Fence) (n : Nat) (hf : F.fn 107) (hro : F.round = none) (hn : 1 ≤ n) (Bm mb clock : Nat) (es : List Ent) (w : World) (hBm : Bm < w.heap.size)
    (hm : w.cell? ⟨Bm, 0, none⟩ = some (.map (some mb))) (hmap : w.heap[mb]? = some (mapObj es clock)) (hb : ∀ e ∈ es, e.born < clock) (hnd : (es.map Ent.born).Nodup) :
    SeqStopsK F n Tryz.prog 107 #[ptr Bm] (fun e : Ent => #[Value.int .i64 e.r.num]) KeepsWalks (fun xs => xs.Perm es) (fun _ => True) es.length w := fun l J Jx W hW hJ _ hY h0 =>
  keys1_in F n hf hro hn l Bm mb clock es J Jx hY W hJ ((hW.cell (p := ⟨Bm, 0, none⟩) hBm).trans hm) ((hW.block mb (lt_of_heap hmap)).trans hmap) hb hnd h0

theorem Tryz.infoK : (Tryz.prog.info? 3).map (fun i => (i.zero, i.size, i.bytes)) = some (some (.int .i64 0), 1, 8) := by kernel_rfl

set_option maxRecDepth 100000 in
set_option maxHeartbeats 2000000 in
/-- slices.AppendSeq(nil, seq): a slice of the call's own that holds what came. -/
theorem appendSeq_inK (F : Fence) (n : Nat) (hf : F.fn 121) (hg : F.fn 107) (hro : F.round = none) (hn : 3 ≤ n) (Bm : Nat) (S : List Ent → Prop) (N : Nat) (hN : N ≤ 1000000)
    (w : World) (hs : SeqStopsK F (n - 1) Tryz.prog 107 #[ptr Bm] (fun e : Ent => #[Value.int .i64 e.r.num]) KeepsWalks S (fun _ => True) N w) :
    CallsIn F n Tryz.prog 121 #[.slice none 0 0, .func (.func 107) #[] #[ptr Bm]] w fun e W' =>
      ∃ v vs, e = .returned v ∧ S vs ∧ W'.ownsRow w.heap.size 3 1 v vs.length (vs.map fun e => Value.int .i64 e.r.num) ∧ Below w.heap.size w W' := by
  have h1 : 1 ≤ n := by omega
  obtain ⟨i0, hi, hz0, hz1, hz2⟩ := info_parts Tryz.infoK
  refine callsIn_of_wp_marks Tryz.func121 rfl hf ?_ hro
  simp only [Tryz.ntmps121, List.size_toArray, List.length_cons, List.length_nil, Nat.reduceAdd, Nat.reduceSub, Array.replicate_succ, Array.replicate_zero, List.push_toArray, List.append_toArray, List.nil_append, List.cons_append]
  have HS := Lib.hid hs
  clear hs
  gi_wp2
  have bO := Boxed.new w 24 (.slice none 0 0)
  have hB0 : Below w.heap.size w (w.alloc (.cells #[.slice none 0 0] 24)) := (Below.refl _ w).alloc (Nat.le_refl _) _
  refine wpIn_rangeFunc_ownG hro h1 (gf := 107) (lb := #[ptr Bm]) rfl hg (enters_of Tryz.func107 (by kernel_rfl) rfl)
    (fun l J Jx W' hW hJ hJx hY h0 => HS.out l J Jx W' (hB0.trans (hW.mono hB0.size)) hJ hJx hY h0) walksK_t walksK_b (Below.refl _ _) (fun _ => rfl)
    (fun (pre : List Ent) W => (∃ v, Boxed W w.heap.size 24 v ∧ W.ownsRow w.heap.size 3 1 v pre.length (pre.map fun e : Ent => Value.int .i64 e.r.num) ∧ True) ∧ Below w.heap.size w W)
    (fun _ _ _ => False)
    (OwnFrom.and (Own.from (holdsRow_own w.heap.size w.heap.size 24 3 1 (fun pre : List Ent => pre.length) (fun pre : List Ent => pre.map fun e => Value.int .i64 e.r.num) (fun (_ : List Ent) _ => True)) _) (ownFrom_below (Nat.le_refl _) (by simp)))
    (fun _ _ _ _ _ hs _ _ => hs)
    ⟨⟨_, bO, World.ownsRow_nil _ _ _ _, trivial⟩, hB0⟩
    (fun x : Ent => { tmps := #[.slice none 0 0, .func (.func 107) #[] #[ptr Bm], ptr w.heap.size, undef, .slice none 0 0, Value.int .i64 x.r.num, .func (.func 107) #[] #[ptr Bm], Value.int .i64 x.r.num, undef, undef, undef, undef, undef], defers := [] }) ?assign ?body ?done ?stop
  case assign =>
    intro l x W K hK
    gi_wp2
    exact hK
  case body =>
    rintro l pre x W ⟨⟨v, hv, hrow, _⟩, hB⟩ hlt
    have hc := hv.cell
    gi_wp2_with (gi_at_builtin; refine wpListIn_append_own _ rfl _ _ 24 rfl w.heap.size 3 i0 (.int .i64 0) 1 8 Tryz.underlying24 hi hz0 hz1 hz2 rfl (by decide) _ _ _ rfl (hrow.alloc _) ⟨W.heap.size, 0, none⟩ 1 1 [Value.int .i64 x.r.num] rfl rfl (cell_one_new _ _ _) (by simp [Value.oneCell']) (by unfold maxLen; omega) (by omega) (by have := hB.size; simp; omega) ?_; intro v' w1 hown' hgrow _; obtain ⟨g', cap', rfl⟩ := ownsRow_succ hown'; obtain ⟨hv1, hv2, hr2, hk2, hb2⟩ := hv.appended (by decide) hrow hB.size (Nat.le_refl _) hown' hgrow; have hc1 := hv1.cell; have hf1 := hv1.frozen)
    exact ⟨hk2.from _, hk2.walks, ⟨_, hv2, by simpa using hr2, trivial⟩, hB.trans hb2⟩
  case done =>
    rintro D ys W hD hS ⟨⟨v, hv, hrow, _⟩, hB⟩ hK
    have hc := hv.cell
    gi_wp2
    refine ⟨by simp, .inl ⟨_, _, rfl, run_takeDeferred hK, ?_⟩⟩
    exact ⟨_, results_tmp rfl _ _ _, v, ys, rfl, hS, ownsRow_putObj hrow _ hK rfl, hB.trans (belowK_b (w := w) (Nat.le_refl _) W D _ _ (by simp at hD; omega) hK rfl rfl)⟩
  case stop =>
    rintro D c pre W _ _ h _
    exact h.elim

set_option maxRecDepth 100000 in
/-- slices.Collect(seq). -/
theorem collect_inK (F : Fence) (n : Nat) (hf : F.fn 105) (hf2 : F.fn 121) (hg : F.fn 107) (hro : F.round = none) (hn : 4 ≤ n) (Bm : Nat) (S : List Ent → Prop) (N : Nat) (hN : N ≤ 1000000)
    (w : World) (hs : SeqStopsK F (n - 1 - 1) Tryz.prog 107 #[ptr Bm] (fun e : Ent => #[Value.int .i64 e.r.num]) KeepsWalks S (fun _ => True) N w) :
    CallsIn F n Tryz.prog 105 #[.func (.func 107) #[] #[ptr Bm]] w fun e W' =>
      ∃ v vs, e = .returned v ∧ S vs ∧ W'.ownsRow w.heap.size 3 1 v vs.length (vs.map fun e => Value.int .i64 e.r.num) ∧ Below w.heap.size w W' := by
  have h1 : 1 ≤ n := by omega
  refine callsIn_of_wp Tryz.func105 rfl hf ?_ hro
  simp only [Tryz.ntmps105, List.size_toArray, List.length_cons, List.length_nil, Nat.reduceAdd, Nat.reduceSub, Array.replicate_succ, Array.replicate_zero, List.push_toArray, List.append_toArray, List.nil_append, List.cons_append]
  have HS := Lib.hid hs
  clear hs
  gi_wp2_with (gi_at_call 121; refine (appendSeq_inK F (n - 1) hf2 hg hro (by omega) Bm S N hN _ HS.out).mono ?_; rintro e w' ⟨v, vs, rfl, hS, hrow, hb⟩)
  go_ret
  exact ⟨v, vs, rfl, hS, hrow, hb⟩
/-- The same, without a fence, at maps.Keys of the table's map. -/
theorem collect_anyK (Bm mb clock : Nat) (es : List Ent) (w : World) (hlen : es.length ≤ 1000000) (hm : w.cell? ⟨Bm, 0, none⟩ = some (.map (some mb))) (hmap : w.heap[mb]? = some (mapObj es clock)) (hb : ∀ e ∈ es, e.born < clock) (hnd : (es.map Ent.born).Nodup) :
    Calls Tryz.prog 105 #[.func (.func 107) #[] #[ptr Bm]] w fun e W' =>
      ∃ (v : Value) (vs : List Ent), e = .returned v ∧ vs.Perm es ∧ W'.ownsRow w.heap.size 3 1 v vs.length (vs.map fun e => Value.int .i64 e.r.num) ∧ Below w.heap.size w W' :=
  (callsIn_wide (n := 6)).1 (collect_inK Fence.wide 6 trivial trivial trivial rfl (by omega) Bm _ es.length hlen w
    (keys_stops Fence.wide (6 - 1 - 1) trivial rfl (by omega) Bm mb clock es w (lt_of_cell hm) hm hmap hb hnd))
end Go.Proofs.YticobikhndlejaaGreatDoor
