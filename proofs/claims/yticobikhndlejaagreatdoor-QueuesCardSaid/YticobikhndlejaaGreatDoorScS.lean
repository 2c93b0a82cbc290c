/- Crash by contract. -/
import Derived.Test.YticobikhndlejaaGreatDoorScJ
import Derived.Test.YticobikhndlejaaGreatDoorScM
import Derived.Lib.SliceRun
import Derived.Test.YticobikhndlejaaGreatDoorScQ
import Derived.Test.YticobikhndlejaaGreatDoorScP
namespace Go.Proofs.YticobikhndlejaaGreatDoor
open Go.RowKit Go.Shelf Go.Lib

theorem run_clear_tab {P : Program} {w : World} {T K E mb clock : Nat} {es : List Ent} {ty : TypeId} (hT : P.underlying T = some (.map K E)) (hm : w.heap[mb]? = some (mapObj es clock)) :
    (Builtin.clear_ #[T] ty #[.map (some mb)]).run P w = .ok (.tuple #[]) (w.putObj mb (mapObj [] clock)) := by
  simp only [Builtin.clear_]
  simp [run_underlying hT, getMap_run hm, Result.andThen, setMap_run _ hm]
  simp [mapObj]
set_option maxRecDepth 100000 in
theorem clear_any (tb mb clock : Nat) (last held : Int) (es : List Ent) (w : World) (h : TabB w tb mb clock last held es) :
    Calls Tryz.prog 45 #[ptr tb] w fun x w' => x = .returned (.tuple #[]) ∧ TabB w' tb mb clock last 0 [] ∧ Chg (fun k => k = tb ∨ k = mb) w w' := by
  have c0 := h.c0
  have hm := h.map
  have hne : tb ≠ mb := ne_of_heap h.tab hm (by simp [mapObj])
  have hr := run_clear_tab (P := Tryz.prog) (ty := 0) Tryz.underlying146 hm
  have htb : (w.putObj mb (mapObj [] clock)).heap[tb]? = some (.cells #[.map (some mb), .int .i64 last, .int .i64 held] 148 (0, 0)) := by
    rw [World.putObj_heap_other hne]; exact h.tab
  have k0 : (w.putObj mb (mapObj [] clock)).cell? ⟨tb, 2, none⟩ = some (.int .i64 held) := cell_of htb rfl
  have kf : (w.putObj mb (mapObj [] clock)).frozen? ⟨tb, 2, none⟩ = false := free_of htb
  have hmb := lt_of_heap hm
  have HT := Lib.hid h
  have HB := Lib.hid htb
  clear h htb hm
  go_enter Tryz.func45, Tryz.ntmps45
  go_wp2_with fail
  go_end0
  have hc : Chg (fun k => k = tb ∨ k = mb) w ((w.putObj mb (mapObj [] clock)).setCell ⟨tb, 2, none⟩ (.int .i64 0)) := by
    have h0 : Chg (fun k => k = tb ∨ k = mb) w (w.putObj mb (mapObj [] clock)) := ⟨rfl, rfl, rfl, by simp, fun k _ hk => World.putObj_heap_other fun e => hk (.inr e)⟩
    exact h0.setCell (p := ⟨tb, 2, none⟩) (.inl (.inl rfl)) _
  refine ⟨rfl, ⟨heap_setCell (i := 2) _ HB.out, ?_, (fun e he => by cases he), (fun e he => by cases he), List.nodup_nil, ⟨(fun e he => by cases he), (fun e he => by cases he), List.Pairwise.nil⟩, by simp⟩, hc⟩
  rw [heap_setCell_ne _ (by simpa using hne.symm)]
  exact World.putObj_heap_same hmb

theorem kept_app (rs : List Req) (f : Nat → Bool) : ∀ (a b : List Int) (i : Nat) (d : List Int), St.kept rs (a ++ b) f i d = St.kept rs b f (i + a.length) (St.kept rs a f i d)
  | [], _, _, _ => rfl
  | n :: a, b, i, d => by
    simp only [List.cons_append, St.kept]
    rw [kept_app rs f a b]
    simp only [List.length_cons]
    congr 1; omega
theorem kept_len (rs : List Req) (f : Nat → Bool) : ∀ (a : List Int) (i : Nat) (d : List Int), (St.kept rs a f i d).length = d.length
  | [], _, _ => rfl
  | n :: a, i, d => by
    simp only [St.kept]
    rw [kept_len rs f a]
    split
    · split
      · rfl
      · simp [dput]
    · rfl
/-- The numbers that are to be written, of the first j commands. -/
def wnums (cs : List (Cmd × Value)) (j : Nat) : List Int := (((cs.take j).map (·.1)).filter (·.write)).flatMap (·.nums)
theorem wnums_succ {cs : List (Cmd × Value)} {j : Nat} {c : Cmd × Value} (h : cs[j]? = some c) : wnums cs (j + 1) = wnums cs j ++ (if c.1.write then c.1.nums else []) := by
  obtain ⟨h1, h2⟩ := List.getElem?_eq_some_iff.1 h
  unfold wnums
  rw [List.take_succ_eq_append_getElem h1, h2, List.map_append, List.filter_append, List.flatMap_append]
  congr 1
  cases hw : c.1.write <;> simp [hw]
theorem chg_setCells (b : Nat) : ∀ (vs : List Value) (o : Nat) (w : World), Chg (fun k => k = b) w (w.setCells b o vs)
  | [], _, w => Chg.refl _ w
  | v :: vs, o, _ => ((chg_set (i := o) v)).then (chg_setCells b vs (o + 1) _)
theorem heap_setCellsE (b : Nat) {t : TypeId} : ∀ (vs : List Value) (o : Nat) (w : World) (cur : Array Value), w.heap[b]? = some (.cells cur t (0, 0)) → ∃ cur', (w.setCells b o vs).heap[b]? = some (.cells cur' t (0, 0)) ∧ cur'.size = cur.size
  | [], _, w, cur, h => ⟨cur, h, rfl⟩
  | v :: vs, o, w, cur, h => by
    obtain ⟨cur', h1, h2⟩ := heap_setCellsE b vs (o + 1) _ _ (heap_setCell (i := o) v h)
    exact ⟨cur', h1, by rw [h2]; simp⟩
theorem run_clear_cmds {P : Program} (w : World) (t e ty : TypeId) (zs : Array Value) (ht : P.underlying t = some (.slice e)) (hv : ∀ w, (zeroValue e).run P w = .ok (.agg zs) w) (hz : zs.size = 4) (h1 : ∀ v ∈ zs, v.oneCell' = true) (b n c : Nat) (hn : 0 < n) {cur : Array Value} {et : TypeId}
    (hc : w.heap[b]? = some (.cells cur et (0, 0))) (hs : n * 4 ≤ cur.size) : ∃ L : List Value,
    (Builtin.clear_ #[t] ty #[.slice (some ⟨b, 0, none⟩) n c]).run P w = .ok (.tuple #[]) (w.setCells b 0 L) := by
  refine ⟨(Builtin.zeroCells zs n).toList, ?_⟩
  have hlen : (Builtin.zeroCells zs n).toList.length = n * 4 := by simp [Builtin.zeroCells, hz]
  have hst := run_storeCells_cells (P := P) b 0 (Builtin.zeroCells zs n).toList 0 w (fun j hj => by
    rw [hlen] at hj
    rw [cell_of hc (i := 0 + 0 + j) (v := cur[0 + 0 + j]'(by omega)) (Array.getElem?_eq_getElem _)]; rfl) (fun j _ => free_of hc) (by
    intro v hv'
    simp only [Builtin.zeroCells, Array.toList_map, List.mem_map] at hv'
    obtain ⟨i, _, rfl⟩ := hv'
    have hi : i % zs.size < zs.size := Nat.mod_lt _ (by omega)
    rw [getElem!_pos zs (i % zs.size) hi]
    exact h1 _ (Array.getElem_mem hi))
  simp only [Nat.add_zero] at hst
  obtain ⟨m, rfl⟩ : ∃ m, n = m + 1 := ⟨n - 1, by omega⟩
  simp [Builtin.clear_, run_underlying ht, hv, hst, Value.cells]
/-- A row of bools. -/
def BRow (w : World) (v : Value) (l : List Bool) : Prop := w.ownsRow 0 4 1 v l.length (l.map Value.bool)
theorem BRow.cell {w : World} {a : Option Addr} {n c : Nat} {l : List Bool} (h : BRow w (.slice a n c) l) {i : Nat} (hi : i < l.length) : ∃ g, a = some ⟨g, 0, none⟩ ∧ n = l.length ∧ w.cell? ⟨g, i, none⟩ = some (.bool (l.getD i false)) := by
  rcases h.2 with ⟨e, h0⟩ | ⟨g, cap, cur, e, hb, h3, h4, h5, h6, h7⟩
  · omega
  · simp only [Value.slice.injEq] at e
    obtain ⟨rfl, rfl, rfl⟩ := e
    refine ⟨g, rfl, rfl, cell_of h3 ?_⟩
    have h1 : (l.map Value.bool)[i]? = some (.bool (l.getD i false)) := by rw [List.getElem?_map, List.getD_eq_getElem?_getD, List.getElem?_eq_getElem hi]; rfl
    rw [← h7, List.getElem?_take_of_lt (by omega)] at h1
    rw [← Array.getElem?_toList]; exact h1
theorem find_numC {es : List Ent} (hok : EntsOk es) {e : Ent} (he : e ∈ es) : (es.map (·.r)).find? (fun r => r.num == e.r.num) = some e.r := by
  have hu : ∀ x ∈ es, x.r.num = e.r.num → x = e := fun x hx hn => num_inj hok.nodup hx he hn
  cases hf : (es.map (·.r)).find? (fun r => r.num == e.r.num) with
  | none =>
    have := List.find?_eq_none.1 hf e.r (List.mem_map_of_mem he)
    simp at this
  | some r =>
    have h1 := List.mem_of_find?_eq_some hf
    have h2 := List.find?_some hf
    obtain ⟨x, hx, rfl⟩ := List.mem_map.1 h1
    rw [hu x hx (by simpa using h2)]
theorem qCells_fl (tb : Nat) (fv fv' : Value) (s : Sta) : (qCells tb fv s).setIfInBounds 2 fv' = qCells tb fv' s := by simp [qCells]
theorem qCells_hd (tb : Nat) (fv : Value) (s : Sta) : (qCells tb fv s).setIfInBounds 4 (.int .i64 0) = qCells tb fv { s with head := 0 } := by simp [qCells]
theorem own_len (a : Option Addr) (n m c : Nat) : (Value.slice a n c).ownBlock = (Value.slice a m c).ownBlock := by cases a <;> rfl
/-- What is laid on the disk. -/
def dSta (s : Sta) (D : List Int) : Sta := { s with disk := D }

set_option maxRecDepth 100000 in
set_option maxHeartbeats 4000000 in
theorem crash_any (q : Nat) (s : Sta) (F : Nat → Prop) (w : World) (v : Value) (l : List Bool) (h : QAt w q s F) (hB : BRow w v l) (hv : ∀ k, v.ownBlock = some k → ¬ F k)
    (hfly : ∀ c ∈ s.cs, c.1.write = true → ∀ n ∈ c.1.nums, ∃ e ∈ s.es, e.r.num = n) (hnl : ∀ c ∈ s.cs, c.1.nums.length ≤ 1000000) (hcl : s.cs.length ≤ 1000) :
    Calls Tryz.prog 24 #[ptr q, v] w fun x w' => x = .returned (.tuple #[]) ∧
      QAt w' q { s with es := [], held := 0, cs := [], head := 0, disk := St.kept (s.es.map (·.r)) (wnums s.cs s.cs.length) (fun i => l.getD i false) 0 s.disk } F ∧ Chg F w w' := by
  obtain ⟨tb, mb, clock, fv, hq, hF⟩ := h
  obtain ⟨fa, fc, rfl⟩ := own_slice hq.fl
  obtain ⟨va, vc, rfl⟩ := own_slice hB
  have c2 := hq.c2
  obtain ⟨n, hn⟩ : ∃ n, s.cs.length = n := ⟨_, rfl⟩
  rw [hn] at c2
  have hqF : F q := hF q (.inl rfl)
  have HQ := Lib.hid hq
  have HF := Lib.hid hF
  have HB := Lib.hid hB
  have HV := Lib.hid hv
  have HFL := Lib.hid hfly
  have HNL := Lib.hid hnl
  have hD0 : Hid (dSta s s.disk = s) := Lib.hid rfl
  have hlen0 := hq.disk
  clear hq hF hB hv hfly hnl
  go_enter Tryz.func24, Tryz.ntmps24
  go_wp2_with fail
  go_loopg [4, 15] n (fun k nv i wr => ∃ (j : Nat), k = n - j ∧ j ≤ n ∧ i = .int .i64 j ∧ nv = .int .i64 (wnums s.cs j).length ∧ Hid (QB wr q tb mb clock (.slice fa s.cs.length fc) (dSta s (St.kept (s.es.map (·.r)) (wnums s.cs j) (fun i => l.getD i false) 0 s.disk)) ∧ Chg (fun k => k = q) w wr) ∧ (wnums s.cs j).length ≤ 1000000 * j)
  case atStart => exact ⟨0, by simp, by omega, rfl, rfl, Lib.hid ⟨HQ.out, Chg.refl _ _⟩, by simp [wnums]⟩
  case round =>
    obtain ⟨j, rfl, hj, rfl, rfl, hQ, hle⟩ := hrel
    by_cases hlt : j < n
    · have hltI : (j : Int) < (n : Int) := by omega
      obtain ⟨⟨c, cv⟩, hc⟩ : ∃ c, s.cs[j]? = some c := ⟨_, List.getElem?_eq_getElem (by omega)⟩
      have hcm : (c, cv) ∈ s.cs := List.mem_of_getElem? hc
      have hrow := hQ.out.1.rows _ hcm
      obtain ⟨ra, rc, rfl⟩ : ∃ ra rc, cv = .slice ra c.nums.length rc := own_slice hrow
      obtain ⟨g, cap, e, _, hgl, hcell⟩ := cmd_cells hQ.out.1.fl hc
      simp only [Value.slice.injEq] at e
      obtain ⟨rfl, _, rfl⟩ := e
      have p0 : wr.cell? ⟨g, j * 4, none⟩ = some (.bool c.write) := hcell 0 _ rfl
      have p1 : wr.cell? ⟨g, j * 4 + 1, none⟩ = some (.int .i64 c.page) := hcell 1 _ rfl
      have p2 : wr.cell? ⟨g, j * 4 + 2, none⟩ = some (.int .i64 c.count) := hcell 2 _ rfl
      have p3 : wr.cell? ⟨g, j * 4 + 3, none⟩ = some (.slice ra c.nums.length rc) := hcell 3 _ rfl
      have hsucc := wnums_succ hc
      have HC := Lib.hid (And.intro hcm hsucc)
      have HR := Lib.hid hrow
      clear hcell hc hcm hsucc hrow
      cases hcw : c.write with
      | false =>
        rw [hcw] at p0
        go_wp2_with fail
        go_roundg (n - (j + 1))
        case measure => omega
        case rel =>
          have hw1 : wnums s.cs (j + 1) = wnums s.cs j := by rw [HC.out.2, hcw]; simp
          exact ⟨j + 1, rfl, by omega, by go_num, by rw [hw1], Lib.hid (by rw [hw1]; exact ⟨hQ.out.1.kept ((Chg.refl (fun _ => False) wr).alloc _) fun _ _ x => x, hQ.out.2.alloc _⟩), by rw [hw1]; omega⟩
      | true =>
        rw [hcw] at p0
        have hw1 : wnums s.cs (j + 1) = wnums s.cs j ++ c.nums := by rw [HC.out.2, hcw]; simp
        have HW1 := Lib.hid hw1
        have hnl := HNL.out _ HC.out.1
        have hfly := HFL.out _ HC.out.1 hcw
        have HFLY := Lib.hid hfly
        obtain ⟨m, hm⟩ : ∃ m, c.nums.length = m := ⟨_, rfl⟩
        obtain ⟨b0, hb0⟩ : ∃ b0, (wnums s.cs j).length = b0 := ⟨_, rfl⟩
        rw [hm] at p3
        simp only at hnl
        rw [hm] at hnl
        have HM := Lib.hid hm
        have HB0 := Lib.hid hb0
        rw [hb0]
        rw [hb0] at hle
        clear hw1 hfly hm hb0
        go_wp2_with fail
        have hQ1 : QB (wr.alloc (.cells #[.bool true, .int .i64 c.page, .int .i64 c.count, .slice ra m rc] 48)) q tb mb clock (.slice (some ⟨g, 0, none⟩) s.cs.length fc) (dSta s (St.kept (s.es.map (·.r)) (wnums s.cs j) (fun i => l.getD i false) 0 s.disk)) ∧ Chg (fun k => k = q) w (wr.alloc (.cells #[.bool true, .int .i64 c.page, .int .i64 c.count, .slice ra m rc] 48)) := ⟨hQ.out.1.kept ((Chg.refl (fun _ => False) wr).alloc _) fun _ _ x => x, hQ.out.2.alloc _⟩
        have HQ1 := Lib.hid hQ1
        clear hQ1
        obtain ⟨W0, rfl⟩ : ∃ x, x = wr := ⟨_, rfl⟩
        go_loopg [4, 25] m (fun kk nv iv wx => ∃ (i k : Nat), kk = m - i ∧ i ≤ m ∧ k = b0 + i ∧ iv = .int .i64 i ∧ nv = .int .i64 k ∧ Hid (QB wx q tb mb clock (.slice (some ⟨g, 0, none⟩) s.cs.length fc) (dSta s (St.kept (s.es.map (·.r)) (wnums s.cs j ++ c.nums.take i) (fun i => l.getD i false) 0 s.disk)) ∧ Chg (fun k => k = q) w wx))
        case atStart => exact ⟨0, b0, by simp, by omega, rfl, rfl, rfl, Lib.hid (by simpa using HQ1.out)⟩
        case round =>
          obtain ⟨i, k, rfl, hi, hki, rfl, rfl, hQi⟩ := hrel
          have hk1 : k ≤ 1001000000 := by omega
          by_cases hilt : i < m
          · have hiltI : (i : Int) < (m : Int) := by omega
            have hnum : i < c.nums.length := by rw [HM.out]; exact hilt
            obtain ⟨num, hnumE⟩ : ∃ num, c.nums[i]? = some num := ⟨_, List.getElem?_eq_getElem hnum⟩
            have hrow : wr.ownsRow 0 3 1 (.slice ra c.nums.length rc) c.nums.length (c.nums.map fun n => Value.int .i64 n) := hQi.out.1.rows _ HC.out.1
            rw [HM.out] at hrow
            rcases hrow.2 with ⟨e, h0⟩ | ⟨rg, cap, cur, e, _, r3, r4, r5, r6, r7⟩
            · omega
            simp only [Value.slice.injEq] at e
            obtain ⟨rfl, _, rfl⟩ := e
            have hcell : wr.cell? ⟨rg, i, none⟩ = some (.int .i64 num) := cell_of r3 (by
              have h1 : (c.nums.map fun n => Value.int .i64 n)[i]? = some (.int .i64 num) := by rw [List.getElem?_map, hnumE]; rfl
              rw [← r7, List.getElem?_take_of_lt (by omega)] at h1
              rw [← Array.getElem?_toList]; exact h1)
            have HN := Lib.hid hnumE
            clear hrow r3 r4 r5 r6 r7 hnumE hnum
            have HKI := Lib.hid hki
            have htake : c.nums.take (i + 1) = c.nums.take i ++ [num] := by
              obtain ⟨h1, h2⟩ := List.getElem?_eq_some_iff.1 HN.out
              rw [List.take_succ_eq_append_getElem h1, h2]
            have HT := Lib.hid htake
            have hkept : ∀ D', St.kept (s.es.map (·.r)) (wnums s.cs j ++ c.nums.take (i + 1)) (fun i => l.getD i false) 0 s.disk = D' ↔ St.kept (s.es.map (·.r)) [num] (fun i => l.getD i false) k (St.kept (s.es.map (·.r)) (wnums s.cs j ++ c.nums.take i) (fun i => l.getD i false) 0 s.disk) = D' := fun D' => by
              rw [HT.out, ← List.append_assoc, kept_app, Nat.zero_add, List.length_append, List.length_take, HB0.out, HM.out, Nat.min_eq_left hi, ← HKI.out]
            have HKP := Lib.hid hkept
            clear hki htake hkept
            by_cases hbl : k < l.length
            · have hblI : (k : Int) < (l.length : Int) := by omega
              have hk0I : (0 : Int) ≤ (k : Int) := by omega
              have hBw : BRow wr (.slice va l.length vc) l := ownsRow_chg HB.out hQi.out.2 fun b hb hh => HV.out b hb (hh ▸ hqF)
              obtain ⟨kg, rfl, _, hkc⟩ := hBw.cell hbl
              cases hf : l.getD k false with
              | false =>
                rw [hf] at hkc
                have HFv := Lib.hid hf
                clear hf hBw
                go_wp2_with fail
                go_roundg (m - (i + 1))
                case measure => omega
                case rel => exact ⟨i + 1, k + 1, rfl, by omega, by rw [HKI.out]; omega, by go_num, by go_num, Lib.hid (by rw [(HKP.out _).2 (show St.kept _ [num] _ k _ = _ from by simp only [St.kept]; exact if_neg (by rw [HFv.out]; decide))]; exact hQi.out)⟩
              | true =>
                rw [hf] at hkc
                have HFv := Lib.hid hf
                clear hf hBw
                obtain ⟨e, hee, hen⟩ := HFLY.out num (List.mem_of_getElem? HN.out)
                have t1 := hQi.out.1.c1
                subst hen
                obtain ⟨D, hD⟩ : ∃ D, St.kept (s.es.map (·.r)) (wnums s.cs j ++ c.nums.take i) (fun i => l.getD i false) 0 s.disk = D := ⟨_, rfl⟩
                rw [hD] at hQi
                have HD := Lib.hid hD
                have HEE := Lib.hid hee
                clear hD
                go_wp2_with fail
                refine (get_yes tb mb clock s.last s.held s.es wr hQi.out.1.tab e HEE.out).mono ?_
                rintro x w2 ⟨rfl, rfl⟩
                have hQ2 := hQi.out.1
                have hR : ReqB w2 e.p e.r := hQ2.tab.reqs e HEE.out
                have hpg := hQ2.tab.ok.page e HEE.out
                obtain ⟨pg, hpgE⟩ : ∃ pg : Nat, e.r.page = (pg : Int) := ⟨e.r.page.toNat, by omega⟩
                have hL : LandB w2 q tb (.slice (some ⟨g, 0, none⟩) s.cs.length fc) (dSta s D) e pg (dget D e.r.page).a (dget D e.r.page).b (dget D e.r.page).c (dget D e.r.page).d := ⟨hQ2.que, hR, hpgE, by omega, hQ2.disk, rfl⟩
                obtain ⟨l0, l1, l2, l3⟩ := hL.disk
                have hp0 : (0 : Int) ≤ (pg : Int) := by omega
                have hp1 : (pg : Int) < 16 := by omega
                have hne := hQ2.ne_qp HEE.out
                have hne2 := hne.symm
                have b2 : w2.cell? ⟨e.p, 2, none⟩ = some (.int .i64 pg) := by have := hR.at.c2; rw [← hpgE]; exact this
                have b3 : w2.cell? ⟨e.p, 3, none⟩ = some (.int .u8 e.r.data.a) := hR.at.c3
                have b4 : w2.cell? ⟨e.p, 3 + 1, none⟩ = some (.int .u8 e.r.data.b) := hR.at.c4
                have b5 : w2.cell? ⟨e.p, 3 + 2, none⟩ = some (.int .u8 e.r.data.c) := hR.at.c5
                have b6 : w2.cell? ⟨e.p, 3 + 3, none⟩ = some (.int .u8 e.r.data.d) := hR.at.c6
                have df : ∀ i, w2.frozen? ⟨q, i, none⟩ = false := fun i => free_of hQ2.que
                obtain ⟨W2, hW2⟩ : ∃ W2, ((((w2.setCell ⟨q, 5 + pg * 4, none⟩ (.int .u8 e.r.data.a)).setCell ⟨q, 5 + pg * 4 + 1, none⟩ (.int .u8 e.r.data.b)).setCell ⟨q, 5 + pg * 4 + 2, none⟩ (.int .u8 e.r.data.c)).setCell ⟨q, 5 + pg * 4 + 3, none⟩ (.int .u8 e.r.data.d)).drew = W2 := ⟨_, rfl⟩
                have hc2 : Chg (fun k => k = q) w2 W2 := by rw [← hW2]; exact ((((chg_set _).then (chg_set _)).then (chg_set _)).then (chg_set _)).drew
                have hq2 : W2.heap[q]? = some (.cells (qCells tb (.slice (some ⟨g, 0, none⟩) s.cs.length fc) (dSta s (dput D pg e.r.data))) 89 (0, 0)) := by
                  rw [← hW2, show dSta s (dput D pg e.r.data) = { (dSta s D) with disk := dput (dSta s D).disk pg e.r.data } from rfl, ← qCells_dput]
                  exact heap_setCell (i := 5 + pg * 4 + 3) _ (heap_setCell (i := 5 + pg * 4 + 2) _ (heap_setCell (i := 5 + pg * 4 + 1) _ (heap_setCell (i := 5 + pg * 4) _ hQ2.que)))
                have hQ3 := hQ2.ques (dSta s (dput D pg e.r.data)) rfl rfl rfl rfl (by simp only [dSta, dput, List.length_set]; exact hQ2.disk) hq2 hc2
                have hfn : (s.es.map (·.r)).find? (fun r => r.num == e.r.num) = some e.r := find_numC hQ2.tab.ok HEE.out
                have HQ3 := Lib.hid (And.intro hQ3 (hQi.out.2.then hc2))
                have HFN := Lib.hid hfn
                have HPG := Lib.hid hpgE
                have HW2 := Lib.hid hW2
                clear hW2 hQ2 hR hL hpg hc2 hq2 hQ3 hfn hpgE
                go_wp2_with fail
                go_region_held3 (fun w' => w'.cell? ⟨e.p, 2, none⟩ = some (.int .i64 pg) ∧ w'.cell? ⟨e.p, 3, none⟩ = some (.int .u8 e.r.data.a) ∧ w'.cell? ⟨e.p, 3 + 1, none⟩ = some (.int .u8 e.r.data.b) ∧ w'.cell? ⟨e.p, 3 + 2, none⟩ = some (.int .u8 e.r.data.c) ∧ w'.cell? ⟨e.p, 3 + 3, none⟩ = some (.int .u8 e.r.data.d)) (go_keep) (fail)
                rw [HW2.out]
                go_wp2_with fail
                go_roundg (m - (i + 1))
                case measure => omega
                case rel => exact ⟨i + 1, k + 1, rfl, by omega, by rw [HKI.out]; omega, by go_num, by go_num, Lib.hid (by rw [(HKP.out _).2 (show St.kept _ [e.r.num] _ k _ = dput D pg e.r.data from by simp only [St.kept, HD.out]; rw [if_pos HFv.out, HFN.out]; show dput D e.r.page e.r.data = _; rw [HPG.out])]; exact HQ3.out)⟩
            · have hblI : ¬ (k : Int) < (l.length : Int) := by omega
              go_wp2_with fail
              go_roundg (m - (i + 1))
              case measure => omega
              case rel => exact ⟨i + 1, k + 1, rfl, by omega, by rw [HKI.out]; omega, by go_num, by go_num, Lib.hid (by rw [(HKP.out _).2 (show St.kept _ [num] _ k _ = _ from by simp only [St.kept]; exact if_neg (by rw [List.getD_eq_getElem?_getD, List.getElem?_eq_none (by omega)]; decide))]; exact hQi.out)⟩
          · obtain rfl : i = m := by omega
            have hall : c.nums.take i = c.nums := List.take_of_length_le (by rw [HM.out]; exact Nat.le_refl _)
            rw [hall] at hQi
            clear hall
            go_wp2_with fail
            go_roundg (n - (j + 1))
            case measure => omega
            case rel => exact ⟨j + 1, rfl, by omega, by go_num, by rw [HW1.out, List.length_append, HB0.out, HM.out, hki], Lib.hid (by rw [HW1.out]; exact hQi.out), by rw [HW1.out, List.length_append, HB0.out, HM.out]; omega⟩
    · obtain rfl : j = n := by omega
      obtain ⟨D, hD⟩ : ∃ D, St.kept (s.es.map (·.r)) (wnums s.cs j) (fun i => l.getD i false) 0 s.disk = D := ⟨_, rfl⟩
      rw [hD] at hQ
      have HD := Lib.hid hD
      clear hD
      have hfl : wr.ownsRow 0 48 4 (.slice fa j fc) j ((dSta s D).cs.flatMap cmdCells) := by
        have h9 := hQ.out.1.fl
        have hcs : (dSta s D).cs.length = s.cs.length := rfl
        rw [hcs, hn] at h9
        exact h9
      have hclr : ∃ W1, (Builtin.clear_ #[55] 0 #[.slice fa j fc]).run Tryz.prog wr = .ok (.tuple #[]) W1 ∧ W1.ownsRow 0 48 4 (.slice fa 0 fc) 0 [] ∧ Chg (fun k => (Value.slice fa j fc).ownBlock = some k) wr W1 := by
        rcases hfl.2 with ⟨e, h0⟩ | ⟨g, cap, cur, e, _, r3, r4, r5, r6, r7⟩
        · simp only [Value.slice.injEq] at e
          obtain ⟨rfl, _, rfl⟩ := e
          refine ⟨wr, ?_, World.ownsRow_nil _ _ _ _, Chg.refl _ _⟩
          rw [h0]
          simp [Builtin.clear_, run_underlying Tryz.underlying55]
        · simp only [Value.slice.injEq] at e
          obtain ⟨rfl, _, rfl⟩ := e
          by_cases h0 : j = 0
          · subst h0
            refine ⟨wr, by simp [Builtin.clear_, run_underlying Tryz.underlying55], ⟨rfl, .inr ⟨g, fc, cur, rfl, Nat.zero_le _, r3, Nat.zero_le _, r5, r6, by simp⟩⟩, Chg.refl _ _⟩
          · obtain ⟨L, hL⟩ := run_clear_cmds (P := Tryz.prog) wr 55 48 0 #[.bool false, .int .i64 0, .int .i64 0, .slice none 0 0] Tryz.underlying55 Tryz.zeroValue48 rfl (by simp [Value.oneCell']) g j fc (by omega) r3 (by omega)
            obtain ⟨cur', h1, h2⟩ := heap_setCellsE g L 0 wr cur r3
            exact ⟨_, hL, ⟨rfl, .inr ⟨g, fc, cur', rfl, Nat.zero_le _, h1, Nat.zero_le _, r5, by rw [h2, r6], by simp⟩⟩, (chg_setCells g L 0 wr).mono fun k _ hk => by rw [hk]; rfl⟩
      obtain ⟨W1, hr1, hw1, hc1⟩ := hclr
      have hne : ∀ k, (Value.slice fa j fc).ownBlock = some k → q ≠ k ∧ tb ≠ k ∧ mb ≠ k ∧ ∀ e ∈ s.es, e.p ≠ k := fun k hk => by
        obtain ⟨cur, hcur⟩ := own_heap hfl hk
        exact ⟨ne_of_heap hQ.out.1.que hcur (by simp), ne_of_heap hQ.out.1.tab.tab hcur (by simp), ne_of_heap hQ.out.1.tab.map hcur (by simp [mapObj]), fun e he => ne_of_heap (hQ.out.1.tab.reqs e he) hcur (by simp)⟩
      have hq1 : W1.heap[q]? = some (.cells (qCells tb (.slice fa j fc) (dSta s D)) 89 (0, 0)) := by
        rw [hc1.block q (lt_of_heap hQ.out.1.que) fun hk => (hne q hk).1 rfl, hQ.out.1.que, hn]
      have c2 : W1.cell? ⟨q, 2, none⟩ = some (.slice fa j fc) := cell_of hq1 rfl
      have f2 : W1.frozen? ⟨q, 2, none⟩ = false := free_of hq1
      have c1 : (W1.setCell ⟨q, 2, none⟩ (.slice fa 0 fc)).cell? ⟨q, 1, none⟩ = some (ptr tb) := cell_of (heap_setCell (i := 2) _ hq1) (by rw [qCells_fl]; rfl)
      have c0 := (hQ.out.1).c2
      rw [hn] at c0
      have hc2 : Chg (fun k => k = q ∨ (Value.slice fa j fc).ownBlock = some k) wr (W1.setCell ⟨q, 2, none⟩ (.slice fa 0 fc)) := (hc1.mono fun k _ hk => .inr hk).then ((chg_set _).mono fun k _ hk => .inl hk)
      have hT2 := hQ.out.1.tab.kept hc2 (fun hk => hk.elim (fun e => hQ.out.1.ne_qt e.symm) fun e => (hne tb e).2.1 rfl) (fun hk => hk.elim (fun e => hQ.out.1.ne_qm e.symm) fun e => (hne mb e).2.2.1 rfl) (fun e he hk => hk.elim (fun x => hQ.out.1.ne_qp he x.symm) fun x => (hne e.p x).2.2.2 e he rfl)
      have HT2 := Lib.hid hT2
      have HQ1 := Lib.hid hq1
      have HW1 := Lib.hid hw1
      have HC2 := Lib.hid hc2
      have HNE := Lib.hid hne
      clear hT2 hq1 hw1 hc2 hne hfl hc1
      go_wp2_with fail
      refine (clear_any tb mb clock s.last s.held s.es _ HT2.out).mono ?_
      rintro x w3 ⟨rfl, hT3, hc3⟩
      have hq3 : w3.heap[q]? = some (.cells (qCells tb (.slice fa 0 fc) (dSta s D)) 89 (0, 0)) := by
        rw [hc3.block q (by simpa using lt_of_heap HQ1.out) (fun hk => hk.elim (fun e => hQ.out.1.ne_qt e) fun e => hQ.out.1.ne_qm e), heap_setCell (i := 2) _ HQ1.out, qCells_fl]
      have k4 : w3.cell? ⟨q, 4, none⟩ = some (.int .i64 s.head) := cell_of hq3 rfl
      have kf4 : w3.frozen? ⟨q, 4, none⟩ = false := free_of hq3
      have HQ3 := Lib.hid hq3
      have HT3 := Lib.hid hT3
      have HC3 := Lib.hid hc3
      clear hq3 hT3 hc3
      go_wp2_with fail
      go_end0
      have hfin : (w3.setCell ⟨q, 4, none⟩ (.int .i64 0)).heap[q]? = some (.cells (qCells tb (.slice fa 0 fc) { s with es := [], held := 0, cs := [], head := 0, disk := D }) 89 (0, 0)) := by
        rw [heap_setCell (i := 4) _ HQ3.out, qCells_hd]; rfl
      have hQS := hQ.out.1
      refine ⟨rfl, ⟨tb, mb, clock, .slice fa 0 fc, ⟨by rw [hn, HD.out]; exact hfin, HT3.out.kept (S := fun k => k = q) (chg_set _) (fun e => hQS.ne_qt e.symm) (fun e => hQS.ne_qm e.symm) (fun e he => by cases he), ?_, (fun c hc => by cases hc), by rw [hn, HD.out]; exact hQS.disk⟩, fun k hk => HF.out k ?_⟩, ?_⟩
      · refine ownsRow_chg (ownsRow_chg HW1.out (S := fun k => k = q ∨ k = tb ∨ k = mb) (((chg_set _).mono fun k _ hk => .inl hk).then (HC3.out.mono fun k _ hk => .inr hk)) fun k hk hh => ?_) (S := fun k => k = q) (chg_set _) fun k hk hh => (HNE.out k ((own_len _ _ _ _).trans hk)).1 hh.symm
        obtain ⟨n1, n2, n3, _⟩ := HNE.out k ((own_len _ _ _ _).trans hk)
        rcases hh with e | e | e
        · exact n1 e.symm
        · exact n2 e.symm
        · exact n3 e.symm
      · rcases hk with h | h | h | h | ⟨e, he, h⟩ | ⟨c, hc, h⟩
        · exact .inl h
        · exact .inr (.inl h)
        · exact .inr (.inr (.inl h))
        · exact .inr (.inr (.inr (.inl ((own_len _ _ _ _).trans h))))
        · cases he
        · cases hc
      · have h1 : Chg F w wr := hQ.out.2.mono fun k _ hk => hk ▸ hqF
        have h2 : Chg F w (W1.setCell ⟨q, 2, none⟩ (.slice fa 0 fc)) := h1.then (HC2.out.mono fun k _ hk => hk.elim (fun e => e ▸ hqF) fun e => HF.out k (.inr (.inr (.inr (.inl ((own_len _ _ _ _).trans e))))))
        have h3 : Chg F w w3 := h2.then (HC3.out.mono fun k _ hk => hk.elim (fun e => HF.out k (.inr (.inl e))) fun e => HF.out k (.inr (.inr (.inl e))))
        exact h3.setCell (p := ⟨q, 4, none⟩) (.inl hqF) _
end Go.Proofs.YticobikhndlejaaGreatDoor

/- The statements' own worlds: a queue and what was asked of it, in memory that the law has laid itself. -/
namespace Go.Proofs.YticobikhndlejaaGreatDoor
open Go.RowKit Go.Shelf Go.Lib

/-- A world of the law's own, laid behind block B. -/
structure KOwn (w0 w : World) (wo : Nat) (t : St) (n : Nat) : Prop where
  ex : ∃ q rv F rs, KB w wo q rv F t rs ∧ rs.length = n ∧ ∀ k, KFoot wo rv F k → w0.heap.size ≤ k
  below : Below w0.heap.size w0 w
theorem KOwn.of {w0 w w' : World} {wo q : Nat} {rv rv' : Value} {F F' : Nat → Prop} {t' : St} {rs' : List KReq} {n' : Nat} (hb : Below w0.heap.size w0 w) (hf : ∀ k, KFoot wo rv F k → w0.heap.size ≤ k)
    (h1 : KB w' wo q rv' F' t' rs') (hn : rs'.length = n') (h2 : ∀ k, KFoot wo rv' F' k → KFoot wo rv F k ∨ w.heap.size ≤ k) (h3 : Chg (KFoot wo rv F) w w') : KOwn w0 w' wo t' n' :=
  ⟨⟨q, rv', F', rs', h1, hn, fun k hk => (h2 k hk).elim (hf k) fun h => Nat.le_trans hb.size h⟩, hb.trans (h3.to_below hf hb.size)⟩
/-- ask of a read, ask of a write, in these words. -/
theorem ask_r {w0 w : World} {wo : Nat} {t : St} {n : Nat} (h : KOwn w0 w wo t n) (hg : ErrVar w0) (hk : t.Ok) (hs : t.Small) (hh : t.held < 40) (page v : Int) (hp : 0 ≤ page ∧ page < 16) (hl : t.last = n) :
    Calls Tryz.prog 14 #[ptr wo, .bool false, .int .i64 page, .int .u8 v] w fun x w' => x = .returned (.bool true) ∧ KOwn w0 w' wo (t.add false page ⟨0, 0, 0, 0⟩) (n + 1) := by
  obtain ⟨q, rv, F, rs, h1, h2, h3⟩ := h.ex
  have h0 : 0 < w0.heap.size := lt_of_cell hg
  refine (ask_read wo q rv F t rs w page v h1 (hg.chg (chgB h.below fun _ => False) fun x => x) (fun x => by have := h3 0 (.inl x); omega) (by have := h3 wo (.inr (.inl rfl)); omega) (fun x => by have := h3 0 (.inr (.inr x)); omega) hk hs hh hp (by rw [hl, h2])).mono ?_
  rintro x w' ⟨rfl, rv', F', e1, e2, e3⟩
  exact ⟨rfl, KOwn.of h.below h3 e1 (by simp [h2]) e2 e3⟩
theorem ask_w {w0 w : World} {wo : Nat} {t : St} {n : Nat} (h : KOwn w0 w wo t n) (hg : ErrVar w0) (hk : t.Ok) (hs : t.Small) (hh : t.held < 40) (page v : Int) (hp : 0 ≤ page ∧ page < 16) (hl : t.last = n) (hv : 0 ≤ v ∧ v ≤ 255) :
    Calls Tryz.prog 14 #[ptr wo, .bool true, .int .i64 page, .int .u8 v] w fun x w' => x = .returned (.bool true) ∧ KOwn w0 w' wo (t.add true page (askD v n)) (n + 1) := by
  obtain ⟨q, rv, F, rs, h1, h2, h3⟩ := h.ex
  have h0 : 0 < w0.heap.size := lt_of_cell hg
  refine (ask_write wo q rv F t rs w page v h1 (hg.chg (chgB h.below fun _ => False) fun x => x) (fun x => by have := h3 0 (.inl x); omega) (by have := h3 wo (.inr (.inl rfl)); omega) (fun x => by have := h3 0 (.inr (.inr x)); omega) hk hs hh hp (by rw [hl, h2]) hv).mono ?_
  rintro x w' ⟨rfl, rv', F', e1, e2, e3⟩
  rw [h2] at e1
  exact ⟨rfl, KOwn.of h.below h3 e1 (by simp [h2]) e2 e3⟩
theorem begun_k (d : Int) (w : World) (hg : ErrVar w) (hd : -9223372036854775808 ≤ d ∧ d ≤ 9223372036854775807) :
    Calls Tryz.prog 12 #[.int .i64 d] w fun x w' => ∃ wo, x = .returned (.tuple #[ptr wo, .bool true]) ∧ KOwn w w' wo (St.new (1 + pickI d 4).toNat) 0 := by
  refine (begun_any d w hg hd).mono ?_
  rintro x w' ⟨wo, q, F, rfl, h1, h2, h3, h4⟩
  refine ⟨wo, rfl, ⟨q, _, F, [], h1, rfl, fun k hk => ?_⟩, h4⟩
  rcases hk with h | h | h
  · exact h2 k h
  · omega
  · cases h
/-- The queue's own calls. -/
theorem KOwn.cell {w0 w : World} {wo : Nat} {t : St} {n : Nat} (h : KOwn w0 w wo t n) : ∃ q, w.cell? ⟨wo, 0, none⟩ = some (ptr q) ∧ ∃ F, QT w q t F ∧ (∀ k, F k → w0.heap.size ≤ k) ∧
    ∀ w' t' F', QT w' q t' F' → (∀ k, F' k → F k ∨ w.heap.size ≤ k) → Chg F w w' → KOwn w0 w' wo t' n := by
  obtain ⟨q, rv, F, rs, h1, h2, h3⟩ := h.ex
  refine ⟨q, h1.c0, F, h1.que, fun k hk => h3 k (.inl hk), fun w' t' F' hq hF hc => ?_⟩
  have hK := h1.que' hc hq hF
  exact KOwn.of h.below h3 hK h2 (fun k hk => by
    rcases hk with h | h | h
    · exact (hF k h).imp .inl id
    · exact .inl (.inr (.inl h))
    · exact .inl (.inr (.inr h))) (hc.mono fun k _ hk => .inl hk)

theorem KOwn.err {w0 w : World} {wo : Nat} {t : St} {n : Nat} (h : KOwn w0 w wo t n) (hg : ErrVar w0) : ErrVar w := hg.chg (chgB h.below fun _ => False) fun x => x
theorem KOwn.later {w0 w w' : World} {wo : Nat} {t : St} {n : Nat} (h : KOwn w0 w wo t n) (hb : Below w.heap.size w w') : KOwn w0 w' wo t n := by
  obtain ⟨q, rv, F, rs, h1, h2, h3⟩ := h.ex
  exact ⟨⟨q, rv, F, rs, h1.below hb, h2, h3⟩, h.below.trans (hb.mono h.below.size)⟩
theorem KOwn.cellA {w0 w : World} {wo : Nat} {t : St} {n : Nat} (h : KOwn w0 w wo t n) : ∃ q, w.cell? ⟨wo, 0, none⟩ = some (ptr q) ∧ wo < w.heap.size ∧ ∀ W, Below w.heap.size w W → ∃ F, QT W q t F ∧ (∀ k, F k → w0.heap.size ≤ k) ∧
    ∀ w' t' F', QT w' q t' F' → (∀ k, F' k → F k ∨ W.heap.size ≤ k) → Chg F W w' → KOwn w0 w' wo t' n := by
  obtain ⟨q, rv, F, rs, h1, h2, h3⟩ := h.ex
  refine ⟨q, h1.c0, lt_of_heap h1.blk, fun W hB => ⟨F, h1.que.below hB, fun k hk => h3 k (.inl hk), fun w' t' F' hq hF hc => ?_⟩⟩
  have hK := (h1.below hB).que' hc hq hF
  exact KOwn.of (h.below.trans (hB.mono h.below.size)) h3 hK h2 (fun k hk => by
    rcases hk with h | h | h
    · exact (hF k h).imp .inl id
    · exact .inl (.inr (.inl h))
    · exact .inl (.inr (.inr h))) (hc.mono fun k _ hk => .inl hk)
theorem complete_ka {w0 w : World} {wo : Nat} {t t' : St} {n : Nat} (h : KOwn w0 w wo t n) (hg : ErrVar w0) (hk : t.Ok) (hs : t.Small) (k : Nat) (fault : Bool) (hc : t.complete k fault = some t') : ∃ q, w.cell? ⟨wo, 0, none⟩ = some (ptr q) ∧ wo < w.heap.size ∧
    ∀ W, Below w.heap.size w W → Calls Tryz.prog 19 #[ptr q, .int .i64 k, .bool fault] W fun x w' => x = .returned (plErr 0 (-1) 0) ∧ KOwn w0 w' wo t' n := by
  obtain ⟨q, h1, h2, h3⟩ := h.cellA
  refine ⟨q, h1, h2, fun W hB => ?_⟩
  obtain ⟨F, f1, f2, f3⟩ := h3 W hB
  have h0 : 0 < w0.heap.size := lt_of_cell hg
  refine (complete_p f1 hk hs ((h.err hg).chg (chgB hB fun _ => False) fun x => x) (fun x => by have := f2 0 x; omega) k fault t' hc).mono ?_
  rintro x w' ⟨rfl, e1, e2⟩
  exact ⟨rfl, f3 w' _ F e1 (fun k hk => .inl hk) e2⟩
theorem step_k {w0 w : World} {wo q : Nat} {t : St} {n : Nat} {F : Nat → Prop} (hQ : QT w q t F) (_hF : ∀ k, F k → w0.heap.size ≤ k) (hput : ∀ w' t' F', QT w' q t' F' → (∀ k, F' k → F k ∨ w.heap.size ≤ k) → Chg F w w' → KOwn w0 w' wo t' n) (hk : t.Ok) (hs : t.Small) (c : Cmd) (hc : t.cmd = some c) :
    Calls Tryz.prog 18 #[ptr q] w fun x w' => ∃ va vc, x = .returned (.tuple #[.agg #[.bool c.write, .int .i64 c.page, .int .i64 c.count, .slice va c.nums.length vc], .bool true]) ∧ KOwn w0 w' wo (t.sent c) n := by
  refine (step_some_c hQ hk hs c hc).mono ?_
  rintro x w' ⟨v, F', rfl, e1, e2, _, e4, e5⟩
  obtain ⟨va, vc, rfl⟩ := own_slice e5
  exact ⟨va, vc, rfl, hput w' _ F' e1 e2 e4⟩
theorem complete_k {w0 w : World} {wo q : Nat} {t t' : St} {n : Nat} {F : Nat → Prop} (hQ : QT w q t F) (hF : ∀ k, F k → w0.heap.size ≤ k) (hput : ∀ w' t' F', QT w' q t' F' → (∀ k, F' k → F k ∨ w.heap.size ≤ k) → Chg F w w' → KOwn w0 w' wo t' n) (h0 : 0 < w0.heap.size) (hg : ErrVar w) (hk : t.Ok) (hs : t.Small) (k : Nat) (fault : Bool) (hc : t.complete k fault = some t') :
    Calls Tryz.prog 19 #[ptr q, .int .i64 k, .bool fault] w fun x w' => x = .returned (plErr 0 (-1) 0) ∧ KOwn w0 w' wo t' n := by
  refine (complete_p hQ hk hs hg (fun x => by have := hF 0 x; omega) k fault t' hc).mono ?_
  rintro x w' ⟨rfl, e1, e2⟩
  exact ⟨rfl, hput w' _ F e1 (fun k hk => .inl hk) e2⟩

theorem KOwn.len {w0 w : World} {wo : Nat} {t : St} {n : Nat} (h : KOwn w0 w wo t n) : ∃ ra rc, w.cell? ⟨wo, 1, none⟩ = some (.slice ra n rc) ∧ wo < w.heap.size := by
  obtain ⟨q, rv, F, rs, h1, h2, h3⟩ := h.ex
  obtain ⟨ra, rc, rfl⟩ := own_slice h1.row
  exact ⟨ra, rc, by rw [← h2]; exact h1.c1, lt_of_heap h1.blk⟩
theorem step_ka {w0 w : World} {wo : Nat} {t : St} {n : Nat} (h : KOwn w0 w wo t n) (hk : t.Ok) (hs : t.Small) : ∃ q, w.cell? ⟨wo, 0, none⟩ = some (ptr q) ∧ wo < w.heap.size ∧
    (t.cmd = none → ∀ W, Below w.heap.size w W → Calls Tryz.prog 18 #[ptr q] W fun x w' => x = .returned (.tuple #[noCmd, .bool false]) ∧ KOwn w0 w' wo t n) ∧
    (∀ c, t.cmd = some c → ∀ W, Below w.heap.size w W → Calls Tryz.prog 18 #[ptr q] W fun x w' => ∃ va vc, x = .returned (.tuple #[.agg #[.bool c.write, .int .i64 c.page, .int .i64 c.count, .slice va c.nums.length vc], .bool true]) ∧ KOwn w0 w' wo (t.sent c) n) := by
  obtain ⟨q, h1, h2, h3⟩ := h.cellA
  refine ⟨q, h1, h2, fun hc W hB => ?_, fun c hc W hB => ?_⟩
  · obtain ⟨F, f1, f2, f3⟩ := h3 W hB
    refine (step_none_c f1 hk hc).mono ?_
    rintro x w' ⟨rfl, e1⟩
    exact ⟨rfl, f3 w' _ F (f1.below e1) (fun k hk => .inl hk) (chgB e1 _)⟩
  · obtain ⟨F, f1, f2, f3⟩ := h3 W hB
    exact step_k f1 f2 f3 hk hs c hc
end Go.Proofs.YticobikhndlejaaGreatDoor

/- plain.Poll by contracts, in plain states. -/
namespace Go.Proofs.YticobikhndlejaaGreatDoor
open Go.RowKit Go.Shelf Go.Lib

theorem zz_at (w : World) : ((w.alloc zAns).alloc zErr).heap[w.heap.size]? = some zAns ∧ ((w.alloc zAns).alloc zErr).heap[w.heap.size + 1]? = some zErr ∧ ((w.alloc zAns).alloc zErr).heap.size = w.heap.size + 2 := by
  refine ⟨(Below.heap_alloc _ _ _ (by simp)).trans (World.alloc_heap_new w _), ?_, by simp⟩
  rw [show w.heap.size + 1 = (w.alloc zAns).heap.size from by simp]; exact World.alloc_heap_new _ _
theorem zz_below (w : World) : Below w.heap.size w ((w.alloc zAns).alloc zErr) := ((Below.refl _ _).alloc (Nat.le_refl _) _).alloc (by simp) _
section
variable {q : Nat} {t : St} {F : Nat → Prop} {w : World}
theorem poll_none_p (h : QT w q t F) (hg : ErrVar w) (n : Int) (hf : t.find n = none) :
    Calls Tryz.prog 16 #[ptr q, .int .i64 n] w fun x w' => x = .returned (.tuple #[noAns, plErr 5 (-1) 0]) ∧ Below w.heap.size w w' := by
  obtain ⟨z1, z2, z3⟩ := zz_at w
  have hb := zz_below w
  have h0 := (h.below hb)
  refine (plPoll_of q n 5 (-1) 0 w (fun v tr err w' => v = .slice none 0 0 ∧ tr = 0 ∧ err = errK 5 ∧ Below ((w.alloc zAns).alloc zErr).heap.size ((w.alloc zAns).alloc zErr) w') ?_ ?_).mono ?_
  · exact (poll_none_c h0 n hf).mono fun x w' ⟨e1, e2⟩ => ⟨none, 0, 0, 0, errK 5, e1, rfl, rfl, rfl, e2⟩
  · rintro v tr err w' ⟨rfl, rfl, rfl, e2⟩
    exact ⟨(hg.chg (chgB hb fun _ => False) fun x => x).chg (chgB e2 fun _ => False) fun x => x, .kind 5 (by omega), (e2.block _ (by omega)).trans z1, (e2.block _ (by omega)).trans z2⟩
  · rintro x w' ⟨v, tr, err, w1, rfl, ⟨rfl, rfl, rfl, e2⟩, hs, hc⟩
    exact ⟨rfl, Chg.below (((chgB hb fun _ => False).of_below e2).trans (hc.mono fun k _ hk => .inr (by omega)))⟩
theorem poll_pend_p (h : QT w q t F) (hg : ErrVar w) (n : Int) (r : Req) (hf : t.find n = some r) (hs : r.state = 0 ∨ r.state = 1) :
    Calls Tryz.prog 16 #[ptr q, .int .i64 n] w fun x w' => x = .returned (.tuple #[noAns, plErr 6 n r.tries]) ∧ Below w.heap.size w w' := by
  obtain ⟨z1, z2, z3⟩ := zz_at w
  have hb := zz_below w
  have h0 := (h.below hb)
  refine (plPoll_of q n 6 n r.tries w (fun v tr err w' => v = .slice none 0 0 ∧ tr = 0 ∧ (∃ b, err = errR b ∧ ReqErr w' b n r.tries 6) ∧ Below ((w.alloc zAns).alloc zErr).heap.size ((w.alloc zAns).alloc zErr) w') ?_ ?_).mono ?_
  · exact (poll_pend_c h0 n r hf hs).mono fun x w' ⟨b, e1, e2, e3, e4⟩ => ⟨none, 0, 0, 0, errR b, e1, rfl, rfl, ⟨b, rfl, e2⟩, e4⟩
  · rintro v tr err w' ⟨rfl, rfl, ⟨b, rfl, hr⟩, e2⟩
    exact ⟨(hg.chg (chgB hb fun _ => False) fun x => x).chg (chgB e2 fun _ => False) fun x => x, .req b n r.tries 6 (by omega) hr, (e2.block _ (by omega)).trans z1, (e2.block _ (by omega)).trans z2⟩
  · rintro x w' ⟨v, tr, err, w1, rfl, ⟨rfl, rfl, _, e2⟩, hs, hc⟩
    exact ⟨rfl, Chg.below (((chgB hb fun _ => False).of_below e2).trans (hc.mono fun k _ hk => .inr (by omega)))⟩
theorem QT.zz (h : QT w q t F) : QT ((w.alloc zAns).alloc zErr) q t fun k => F k ∧ k < w.heap.size := h.lt.below (zz_below w)
theorem chg_zz {S T : Nat → Prop} {w1 w' : World} (h1 : Chg (fun k => F k ∧ k < w.heap.size) ((w.alloc zAns).alloc zErr) w1) (h2 : Chg S w1 w') (hF : ∀ k, F k → T k) (hS : ∀ k, S k → T k ∨ w.heap.size ≤ k) : Chg T w w' :=
  ((chgB (zz_below w) T).then (h1.mono fun k _ hk => hF k hk.1)).trans (h2.mono fun k _ hk => hS k hk)
theorem poll_bad_p (h : QT w q t F) (hk : t.Ok) (hsm : t.Small) (hg : ErrVar w) (hF : ¬ F 0) (n : Int) (r : Req) (k : Int) (hf : t.find n = some r) (hs : (r.state = 3 ∧ k = 7) ∨ (r.state = 4 ∧ k = 8)) :
    Calls Tryz.prog 16 #[ptr q, .int .i64 n] w fun x w' => x = .returned (.tuple #[noAns, plErr k n r.tries]) ∧ QT w' q (t.tell n) F ∧ Chg F w w' := by
  obtain ⟨z1, z2, z3⟩ := zz_at w
  have hb := zz_below w
  refine (plPoll_of q n k n r.tries w (fun v tr err w' => v = .slice none 0 0 ∧ tr = 0 ∧ (∃ b, err = errR b ∧ ReqErr w' b n r.tries k) ∧ QT w' q (t.tell n) (fun k => F k ∧ k < w.heap.size) ∧ Chg (fun k => F k ∧ k < w.heap.size) ((w.alloc zAns).alloc zErr) w') ?_ ?_).mono ?_
  · exact (poll_bad_c h.zz hk hsm n r k hf hs).mono fun x w' ⟨b, e1, e2, e3, e4, e5⟩ => ⟨none, 0, 0, 0, errR b, e1, rfl, rfl, ⟨b, rfl, e2⟩, e4, e5⟩
  · rintro v tr err w' ⟨rfl, rfl, ⟨b, rfl, hr⟩, e1, e2⟩
    exact ⟨(hg.chg (chgB hb fun _ => False) fun x => x).chg e2 fun x => hF x.1, .req b n r.tries k (by rcases hs with ⟨_, h⟩ | ⟨_, h⟩ <;> omega) hr, (e2.block _ (by omega) (by omega)).trans z1, (e2.block _ (by omega) (by omega)).trans z2⟩
  · rintro x w' ⟨v, tr, err, w1, rfl, ⟨rfl, rfl, _, e1, e2⟩, hs, hc⟩
    exact ⟨rfl, (e1.kept hc fun k hk e => by omega).mono fun k hk => hk.1, chg_zz e2 hc (fun k x => x) fun k hk => .inr (by omega)⟩
theorem poll_write_p (h : QT w q t F) (hk : t.Ok) (hsm : t.Small) (hg : ErrVar w) (hF : ¬ F 0) (n : Int) (r : Req) (hf : t.find n = some r) (hs : r.state = 2) (hw : r.write = true) :
    Calls Tryz.prog 16 #[ptr q, .int .i64 n] w fun x w' => x = .returned (.tuple #[.agg #[.slice none 0 0, .int .i64 r.tries], plErr 0 (-1) 0]) ∧ QT w' q (t.tell n) F ∧ Chg F w w' := by
  obtain ⟨z1, z2, z3⟩ := zz_at w
  have hb := zz_below w
  refine (plPoll_of q n 0 (-1) 0 w (fun v tr err w' => v = .slice none 0 0 ∧ tr = r.tries ∧ err = .nilIface ∧ QT w' q (t.tell n) (fun k => F k ∧ k < w.heap.size) ∧ Chg (fun k => F k ∧ k < w.heap.size) ((w.alloc zAns).alloc zErr) w') ?_ ?_).mono ?_
  · exact (poll_write_c h.zz hk hsm n r hf hs hw).mono fun x w' ⟨e1, e4, e5⟩ => ⟨none, 0, 0, r.tries, .nilIface, e1, rfl, rfl, rfl, e4, e5⟩
  · rintro v tr err w' ⟨rfl, rfl, rfl, e1, e2⟩
    exact ⟨(hg.chg (chgB hb fun _ => False) fun x => x).chg e2 fun x => hF x.1, .nil, (e2.block _ (by omega) (by omega)).trans z1, (e2.block _ (by omega) (by omega)).trans z2⟩
  · rintro x w' ⟨v, tr, err, w1, rfl, ⟨rfl, rfl, rfl, e1, e2⟩, hs, hc⟩
    exact ⟨rfl, (e1.kept hc fun k hk e => by omega).mono fun k hk => hk.1, chg_zz e2 hc (fun k x => x) fun k hk => .inr (by omega)⟩
theorem poll_read_p (h : QT w q t F) (hk : t.Ok) (hsm : t.Small) (hg : ErrVar w) (hF : ¬ F 0) (n : Int) (r : Req) (hf : t.find n = some r) (hs : r.state = 2) (hw : r.write = false) :
    Calls Tryz.prog 16 #[ptr q, .int .i64 n] w fun x w' => ∃ v F', x = .returned (.tuple #[.agg #[v, .int .i64 r.tries], plErr 0 (-1) 0]) ∧ QT w' q (t.tell n) F' ∧ (∀ k, F' k → F k ∨ w.heap.size ≤ k) ∧ (∀ k, v.ownBlock = some k → ¬ F' k) ∧ Chg F w w' ∧ w'.ownsRow w.heap.size 5 1 v 4 (b4Cells r.data) := by
  obtain ⟨z1, z2, z3⟩ := zz_at w
  have hb := zz_below w
  refine (plPoll_of q n 0 (-1) 0 w (fun v tr err w' => tr = r.tries ∧ err = .nilIface ∧ ∃ F', QT w' q (t.tell n) F' ∧ (∀ k, F' k → (F k ∧ k < w.heap.size) ∨ w.heap.size + 2 ≤ k) ∧ (∀ k, v.ownBlock = some k → ¬ F' k) ∧ Chg (fun k => F k ∧ k < w.heap.size) ((w.alloc zAns).alloc zErr) w' ∧ w'.ownsRow (w.heap.size + 2) 5 1 v 4 (b4Cells r.data)) ?_ ?_).mono ?_
  · refine (poll_read_c h.zz hk hsm n r hf hs hw).mono ?_
    rintro x w' ⟨v, F', e1, e2, e3, e4, e5, e6⟩
    obtain ⟨va, vc, rfl⟩ := own_slice e6
    exact ⟨va, 4, vc, r.tries, .nilIface, e1, rfl, rfl, F', e2, fun k hk => by have := e3 k hk; rw [z3] at this; exact this, e4, e5, by rw [z3] at e6; exact e6⟩
  · rintro v tr err w' ⟨rfl, rfl, F', e1, e2, e3, e4, e5⟩
    exact ⟨(hg.chg (chgB hb fun _ => False) fun x => x).chg e4 fun x => hF x.1, .nil, (e4.block _ (by omega) (by omega)).trans z1, (e4.block _ (by omega) (by omega)).trans z2⟩
  · rintro x w' ⟨v, tr, err, w1, rfl, ⟨rfl, rfl, F', e1, e2, e3, e4, e5⟩, hs, hc⟩
    refine ⟨v, F', rfl, e1.kept hc fun k hk e => by have := e2 k hk; omega, fun k hk => (e2 k hk).imp (fun x => x.1) fun x => by omega, e3, chg_zz e4 hc (fun k x => x) fun k hk => .inr (by omega), ?_⟩
    exact ownsRow_chg (ownsRow_low e5 (by omega)) hc fun k hk hh => by have := (e5.lt k hk).1; omega
end
end Go.Proofs.YticobikhndlejaaGreatDoor
