/- Complete by contract. -/
import Derived.Test.YticobikhndlejaaDoorLand2
import Derived.Test.YticobikhndlejaaDoorDel2
namespace Go.Proofs.YticobikhndlejaaDoor
open Go.RowKit Go.Shelf Go.Lib

/-- A try of request n ends. -/
def landS (fault : Bool) (s : Sta) (n : Int) : Sta :=
  match s.es.find? fun e => e.r.num == n with
  | none => s
  | some e => { s with es := landE (updE s.es e.r.num fun _ => St.landR s.now s.disk fault e.r) ⟨St.landR s.now s.disk fault e.r, e.p, e.born⟩, disk := St.landD s.disk fault e.r }
theorem landS_some {s : Sta} {e : Ent} {n : Int} (hok : EntsOk s.es) (he : e ∈ s.es) (hn : e.r.num = n) (fault : Bool) :
    landS fault s n = { s with es := landE (updE s.es e.r.num fun _ => St.landR s.now s.disk fault e.r) ⟨St.landR s.now s.disk fault e.r, e.p, e.born⟩, disk := St.landD s.disk fault e.r } := by
  have hf : (s.es.find? fun x => x.r.num == n) = some e := by
    obtain ⟨l1, l2, e1, h1, h2⟩ := hok.split he
    rw [e1, List.find?_append, List.find?_eq_none.2 (fun x hx => by have := h1 x hx; simp; omega), List.find?_cons_of_pos (by simp [hn])]
    rfl
  unfold landS
  rw [hf]
theorem landS_same (fault : Bool) (s : Sta) (n : Int) : (landS fault s n).depth = s.depth ∧ (landS fault s n).cs = s.cs ∧ (landS fault s n).now = s.now ∧ (landS fault s n).last = s.last ∧ (landS fault s n).held = s.held ∧ (landS fault s n).head = s.head := by
  unfold landS
  split <;> exact ⟨rfl, rfl, rfl, rfl, rfl, rfl⟩
theorem landS_p {fault : Bool} {s : Sta} {n : Int} {x : Ent} (hx : x ∈ (landS fault s n).es) : ∃ y ∈ s.es, y.p = x.p := by
  unfold landS at hx
  split at hx
  · exact ⟨x, hx, rfl⟩
  · have h1 := mem_landE hx
    obtain ⟨y, hy, rfl⟩ := List.mem_map.1 h1
    exact ⟨y, hy, by split <;> rfl⟩
def landsS (fault : Bool) (s : Sta) (ns : List Int) : Sta := ns.foldl (landS fault) s
theorem landsS_p {fault : Bool} : ∀ {ns : List Int} {s : Sta} {x : Ent}, x ∈ (landsS fault s ns).es → ∃ y ∈ s.es, y.p = x.p
  | [], _, x, hx => ⟨x, hx, rfl⟩
  | n :: ns, s, x, hx => by
    obtain ⟨y, hy, e⟩ := landsS_p (ns := ns) (s := landS fault s n) hx
    obtain ⟨z, hz, e'⟩ := landS_p hy
    exact ⟨z, hz, e'.trans e⟩
theorem landsS_same (fault : Bool) : ∀ (ns : List Int) (s : Sta), (landsS fault s ns).cs = s.cs ∧ (landsS fault s ns).now = s.now
  | [], _ => ⟨rfl, rfl⟩
  | n :: ns, s => by
    obtain ⟨a, b⟩ := landsS_same fault ns (landS fault s n)
    obtain ⟨_, c, d, _⟩ := landS_same fault s n
    exact ⟨a.trans c, b.trans d⟩
/-- What the walk asks of a request that is landed. -/
structure LandOk (s : Sta) (n : Int) (e : Ent) : Prop where
  mem : e ∈ s.es
  num : e.r.num = n
  tries : 0 ≤ e.r.tries ∧ e.r.tries ≤ 3

set_option maxRecDepth 100000 in
theorem land_all (q tb mb clock : Nat) (fv : Value) (s : Sta) (w : World) (fault : Bool) (n : Int) (e : Ent) (h : QB w q tb mb clock fv s) (hL : LandOk s n e) (hn : 0 ≤ s.now ∧ s.now < 2 ^ 60) :
    Calls Tryd.prog 38 #[ptr q, ptr e.p, .bool fault] w fun x w' => x = .returned (.tuple #[]) ∧ QB w' q tb mb clock fv (landS fault s n) ∧ Chg (fun k => k = q ∨ k = mb ∨ k = e.p) w w' := by
  rw [landS_some h.tab.ok hL.mem hL.num]
  have hp := h.tab.ok.page e hL.mem
  have hB : LandB w q tb fv s e e.r.page.toNat (dget s.disk e.r.page).a (dget s.disk e.r.page).b (dget s.disk e.r.page).c (dget s.disk e.r.page).d := ⟨h.que, h.tab.reqs e hL.mem, by omega, by omega, h.disk, rfl⟩
  have ht := hL.tries
  cases fault with
  | false =>
    by_cases hs : e.r.state = 1
    · cases hw : e.r.write with
      | true => exact land_wd q tb mb clock _ fv s w e _ _ _ _ h hL.mem hB ht hn hw hs
      | false => exact land_rd q tb mb clock _ fv s w e _ _ _ _ h hL.mem hB ht hn hw hs
    · cases hw : e.r.write with
      | true => exact land_wn q tb mb clock _ fv s w e _ _ _ _ h hL.mem hB ht hn hw hs
      | false => exact land_rn q tb mb clock _ fv s w e _ _ _ _ h hL.mem hB ht hn hw hs
  | true =>
    by_cases hs : e.r.state = 1
    · have h4 : e.r.tries = 0 ∨ e.r.tries = 1 ∨ e.r.tries = 2 ∨ e.r.tries = 3 := by omega
      rcases h4 with h4 | h4 | h4 | h4
      · exact land_f0 q tb mb clock _ fv s w e _ _ _ _ h hL.mem hB ht hn hs h4
      · exact land_f1 q tb mb clock _ fv s w e _ _ _ _ h hL.mem hB ht hn hs h4
      · exact land_f2 q tb mb clock _ fv s w e _ _ _ _ h hL.mem hB ht hn hs h4
      · exact land_ff q tb mb clock _ fv s w e _ _ _ _ h hL.mem hB ht hn hs h4
    · exact land_fn q tb mb clock _ fv s w e _ _ _ _ h hL.mem hB ht hn hs

/-- One command is dropped from the list of those under way. -/
theorem QB.dropc {w W W2 : World} {q tb mb clock : Nat} {g n cap k : Nat} {s : Sta} (h : QB w q tb mb clock (.slice (some ⟨g, 0, none⟩) n cap) s) (hW : Below w.heap.size w W) (hc : Chg (fun i => i = g) W W2) {cur2 : Array Value} (hcap : n - 1 ≤ cap) (hcm : cap ≤ maxLen) (hn : s.cs.length = n)
    (h1 : W2.heap[g]? = some (.cells cur2 34 (0, 0))) (h2 : cur2.size = cap * 4) (h3 : cur2.toList.take ((n - 1) * 4) = (s.cs.eraseIdx k).flatMap cmdCells) (hk : k < n) :
    QB (W2.setCell ⟨q, 2, none⟩ (.slice (some ⟨g, 0, none⟩) (n - 1 : Nat) cap)) q tb mb clock (.slice (some ⟨g, 0, none⟩) (n - 1 : Nat) cap) { s with cs := s.cs.eraseIdx k } := by
  have hW2 := (h.kept (chgB hW fun _ => False) fun _ _ x => x)
  have hqg : q ≠ g := hW2.ne_qf rfl
  have hgh := own_heap hW2.fl (k := g) rfl
  obtain ⟨cur, hcur⟩ := hgh
  have hcc : Chg (fun i => i = g ∨ i = q) W (W2.setCell ⟨q, 2, none⟩ (.slice (some ⟨g, 0, none⟩) (n - 1 : Nat) cap)) := (hc.mono fun _ _ h => .inl h).then ((chg_set _).mono fun _ _ h => .inr h)
  have hlen : (s.cs.eraseIdx k).length = n - 1 := by rw [List.length_eraseIdx, if_pos (by omega), hn]
  refine ⟨?_, hW2.tab.kept hcc ?_ ?_ fun e he => ?_, ?_, fun c hcm2 => ?_, h.disk⟩
  · have hq2 : W2.heap[q]? = W.heap[q]? := hc.block q (lt_of_heap hW2.que) hqg
    exact heap_setCell (i := 2) _ (hq2.trans hW2.que)
  · rintro (e | e)
    · exact ne_of_heap hW2.tab.tab hcur (by simp) e
    · exact hW2.ne_qt e.symm
  · rintro (e | e)
    · exact ne_of_heap hW2.tab.map hcur (by simp) e
    · exact hW2.ne_qm e.symm
  · rintro (e' | e')
    · exact ne_of_heap (hW2.tab.reqs e he) hcur (by simp) e'
    · exact hW2.ne_qp he e'.symm
  · have hlen2 : ((s.cs.eraseIdx k).flatMap cmdCells).length = (s.cs.eraseIdx k).length * 4 := by
      generalize s.cs.eraseIdx k = l
      induction l with
      | nil => rfl
      | cons c l ih => rw [List.flatMap_cons, List.length_append, ih]; simp [cmdCells]; omega
    show (W2.setCell ⟨q, 2, none⟩ _).ownsRow 0 _ 4 _ (s.cs.eraseIdx k).length _
    rw [hlen]
    refine ⟨by rw [hlen2, hlen], .inr ⟨g, cap, cur2, rfl, Nat.zero_le _, ?_, hcap, hcm, h2, h3⟩⟩
    exact (heap_setCell_ne _ hqg.symm).trans h1
  · have hm : c ∈ s.cs := (List.eraseIdx_sublist _ _).subset hcm2
    refine ownsRow_chg (hW2.rows c hm) hcc fun i hi hh => ?_
    obtain ⟨cr, hcr⟩ := own_heap (hW2.rows c hm) hi
    rcases hh with e | e
    · rw [e] at hcr
      rw [hcur] at hcr
      simp at hcr
    · exact hW2.ne_qr hm hi e.symm
end Go.Proofs.YticobikhndlejaaDoor
