/- slices.Delete of one command: the walk. -/
import Derived.Test.YticobikhndlejaaDoorDel
import Derived.Test.YticobikhndlejaaDoorStep2
namespace Go.Proofs.YticobikhndlejaaDoor
open Go.RowKit Go.Shelf Go.Lib

theorem setCells_drew (g : Nat) : ∀ (vs : List Value) (o : Nat) (w : World), w.drew.setCells g o vs = (w.setCells g o vs).drew
  | [], _, _ => rfl
  | _ :: vs, o, w => setCells_drew g vs (o + 1) (w.setCell ⟨g, o, none⟩ _)

set_option maxRecDepth 100000 in
set_option maxHeartbeats 2000000 in
theorem del_any (g n cap k j1 : Nat) (hj1 : k + 1 = j1) (cur : Array Value) (cs : List (Cmd × Value)) (w : World) (hn : cs.length = n) (hk : k < n) (hb : w.heap[g]? = some (.cells cur 34 (0, 0))) (hcap : n ≤ cap) (hsz : cur.size = cap * 4) (hrow : cur.toList.take (n * 4) = cs.flatMap cmdCells) (h1c : ∀ c ∈ cs, c.2.oneCell' = true) :
    Calls Tryd.prog 37 #[.slice (some ⟨g, 0, none⟩) n cap, .int .i64 k, .int .i64 j1] w fun x w' => x = .returned (.slice (some ⟨g, 0, none⟩) (n - 1 : Nat) cap) ∧ Chg (fun i => i = g) w w' ∧
      ∃ cur2, w'.heap[g]? = some (.cells cur2 34 (0, 0)) ∧ cur2.size = cap * 4 ∧ cur2.toList.take ((n - 1) * 4) = (cs.eraseIdx k).flatMap cmdCells := by
  have hR := del_row hn hk hb hcap hsz hrow
  have hb1 : (0 : Int) ≤ (k : Int) := by omega
  have hb2 : (k : Int) ≤ (j1 : Int) := by omega
  have hb3 : (j1 : Int) ≤ (n : Int) := by omega
  have hb4 : (n : Int) ≤ (cap : Int) := by omega
  have hb5 : ((k : Int) == (j1 : Int)) = false := by simp; omega
  have hb6 : (k : Int) ≤ (cap : Int) := by omega
  have hb7 : (0 : Int) ≤ (j1 : Int) := by omega
  obtain ⟨W1, W2, hW1, hW2, hc2, hc1, ⟨cur1, hu1, hu2⟩, hfin⟩ := hR
  obtain ⟨tl, htl⟩ : ∃ tl, (cs.drop (k + 1)).flatMap cmdCells = tl := ⟨_, rfl⟩
  have hlen : ∀ l : List (Cmd × Value), (l.flatMap cmdCells).length = l.length * 4 := fun l => by
    induction l with
    | nil => rfl
    | cons c l ih => rw [List.flatMap_cons, List.length_append, ih]; simp [cmdCells]; omega
  have htll : tl.length = (n - j1) * 4 := by rw [← htl, hlen, List.length_drop, hn, hj1]
  have hcurl : cur.toList.length = cap * 4 := by rw [Array.length_toList]; exact hsz
  have hnews : ∀ j u, tl[j]? = some u → w.drew.cell? ((⟨g, j1 * 4, none⟩ : Addr).add j) = some u := fun j u hu => by
    rw [show (⟨g, j1 * 4, none⟩ : Addr).add j = ⟨g, j1 * 4 + j, none⟩ from by unfold Addr.add; split <;> simp_all]
    refine cell_of (w := w.drew) hb ?_
    have hj : j < tl.length := (List.getElem?_eq_some_iff.1 hu).1
    have h1 : cur.toList[j1 * 4 + j]? = (cs.flatMap cmdCells)[j1 * 4 + j]? := by
      rw [← hrow, List.getElem?_take_of_lt (by omega)]
    have h2 : cs.flatMap cmdCells = (cs.take j1).flatMap cmdCells ++ tl := by
      rw [← htl, hj1, ← List.flatMap_append, List.take_append_drop]
    rw [← Array.getElem?_toList, h1, h2, List.getElem?_append_right (by rw [hlen, List.length_take]; omega), hlen, List.length_take, show j1 * 4 + j - min j1 cs.length * 4 = j from by omega]
    exact hu
  have hone : ∀ u ∈ tl, u.oneCell' = true := by
    rw [← htl]
    intro u hu
    obtain ⟨c, _, hc⟩ := List.mem_flatMap.1 hu
    have h1 := h1c c (List.drop_subset _ _ ‹_›)
    simp only [cmdCells, List.mem_cons, List.mem_nil_iff, or_false] at hc
    rcases hc with rfl | rfl | rfl | rfl
    · rfl
    · rfl
    · rfl
    · exact h1
  have hspare : ∀ j, j < tl.length → (w.drew.cell? ⟨g, 0 + k * 4 + j, none⟩).isSome = true ∧ w.drew.frozen? ⟨g, 0 + k * 4 + j, none⟩ = false := fun j hj => by
    refine ⟨?_, free_of (w := w.drew) hb⟩
    have hx : (0 + k * 4 + j) < cur.size := by omega
    rw [cell_of (w := w.drew) (i := 0 + k * 4 + j) hb (Array.getElem?_eq_getElem hx)]; rfl
  rw [htl] at hW1
  rw [← show (0 + k * 4) = k * 4 from by omega] at hW1
  have HNW := Lib.hid hnews
  have HON := Lib.hid hone
  have HSP := Lib.hid hspare
  have HW1 := Lib.hid hW1
  have HW2 := Lib.hid hW2
  have HC2 := Lib.hid hc2
  have HF := Lib.hid hfin
  have HU1 := Lib.hid hu1
  have HU2 := Lib.hid hu2
  have hclr : ∀ c, (Builtin.clear_ #[66] 0 #[.slice (some ⟨g, (n - 1) * 4, none⟩) 1 c]).run Tryd.prog W1.drew = .ok (.tuple #[]) W2.drew := fun c => by
    rw [hW2, ← setCells_drew]
    refine run_clear_cmd W1.drew g ((n - 1) * 4) c 0 (fun j hj => ?_) fun j hj => free_of (w := W1.drew) hu1
    have hx : (n - 1) * 4 + j < cur1.size := by omega
    rw [cell_of (w := W1.drew) (i := (n - 1) * 4 + j) hu1 (Array.getElem?_eq_getElem hx)]; rfl
  have hst : w.drew.setCells g (k * 4) tl = W1.drew := by rw [setCells_drew, hW1, show 0 + k * 4 = k * 4 from by omega]
  have HCL := Lib.hid hclr
  have HST := Lib.hid hst
  clear hclr hst hb hsz hrow hW1 hW2 hc2 hc1 hu1 hu2 hfin hcurl hnews hone hspare htl hlen
  by_cases hce : cap = j1
  · have hnj : n = j1 := by omega
    subst hnj
    subst hce
    have htn : tl = [] := List.length_eq_zero_iff.1 (by omega)
    have HNW : Hid (∀ j u, tl[j]? = some u → w.drew.cell? ((⟨g, 0, none⟩ : Addr).add j) = some u) := Lib.hid (fun j u hu => by rw [htn] at hu; simp at hu)
    have HTN := Lib.hid htn
    clear htn
    go_enter Tryd.func37, Tryd.ntmps37
    go_wp2_with fail
    obtain ⟨i4, hi4, hz40, hz41, hz42⟩ := info_parts Tryd.infoC
    have hkc : k ≤ cap := by omega
    go_region_law (fail)
    rw [show k = cap - 1 from by omega]
    obtain ⟨n1, hn1⟩ : ∃ n1, cap - 1 = n1 := ⟨_, rfl⟩
    have HN1 := Lib.hid hn1
    rw [hn1]
    have hn2 : cap - n1 = 1 := by omega
    have hn3 : (0 : Int) ≤ (n1 : Int) := by omega
    have hn4 : (n1 : Int) ≤ (cap : Int) := by omega
    have hn5 : ¬ cap = n1 := by omega
    have hcl := HCL.out
    rw [hn1] at hcl
    have hst2 := HST.out
    rw [HTN.out] at hst2
    have hst3 : w.drew = W1.drew := hst2
    clear hst2
    go_wp2_with fail
    go_ret
    rw [HN1.out]
    refine ⟨rfl, HC2.out.drew, ?_⟩
    obtain ⟨cur2, f1, f2, f3⟩ := HF.out
    rw [HN1.out] at f3
    exact ⟨cur2, f1, f2, f3⟩
  · have hce2 : ¬ cap = j1 := hce
    go_enter Tryd.func37, Tryd.ntmps37
    go_wp2_with fail
    obtain ⟨i4, hi4, hz40, hz41, hz42⟩ := info_parts Tryd.infoC
    go_region_law
      (refine step_append_room (by rfl) _ _ 66 (by rfl) 34 i4 4 Tryd.underlying66 hi4 hz41 g 0 k cap (by rfl) ⟨g, j1 * 4, none⟩ (n - j1) (cap - j1) tl ?hx htll HNW.out HON.out (by omega) HSP.out ?hK; case hx => simp [Act.eval, Act.put])
    rw [show k + (n - j1) = n - 1 from by omega]
    obtain ⟨n1, hn1⟩ : ∃ n1, n - 1 = n1 := ⟨_, rfl⟩
    have HN1 := Lib.hid hn1
    rw [hn1]
    have hn2 : n - n1 = 1 := by omega
    have hn3 : (0 : Int) ≤ (n1 : Int) := by omega
    have hn4 : (n1 : Int) ≤ (n : Int) := by omega
    have hn5 : ¬ cap = n1 := by omega
    have hcl := HCL.out
    rw [hn1] at hcl
    have hst2 := HST.out
    go_wp2_with fail
    go_ret
    rw [HN1.out]
    refine ⟨rfl, HC2.out.drew, ?_⟩
    obtain ⟨cur2, f1, f2, f3⟩ := HF.out
    rw [HN1.out] at f3
    exact ⟨cur2, f1, f2, f3⟩
end Go.Proofs.YticobikhndlejaaDoor
