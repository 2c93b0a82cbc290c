/- Queue.land by contract: what a try's end makes of a request. -/
import Derived.Test.YticobikhndlejaaGreatDoorGxH
namespace Go.Proofs.YticobikhndlejaaGreatDoor
open Go.RowKit Go.Shelf Go.Lib

/-- One request and the disk are changed. -/
theorem QB.landed {w W : World} {q tb mb clock : Nat} {fv : Value} {s : Sta} (h : QB w q tb mb clock fv s) {e : Ent} (he : e ∈ s.es) {r' : Req} {disk' : List Int} (hr : r'.num = e.r.num ∧ r'.page = e.r.page) (hd : disk'.length = 64)
    (hque : W.heap[q]? = some (.cells (qCells tb fv { s with disk := disk' }) 89 (0, 0))) (hreq : ReqB W e.p r') (hc : Chg (fun k => k = q ∨ k = e.p) w W) :
    QB W q tb mb clock fv { s with es := updE s.es e.r.num (fun r => if r.num = e.r.num then r' else r), disk := disk' } := by
  have hne := h.ne_qp he
  have hlt := lt_of_heap (h.tab.reqs e he)
  obtain ⟨W1, hW1⟩ : ∃ W1, w.putObj e.p (.cells (reqCells r') 96 (0, 0)) = W1 := ⟨_, rfl⟩
  have hb1 : ReqB W1 e.p r' := by rw [← hW1]; exact World.putObj_heap_same hlt
  have hc1 : Chg (fun k => k = e.p) w W1 := by rw [← hW1]; exact chg_put _
  have hc2 : Chg (fun k => k = q) W1 W := by
    refine ⟨hc.os.trans hc1.os.symm, hc.tape.trans hc1.tape.symm, hc.output.trans hc1.output.symm, ?_, fun k hk hn => ?_⟩
    · have : W1.heap.size = w.heap.size := by rw [← hW1]; simp [World.putObj]
      rw [this]; exact hc.size
    · by_cases hke : k = e.p
      · subst hke; rw [hreq, hb1]
      · have hkw : k < w.heap.size := by
          have : W1.heap.size = w.heap.size := by rw [← hW1]; simp [World.putObj]
          omega
        rw [hc.block k hkw (by rintro (h | h); exact hn h; exact hke h), hc1.block k hkw hke]
  have hf : ∀ r : Req, (if r.num = e.r.num then r' else r).num = r.num := fun r => by
    split
    · rename_i hh; rw [hh, hr.1]
    · rfl
  have hT1 : TabB W1 tb mb clock s.last s.held (updE s.es e.r.num fun r => if r.num = e.r.num then r' else r) := by
    have hok : EntsOk (updE s.es e.r.num fun r => if r.num = e.r.num then r' else r) := by
      have hu : (updE s.es e.r.num fun r => if r.num = e.r.num then r' else r) = updE s.es e.r.num fun r => { (if r.num = e.r.num then r' else r) with page := r.page } := by
        refine List.map_congr_left fun x hx => ?_
        split
        · rename_i hh
          obtain ⟨l1, l2, e1, h1, h2⟩ := h.tab.ok.split he
          have hxe : x = e := by
            rw [e1] at hx
            rcases List.mem_append.1 hx with hx | hx
            · exact absurd hh (h1 x hx)
            · rcases List.mem_cons.1 hx with hx | hx
              · exact hx
              · exact absurd hh (h2 x hx)
          subst hxe
          simp only [if_true]
          have : ({ r' with page := x.r.page } : Req) = r' := by rw [← hr.2]
          rw [this]
        · rfl
      rw [hu]
      exact h.tab.ok.upd _ _ fun r => ⟨hf r, rfl⟩
    obtain ⟨l1, l2, e1, h1, h2⟩ := h.tab.ok.split he
    have hes : updE s.es e.r.num (fun r => if r.num = e.r.num then r' else r) = l1 ++ ⟨r', e.p, e.born⟩ :: l2 := by
      rw [e1, updE_split _ rfl h1 h2, if_pos rfl]
    rw [hes] at hok ⊢
    have hap : ∀ x ∈ s.es, x.r.num ≠ e.r.num → ReqB W1 x.p x.r := fun x hx hxn => (hc1.block x.p (lt_of_heap (h.tab.reqs x hx)) (reqs_apart (h.tab.reqs x hx) (h.tab.reqs e he) hxn)).trans (h.tab.reqs x hx)
    refine ⟨(hc1.block _ (lt_of_heap h.tab.tab) (h.tab.ne_tp he)).trans h.tab.tab, ?_, fun x hx => ?_, fun x hx => ?_, ?_, hok, ?_⟩
    · have := (hc1.block _ (lt_of_heap h.tab.map) (h.tab.ne_mp he)).trans h.tab.map
      rw [this, e1]
      simp [mapObj, Ent.m, hr.1]
    · rcases List.mem_append.1 hx with hx | hx
      · exact hap x (by rw [e1]; simp [hx]) (h1 x hx)
      · rcases List.mem_cons.1 hx with rfl | hx
        · exact hb1
        · exact hap x (by rw [e1]; simp [hx]) (h2 x hx)
    · rcases List.mem_append.1 hx with hx | hx
      · exact h.tab.born x (by rw [e1]; simp [hx])
      · rcases List.mem_cons.1 hx with rfl | hx
        · exact h.tab.born e he
        · exact h.tab.born x (by rw [e1]; simp [hx])
    · have := h.tab.borns
      rw [e1] at this
      simpa using this
    · have := h.tab.len
      rw [e1] at this
      simpa using this
  refine ⟨hque, hT1.kept hc2 h.ne_qt.symm h.ne_qm.symm fun x hx => ?_, ?_, fun c hcm => ?_, hd⟩
  · obtain ⟨y, hy, rfl⟩ := List.mem_map.1 hx
    have : (if y.r.num = e.r.num then (⟨if y.r.num = e.r.num then r' else y.r, y.p, y.born⟩ : Ent) else y).p = y.p := by split <;> rfl
    rw [this]
    exact (h.ne_qp hy).symm
  · refine ownsRow_chg h.fl hc fun k hk hh => ?_
    obtain ⟨cur, hcur⟩ := own_heap h.fl hk
    rcases hh with hh | hh
    · exact h.ne_qf hk hh.symm
    · exact ne_of_heap hcur (h.tab.reqs e he) (by simp) hh
  · refine ownsRow_chg (h.rows c hcm) hc fun k hk hh => ?_
    obtain ⟨cur, hcur⟩ := own_heap (h.rows c hcm) hk
    rcases hh with hh | hh
    · exact h.ne_qr hcm hk hh.symm
    · exact ne_of_heap hcur (h.tab.reqs e he) (by simp) hh
theorem updE_const (es : List Ent) (n : Int) (r' : Req) : updE es n (fun r => if r.num = n then r' else r) = updE es n fun _ => r' := by
  refine List.map_congr_left fun x _ => ?_
  split
  · rename_i h; simp only [h, if_true]
  · rfl
/-- What the walk knows of a request and the disk. -/
structure LandB (w : World) (q tb : Nat) (fv : Value) (s : Sta) (e : Ent) (pg : Nat) (d0 d1 d2 d3 : Int) : Prop where
  que : w.heap[q]? = some (.cells (qCells tb fv s) 89 (0, 0))
  req : ReqB w e.p e.r
  page : e.r.page = (pg : Int)
  p16 : pg < 16
  len : s.disk.length = 64
  dg : dget s.disk e.r.page = ⟨d0, d1, d2, d3⟩
theorem LandB.disk {w : World} {q tb : Nat} {fv : Value} {s : Sta} {e : Ent} {pg : Nat} {d0 d1 d2 d3 : Int} (h : LandB w q tb fv s e pg d0 d1 d2 d3) :
    w.cell? ⟨q, 5 + pg * 4, none⟩ = some (.int .u8 d0) ∧ w.cell? ⟨q, 5 + pg * 4 + 1, none⟩ = some (.int .u8 d1) ∧ w.cell? ⟨q, 5 + pg * 4 + 2, none⟩ = some (.int .u8 d2) ∧ w.cell? ⟨q, 5 + pg * 4 + 3, none⟩ = some (.int .u8 d3) := by
  have hp := h.p16
  have hl := h.len
  have g : ∀ j, j < 64 → w.cell? ⟨q, 5 + j, none⟩ = some (.int .u8 (s.disk.getD j 0)) := fun j hj => by
    refine cell_of h.que ?_
    unfold qCells
    rw [List.getElem?_toArray, List.getElem?_append_right (by simp)]
    simp only [List.length_cons, List.length_nil, Nat.add_sub_cancel_left, List.getElem?_map]
    rw [List.getD_eq_getElem?_getD, List.getElem?_eq_getElem (show j < s.disk.length by omega)]
    rfl
  have hd := h.dg
  unfold dget at hd
  rw [h.page, Int.toNat_natCast] at hd
  injection hd with e0 e1 e2 e3
  refine ⟨?_, ?_, ?_, ?_⟩
  · rw [show 5 + pg * 4 = 5 + (4 * pg) from by omega, g _ (by omega), e0]
  · rw [show 5 + pg * 4 + 1 = 5 + (4 * pg + 1) from by omega, g _ (by omega), e1]
  · rw [show 5 + pg * 4 + 2 = 5 + (4 * pg + 2) from by omega, g _ (by omega), e2]
  · rw [show 5 + pg * 4 + 3 = 5 + (4 * pg + 3) from by omega, g _ (by omega), e3]

theorem qCells_set (tb : Nat) (fv : Value) (s : Sta) (k : Nat) (v : Int) : (qCells tb fv s).setIfInBounds (5 + k) (.int .u8 v) = qCells tb fv { s with disk := s.disk.set k v } := by
  unfold qCells
  rw [List.setIfInBounds_toArray, show 5 + k = k + 5 from Nat.add_comm _ _]
  simp [List.map_set]
theorem qCells_dput (tb : Nat) (fv : Value) (s : Sta) (pg : Nat) (d : B4) :
    (((((qCells tb fv s).setIfInBounds (5 + pg * 4) (.int .u8 d.a)).setIfInBounds (5 + pg * 4 + 1) (.int .u8 d.b)).setIfInBounds (5 + pg * 4 + 2) (.int .u8 d.c)).setIfInBounds (5 + pg * 4 + 3) (.int .u8 d.d)) = qCells tb fv { s with disk := dput s.disk pg d } := by
  rw [show 5 + pg * 4 + 1 = 5 + (4 * pg + 1) from by omega, show 5 + pg * 4 + 2 = 5 + (4 * pg + 2) from by omega, show 5 + pg * 4 + 3 = 5 + (4 * pg + 3) from by omega, show 5 + pg * 4 = 5 + 4 * pg from by omega]
  rw [qCells_set, qCells_set, qCells_set, qCells_set]
  rfl
/-- Behind a try's end, ahead of Land: how things lie. -/
theorem land_end {w W : World} {q tb mb clock : Nat} {fv : Value} {s : Sta} (h : QB w q tb mb clock fv s) {e : Ent} (he : e ∈ s.es) {r' : Req} {disk' : List Int} (hr : r'.num = e.r.num ∧ r'.page = e.r.page) (hd : disk'.length = 64)
    (hque : W.heap[q]? = some (.cells (qCells tb fv { s with disk := disk' }) 89 (0, 0))) (hreq : ReqB W e.p r') (hc : Chg (fun k => k = q ∨ k = e.p) w W) :
    QB W q tb mb clock fv { s with es := updE s.es e.r.num (fun _ => r'), disk := disk' } ∧ (⟨r', e.p, e.born⟩ : Ent) ∈ updE s.es e.r.num (fun _ => r') := by
  have := h.landed he hr hd hque hreq hc
  rw [updE_const] at this
  exact ⟨this, mem_updE he fun _ => r'⟩
theorem mem_landE {es : List Ent} {e x : Ent} (h : x ∈ landE es e) : x ∈ es := by
  unfold landE at h
  split at h
  · exact (List.mem_filter.1 h).1
  · exact h
theorem land_fin {W W' : World} {q tb mb clock : Nat} {fv : Value} {s : Sta} {e : Ent} {r' : Req} {disk' : List Int} (h : QB W q tb mb clock fv { s with es := updE s.es e.r.num (fun _ => r'), disk := disk' })
    (hT : TabB W' tb mb clock s.last s.held (landE (updE s.es e.r.num fun _ => r') ⟨r', e.p, e.born⟩)) (hc : Chg (fun k => k = mb) W W') :
    QB W' q tb mb clock fv { s with es := landE (updE s.es e.r.num fun _ => r') ⟨r', e.p, e.born⟩, disk := disk' } :=
  h.tabs clock { s with es := landE (updE s.es e.r.num fun _ => r') ⟨r', e.p, e.born⟩, disk := disk' } ⟨rfl, rfl, rfl, rfl⟩ rfl hT hc fun _ hk => .inr (.inl hk)
end Go.Proofs.YticobikhndlejaaGreatDoor
