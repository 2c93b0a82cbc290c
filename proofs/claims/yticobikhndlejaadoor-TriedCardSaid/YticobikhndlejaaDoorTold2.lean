/- api.Told, plain.told by contracts. -/
import Derived.Test.YticobikhndlejaaDoorTold
import Derived.Test.YticobikhndlejaaDoorBase
namespace Go.Proofs.YticobikhndlejaaDoor
open Go.RowKit Go.Extern.Stop Go.Stop Go.Extern

theorem ErrVar.chg {S : Nat → Prop} {w w' : World} (h : ErrVar w) (hc : Chg S w w') (h0 : ¬ S 0) : ErrVar w' := (hc.cell (p := ⟨0, 0, none⟩) (lt_of_cell h) h0).trans h
theorem ReqErr.lt {w : World} {p : Nat} {r t k : Int} (h : ReqErr w p r t k) : p < w.heap.size := lt_of_cell h.c0
theorem ReqErr.chg {S : Nat → Prop} {w w' : World} {p : Nat} {r t k : Int} (h : ReqErr w p r t k) (hc : Chg S w w') (hp : ¬ S p) : ReqErr w' p r t k :=
  ⟨(hc.cell (p := ⟨p, 0, none⟩) h.lt hp).trans h.c0, (hc.cell (p := ⟨p, 1, none⟩) h.lt hp).trans h.c1, (hc.cell (p := ⟨p, 2, none⟩) h.lt hp).trans h.c2⟩

set_option maxRecDepth 100000 in
theorem apiTold_nil (w : World) : Calls Tryd.prog 27 #[.nilIface] w fun e w' => e = .returned (.tuple #[.int .i64 0, .int .i64 (-1), .int .i64 0]) ∧ Below w.heap.size w w' := by
  go_enter Tryd.func27, Tryd.ntmps27
  go_wp2_with (go_at_call 43; refine (as_nil _ _).mono ?_; rintro e w' ⟨rfl, rfl⟩)
  go_ret3
  exact ⟨rfl, by go_grown⟩
set_option maxRecDepth 100000 in
theorem apiTold_K (k : Int) (w : World) (hg : ErrVar w) : Calls Tryd.prog 27 #[errK k] w fun e w' => e = .returned (.tuple #[.int .i64 k, .int .i64 (-1), .int .i64 0]) ∧ Below w.heap.size w w' := by
  have h1 := as_missK k w.heap.size (w.alloc (.cells #[.pointer none] 56)) (hg.alloc _)
  have H1 := Lib.hid h1
  have H2 := Lib.hid hg
  have h0 : 0 < w.heap.size := lt_of_cell hg
  clear h1 hg
  go_enter Tryd.func27, Tryd.ntmps27
  go_wp2_with fail
  refine H1.out.mono ?_
  rintro e w' ⟨rfl, o1, o2, o3, rfl⟩
  go_wp2_with fail
  refine (as_hitK k (w.heap.size + 1 + 1 + 1 + 1) (.int .i64 0) _ ?_ ?_ ?_).mono ?_
  · exact ((((H2.out.alloc _).alloc _).alloc _).alloc _).alloc _
  · exact cell_new (by simp)
  · exact free_new (by simp)
  rintro e w' ⟨rfl, o4, o5, o6, o7, rfl⟩
  go_wp2
  go_ret3
  exact ⟨rfl, by go_grown⟩

set_option maxRecDepth 100000 in
theorem apiTold_R (p : Nat) (r t k : Int) (w : World) (hg : ErrVar w) (hp : ReqErr w p r t k) : Calls Tryd.prog 27 #[errR p] w fun e w' => e = .returned (.tuple #[.int .i64 k, .int .i64 r, .int .i64 t]) ∧ Below w.heap.size w w' := by
  have hlt := hp.lt
  have h1 := as_hitR p w.heap.size (.pointer none) (w.alloc (.cells #[.pointer none] 56)) (hg.alloc _) (by simp) (by simp)
  have H1 := Lib.hid h1
  have H2 := Lib.hid hp
  clear h1 hp
  go_enter Tryd.func27, Tryd.ntmps27
  go_wp2_with fail
  refine H1.out.mono ?_
  rintro e w' ⟨rfl, o1, o2, o3, o4, hw⟩
  have hb : Below w.heap.size w w' := by subst hw; go_grown
  have hr := H2.out.chg (chgB hb (fun _ => False)) (fun h => h)
  have hc : w'.cell? ⟨w.heap.size, 0, none⟩ = some (.pointer (some ⟨p, 0, none⟩)) := by subst hw; exact World.cell?_setCell_same' _ _ _ (by simp [go_sem])
  clear hw H1 H2
  obtain ⟨c0, c1, c2⟩ := hr
  go_wp2
  go_region
  go_wp2
  go_ret3
  exact ⟨rfl, hb.drew⟩

/-- WHAT told ANSWERS: the kind, the request, the tries; that errors.Is says the same. -/
abbrev plErr (k r t : Int) : Value := .agg #[.int .i64 k, .int .i64 r, .int .i64 t, .bool true]

set_option maxRecDepth 100000 in
set_option maxHeartbeats 1000000 in
/-- plain.told, out of what api.Told and errors.Is say of the error. -/
theorem told_of (err : Value) (k r t : Int) (w : World) (_hk : 0 ≤ k ∧ k ≤ 10)
    (hT : Calls Tryd.prog 27 #[err] (w.alloc (.cells #[.int .i64 0, .int .i64 0, .int .i64 0, .bool false] 24)) fun e w' => e = .returned (.tuple #[.int .i64 k, .int .i64 r, .int .i64 t]) ∧ Below (w.heap.size + 1) (w.alloc (.cells #[.int .i64 0, .int .i64 0, .int .i64 0, .bool false] 24)) w')
    (hI : ∀ (i : Int) (W : World), 1 ≤ i → i ≤ 10 → Below w.heap.size w W → Calls Tryd.prog 28 #[err, errK i] W fun e w' => e = .returned (.bool (k == i)) ∧ W = w') :
    Calls Tryd.prog 18 #[err] w fun e w' => e = .returned (plErr k r t) ∧ Below w.heap.size w w' := by
  have HT := Lib.hid hT
  have HI := Lib.hid hI
  clear hT hI
  go_enter Tryd.func18, Tryd.ntmps18
  go_wp2_with fail
  refine HT.out.mono ?_
  rintro e w1 ⟨rfl, hb⟩
  go_wp2_with fail
  have hbW : Below w.heap.size w (w1.alloc (.cells #[.int .i64 k, .int .i64 r, .int .i64 t, .bool true] 24)) :=
    ((((Below.refl _ _).alloc (Nat.le_refl _) _).trans (hb.mono (by omega))).alloc (by have := hb.size; simp at this; omega) _)
  have hbd : w.heap.size < w1.heap.size := by have := hb.size; simp at this; omega
  go_loop [7] (fun i => ∃ j : Int, 1 ≤ j ∧ j ≤ 11 ∧ i = .int .i64 j) (fun i => (11 - intOf i).toNat)
  case atStart => exact ⟨1, by omega, by omega, rfl⟩
  case round =>
    obtain ⟨j, hj1, hj2, rfl⟩ := hrel
    by_cases hlt : j ≤ 10
    · have hs : (j == k) = (k == j) := by rw [Bool.eq_iff_iff]; simp; exact eq_comm
      have hs2 : ((k == j) != (k == j)) = false := by simp
      have HW := Lib.hid hbW
      clear hbW
      go_wp2_with (go_at_call 28; refine (HI.out j _ (by omega) (by omega) HW.out).mono ?_; rintro e w' ⟨rfl, rfl⟩)
      go_round
      case rel => exact ⟨j + 1, by omega, by omega, rfl⟩
      case measure => simp [intOf]; omega
    · have hc : ∀ i, w1.cell? ⟨w.heap.size, i, none⟩ = (#[.int .i64 0, .int .i64 0, .int .i64 0, .bool false] : Array Value)[i]? := fun i => (hb.cell (p := ⟨w.heap.size, i, none⟩) (by show w.heap.size < _; omega)).trans (by simp)
      have hf : ∀ i, w1.frozen? ⟨w.heap.size, i, none⟩ = false := fun i => (hb.frozen (p := ⟨w.heap.size, i, none⟩) (by show w.heap.size < _; omega)).trans (by simp)
      have c0 := hc 0
      have c1 := hc 1
      have c2 := hc 2
      have c3 := hc 3
      have f0 := hf 0
      have f1 := hf 1
      have f2 := hf 2
      have f3 := hf 3
      simp at c0 c1 c2 c3
      have HW := Lib.hid hbW
      clear hc hf hbW
      go_wp2
      refine bodyPost_ret (v := plErr k r t) ?_ rfl ⟨rfl, ?_⟩
      · simp [results, Tryd.results18, go_sem, c0, c1, c2, c3, hbd]
      · have hb0 : Below w.heap.size w w1 := ((Below.refl _ _).alloc (Nat.le_refl _) _).trans (hb.mono (by omega))
        go_grown

theorem told_nil (w : World) : Calls Tryd.prog 18 #[.nilIface] w fun e w' => e = .returned (plErr 0 (-1) 0) ∧ Below w.heap.size w w' := by
  refine told_of _ 0 (-1) 0 w (by omega) ((apiTold_nil _).mono fun e w' ⟨he, hb⟩ => ⟨he, by simpa using hb⟩) fun i W h1 h2 _ => (is_nil i W).mono fun e w' ⟨he, hw⟩ => ⟨?_, hw⟩
  have : ((0 : Int) == i) = false := by simp; omega
  rw [he, this]
theorem told_K (k : Int) (w : World) (hk : 0 ≤ k ∧ k ≤ 10) (hg : ErrVar w) : Calls Tryd.prog 18 #[errK k] w fun e w' => e = .returned (plErr k (-1) 0) ∧ Below w.heap.size w w' :=
  told_of _ k (-1) 0 w hk ((apiTold_K k _ (hg.alloc _)).mono fun e w' ⟨he, hb⟩ => ⟨he, by simpa using hb⟩) fun i W h1 h2 _ => is_kind k i W
theorem told_R (p : Nat) (r t k : Int) (w : World) (hk : 0 ≤ k ∧ k ≤ 10) (hg : ErrVar w) (hp : ReqErr w p r t k) : Calls Tryd.prog 18 #[errR p] w fun e w' => e = .returned (plErr k r t) ∧ Below w.heap.size w w' :=
  told_of _ k r t w hk ((apiTold_R p r t k _ (hg.alloc _) (hp.chg ((Chg.refl (fun _ => False) w).alloc _) (fun h => h))).mono fun e w' ⟨he, hb⟩ => ⟨he, by simpa using hb⟩) fun i W h1 h2 hb => is_req p r t k i W (hp.chg (chgB hb (fun _ => False)) (fun h => h))
end Go.Proofs.YticobikhndlejaaDoor
