/- errors.As, api.Told, plain.told by contracts. -/
import Derived.Test.YticobikhndlejaaDoorErrAs1
import Derived.Lib.Hide
import Derived.RegionTactic
import Derived.ChangeAlike
import Derived.BigQuiet
import Derived.Deep.QuietTactic
namespace Go.Proofs.YticobikhndlejaaDoor
open Go.RowKit Go.Extern.Stop Go.Stop Go.Extern

set_option maxRecDepth 100000 in
theorem as_nil (t : Value) (w : World) : Calls Tryd.prog 43 #[.nilIface, t] w fun e w' => e = .returned (.bool false) ∧ w = w' := by
  go_enter Tryd.func43, Tryd.ntmps43
  go_wp2
  go_ret
  exact ⟨rfl, rfl⟩
/-- the world behind the first two blocks of errors.As -/
abbrev asW (w : World) (t : Nat) (b : Nat) : World := (w.alloc (.cells #[.pointer (some ⟨t, 0, none⟩)] b)).alloc (.cells #[hdl b, .pointer (some ⟨w.heap.size, 0, none⟩), .int .u64 150] 128)
theorem ErrVar.alloc {w : World} (h : ErrVar w) (o : Obj) : ErrVar (w.alloc o) := by
  have := lt_of_cell h
  unfold ErrVar
  rw [World.cell?_alloc_lt _ _ _ this]; exact h
set_option maxRecDepth 100000 in
set_option maxHeartbeats 1000000 in
theorem as_hitR (p t : Nat) (old : Value) (w : World) (hg : ErrVar w) (ht : w.cell? ⟨t, 0, none⟩ = some old) (hf : w.frozen? ⟨t, 0, none⟩ = false) :
    Calls Tryd.prog 43 #[errR p, .iface 106 (.pointer (some ⟨t, 0, none⟩))] w fun e w' => e = .returned (.bool true) ∧
      ∃ o1 o2 o3 o4, w' = ((((w.alloc o1).alloc o2).alloc o3).alloc o4).setCell ⟨t, 0, none⟩ (.pointer (some ⟨p, 0, none⟩)) := by
  have hlt := lt_of_cell ht
  have h0 := lt_of_cell hg
  have hg1 : ErrVar (asW w t 106) := (hg.alloc _).alloc _
  have ht1 : (asW w t 106).cell? ⟨t, 0, none⟩ = some old := by
    rw [World.cell?_alloc_lt _ _ _ (by simp; exact Nat.lt_succ_of_lt hlt), World.cell?_alloc_lt _ _ _ hlt]; exact ht
  have hf1 : (asW w t 106).frozen? ⟨t, 0, none⟩ = false := by
    have : t < w.heap.size := hlt
    rw [World.frozen?_alloc_old _ _ _ (by simp; omega), World.frozen?_alloc_old _ _ _ (by show t ≠ _; omega)]; exact hf
  have ha1 : (asW w t 106).cell? ⟨w.heap.size, 0, none⟩ = some (.pointer (some ⟨t, 0, none⟩)) := by simp
  have hc := as1_hitR p ⟨t, 0, none⟩ ⟨w.heap.size, 0, none⟩ old _ ha1 ht1 hf1
  have c1 := Tryd.voPP ⟨t, 0, none⟩
  have c2 := Tryd.tyPP
  have c3 := Tryd.kdPP
  have c4 := Tryd.inPP ⟨w.heap.size, 0, none⟩ ⟨t, 0, none⟩ _ ha1
  have c5 := Tryd.elPP
  have c6 := Tryd.kdR
  have c7 := Tryd.imR
  clear ht1 hf1 ha1 hg ht hf hlt h0
  unfold ErrVar at hg1
  have HC := Lib.hid hc
  clear hc
  go_enter Tryd.func43, Tryd.ntmps43
  go_wp2_with (go_at_call 56; refine HC.out.mono ?_; rintro e w' ⟨rfl, rfl⟩)
  go_ret
  exact ⟨rfl, _, _, _, _, rfl⟩
set_option maxRecDepth 100000 in
set_option maxHeartbeats 1000000 in
theorem as_hitK (k : Int) (t : Nat) (old : Value) (w : World) (hg : ErrVar w) (ht : w.cell? ⟨t, 0, none⟩ = some old) (hf : w.frozen? ⟨t, 0, none⟩ = false) :
    Calls Tryd.prog 43 #[errK k, .iface 107 (.pointer (some ⟨t, 0, none⟩))] w fun e w' => e = .returned (.bool true) ∧
      ∃ o1 o2 o3 o4, w' = ((((w.alloc o1).alloc o2).alloc o3).alloc o4).setCell ⟨t, 0, none⟩ (.int .i64 k) := by
  have hlt := lt_of_cell ht
  have h0 := lt_of_cell hg
  have hg1 : ErrVar (asW w t 107) := (hg.alloc _).alloc _
  have ht1 : (asW w t 107).cell? ⟨t, 0, none⟩ = some old := by
    rw [World.cell?_alloc_lt _ _ _ (by simp; exact Nat.lt_succ_of_lt hlt), World.cell?_alloc_lt _ _ _ hlt]; exact ht
  have hf1 : (asW w t 107).frozen? ⟨t, 0, none⟩ = false := by
    have : t < w.heap.size := hlt
    rw [World.frozen?_alloc_old _ _ _ (by simp; omega), World.frozen?_alloc_old _ _ _ (by show t ≠ _; omega)]; exact hf
  have ha1 : (asW w t 107).cell? ⟨w.heap.size, 0, none⟩ = some (.pointer (some ⟨t, 0, none⟩)) := by simp
  have hc := as1_hitK k ⟨t, 0, none⟩ ⟨w.heap.size, 0, none⟩ old _ ha1 ht1 hf1
  have c1 := Tryd.voPK ⟨t, 0, none⟩
  have c2 := Tryd.tyPK
  have c3 := Tryd.kdPK
  have c4 := Tryd.inPK ⟨w.heap.size, 0, none⟩ ⟨t, 0, none⟩ _ ha1
  have c5 := Tryd.elPK
  have c6 := Tryd.kdK
  have c7 := Tryd.imK
  clear ht1 hf1 ha1 hg ht hf hlt h0
  unfold ErrVar at hg1
  have HC := Lib.hid hc
  clear hc
  go_enter Tryd.func43, Tryd.ntmps43
  go_wp2_with (go_at_call 56; refine HC.out.mono ?_; rintro e w' ⟨rfl, rfl⟩)
  go_ret
  exact ⟨rfl, _, _, _, _, rfl⟩
set_option maxRecDepth 100000 in
set_option maxHeartbeats 1000000 in
theorem as_missK (k : Int) (t : Nat) (w : World) (hg : ErrVar w) :
    Calls Tryd.prog 43 #[errK k, .iface 106 (.pointer (some ⟨t, 0, none⟩))] w fun e w' => e = .returned (.bool false) ∧
      ∃ o1 o2 o3, w' = (((w.alloc o1).alloc o2).alloc o3) := by
  have hg1 : ErrVar (asW w t 106) := (hg.alloc _).alloc _
  have ha1 : (asW w t 106).cell? ⟨w.heap.size, 0, none⟩ = some (.pointer (some ⟨t, 0, none⟩)) := by simp
  have hc := as1_missK k ⟨t, 0, none⟩ ⟨w.heap.size, 0, none⟩ (asW w t 106)
  have c1 := Tryd.voPP ⟨t, 0, none⟩
  have c2 := Tryd.tyPP
  have c3 := Tryd.kdPP
  have c4 := Tryd.inPP ⟨w.heap.size, 0, none⟩ ⟨t, 0, none⟩ _ ha1
  have c5 := Tryd.elPP
  have c6 := Tryd.kdR
  have c7 := Tryd.imR
  clear ha1 hg
  unfold ErrVar at hg1
  have HC := Lib.hid hc
  clear hc
  go_enter Tryd.func43, Tryd.ntmps43
  go_wp2_with (go_at_call 56; refine HC.out.mono ?_; rintro e w' ⟨rfl, rfl⟩)
  go_ret
  exact ⟨rfl, _, _, _, rfl⟩
end Go.Proofs.YticobikhndlejaaDoor
