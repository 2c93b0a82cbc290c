/- errors.As by contracts. -/
import Derived.Test.YticobikhndlejaaDoorErrAs
namespace Go.Proofs.YticobikhndlejaaDoor
open Go.RowKit Go.Extern.Stop Go.Stop Go.Extern

theorem lt_of_cell {w : World} {a : Addr} {v : Value} (h : w.cell? a = some v) : a.block < w.heap.size := by
  rcases Nat.lt_or_ge a.block w.heap.size with h' | h'
  · exact h'
  · simp [World.cell?, Array.getElem?_eq_none h'] at h

set_option maxRecDepth 100000 in
set_option maxHeartbeats 1000000 in
theorem as1_hitR (p : Nat) (t a : Addr) (old : Value) (w : World) (ha : w.cell? a = some (.pointer (some t))) (ht : w.cell? t = some old) (hf : w.frozen? t = false) :
    Calls Tryd.prog 56 #[errR p, .iface 106 (.pointer (some t)), rval 106 a 150, rty 56] w fun e w' => e = .returned (.bool true) ∧
      w' = ((w.alloc (.cells #[hdl 106, .pointer (some a), .int .u64 150] 128)).alloc (.cells #[.pointer (some ⟨p, 0, none⟩)] 56)).setCell t (.pointer (some ⟨p, 0, none⟩)) := by
  have hla := lt_of_cell ha
  have hlt := lt_of_cell ht
  have c1 := Tryd.toR p
  have c2 := Tryd.asRR
  have c3 := Tryd.evPP a t (w.alloc (.cells #[hdl 106, .pointer (some a), .int .u64 150] 128)) (by rw [World.cell?_alloc_lt _ _ _ hla]; exact ha)
  have c4 := Tryd.voR p
  have c5 := Tryd.setR t ⟨w.heap.size + 1, 0, none⟩ p old ((w.alloc (.cells #[hdl 106, .pointer (some a), .int .u64 150] 128)).alloc (.cells #[.pointer (some ⟨p, 0, none⟩)] 56)) (by rw [World.cell?_alloc_at _ _ _ _ (by simp)]; rfl)
    (by rw [World.cell?_alloc_lt _ _ t (by simp; omega), World.cell?_alloc_lt _ _ t hlt]; exact ht) (by rw [World.frozen?_alloc_old _ _ t (by simp; omega), World.frozen?_alloc_old _ _ t (by omega)]; exact hf)
  clear ha ht hf hla hlt
  go_enter Tryd.func56, Tryd.ntmps56
  go_wp2
  refine wp_loop_rounds 1 ?_
  rw [rounds_succ]
  go_wp2
  go_ret
  exact ⟨rfl, rfl⟩
set_option maxRecDepth 100000 in
set_option maxHeartbeats 1000000 in
theorem as1_hitK (k : Int) (t a : Addr) (old : Value) (w : World) (ha : w.cell? a = some (.pointer (some t))) (ht : w.cell? t = some old) (hf : w.frozen? t = false) :
    Calls Tryd.prog 56 #[errK k, .iface 107 (.pointer (some t)), rval 107 a 150, rty 22] w fun e w' => e = .returned (.bool true) ∧
      w' = ((w.alloc (.cells #[hdl 107, .pointer (some a), .int .u64 150] 128)).alloc (.cells #[.int .i64 k] 22)).setCell t (.int .i64 k) := by
  have hla := lt_of_cell ha
  have hlt := lt_of_cell ht
  have c1 := Tryd.cfTypeOfK k
  have c2 := Tryd.asKK
  have c3 := Tryd.evPK a t (w.alloc (.cells #[hdl 107, .pointer (some a), .int .u64 150] 128)) (by rw [World.cell?_alloc_lt _ _ _ hla]; exact ha)
  have c4 := Tryd.voK k
  have c5 := Tryd.setK t ⟨w.heap.size + 1, 0, none⟩ k old ((w.alloc (.cells #[hdl 107, .pointer (some a), .int .u64 150] 128)).alloc (.cells #[.int .i64 k] 22)) (by rw [World.cell?_alloc_at _ _ _ _ (by simp)]; rfl)
    (by rw [World.cell?_alloc_lt _ _ t (by simp; omega), World.cell?_alloc_lt _ _ t hlt]; exact ht) (by rw [World.frozen?_alloc_old _ _ t (by simp; omega), World.frozen?_alloc_old _ _ t (by omega)]; exact hf)
  clear ha ht hf hla hlt
  go_enter Tryd.func56, Tryd.ntmps56
  go_wp2
  refine wp_loop_rounds 1 ?_
  rw [rounds_succ]
  go_wp2
  go_ret
  exact ⟨rfl, rfl⟩
set_option maxRecDepth 100000 in
set_option maxHeartbeats 1000000 in
theorem as1_missK (k : Int) (t a : Addr) (w : World) :
    Calls Tryd.prog 56 #[errK k, .iface 106 (.pointer (some t)), rval 106 a 150, rty 56] w fun e w' => e = .returned (.bool false) ∧
      w' = w.alloc (.cells #[hdl 106, .pointer (some a), .int .u64 150] 128) := by
  have c1 := Tryd.cfTypeOfK k
  have c2 := Tryd.asKR
  have c3 := Tryd.noAsK
  have c4 := Tryd.noUnK
  have c5 := Tryd.noUnsK
  go_enter Tryd.func56, Tryd.ntmps56
  go_wp2
  refine wp_loop_rounds 1 ?_
  rw [rounds_succ]
  go_wp2
  go_ret
  exact ⟨rfl, rfl⟩
end Go.Proofs.YticobikhndlejaaDoor
