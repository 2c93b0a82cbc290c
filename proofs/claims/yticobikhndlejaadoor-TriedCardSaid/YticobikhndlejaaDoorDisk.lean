/- Disk by contract. -/
import Derived.Test.YticobikhndlejaaDoorPoll
import Derived.Test.YticobikhndlejaaDoorLoad
namespace Go.Proofs.YticobikhndlejaaDoor
open Go.RowKit Go.Shelf Go.Lib

theorem take4 {α : Type} (l : List α) (d : α) (hl : l.length = 64) {j : Nat} (hj : j < 16) : l.take (4 * (j + 1)) = l.take (4 * j) ++ [l.getD (4 * j) d, l.getD (4 * j + 1) d, l.getD (4 * j + 2) d, l.getD (4 * j + 3) d] := by
  have g : ∀ k, k < 64 → l[k]? = some (l.getD k d) := fun k hk => by
    rw [List.getD_eq_getElem?_getD, List.getElem?_eq_getElem (show k < l.length by omega)]; rfl
  have e : ∀ k (hk : k < l.length), l[k] = l.getD k d := fun k hk => by
    have := g k (by omega)
    rw [List.getElem?_eq_getElem hk] at this
    exact Option.some.inj this
  rw [show 4 * (j + 1) = 4 * j + 1 + 1 + 1 + 1 from by omega, List.take_succ_eq_append_getElem (by omega), List.take_succ_eq_append_getElem (by omega), List.take_succ_eq_append_getElem (by omega), List.take_succ_eq_append_getElem (by omega)]
  rw [e, e, e, e]
  simp [List.append_assoc]

set_option maxRecDepth 100000 in
theorem disk_any (q : Nat) (s : Sta) (F : Nat → Prop) (w : World) (h : QAt w q s F) :
    Calls Tryd.prog 17 #[ptr q] w fun x w' => ∃ v, x = .returned v ∧ w'.ownsRow w.heap.size 5 1 v 64 (s.disk.map fun b => Value.int .u8 b) ∧ Below w.heap.size w w' := by
  obtain ⟨tb, mb, clock, fv, hq, hF⟩ := h
  obtain ⟨l, hl⟩ : ∃ l, (s.disk.map fun b => Value.int .u8 b) = l := ⟨_, rfl⟩
  have hll : l.length = 64 := by rw [← hl, List.length_map]; exact hq.disk
  have hcell : ∀ j v, l.toArray.toList[j]? = some v → w.cell? ⟨q, 5 + j, none⟩ = some v := fun j v hv => hq.disk_cell j v (by rw [hl]; simpa using hv)
  obtain ⟨i0, hi, hz0, hz1, hz2⟩ := info_parts Tryd.infoB
  rw [hl]
  have hx : ∀ k, k < 64 → ∃ x, l.getD k undef = .int .u8 x := fun k hk => by
    rw [← hl, List.getD_eq_getElem?_getD, List.getElem?_map, List.getElem?_eq_getElem (show k < s.disk.length by rw [hq.disk]; exact hk)]
    exact ⟨_, rfl⟩
  have HX := Lib.hid hx
  have HL := Lib.hid hll
  have HC := Lib.hid hcell
  clear hq hF hll hl hcell hx
  go_enter Tryd.func17, Tryd.ntmps17
  go_wp2_with (refine wpList_load_at rfl 68 _ rfl q 5 rfl l.toArray _ HC.out Tryd.underlying68 rfl (by simp only [List.size_toArray, HL.out]; kernel_rfl) ?_)
  go_loopg [3, 10] 16 (fun k out i wr => ∃ j : Nat, k = 16 - j ∧ j ≤ 16 ∧ i = .int .i64 j ∧ wr.ownsRow w.heap.size 5 1 out (4 * j) (l.take (4 * j)) ∧ Below w.heap.size w wr)
  case atStart => exact ⟨0, by simp, by omega, rfl, World.ownsRow_nil _ _ _ _, Below.refl _ _⟩
  case round =>
    obtain ⟨j, rfl, hj, rfl, hrow, hB⟩ := hrel
    by_cases hlt : j < 16
    · have hix := index_disk l HL.out j hlt
      have hT := take4 l undef HL.out hlt
      obtain ⟨b0, hb0⟩ := HX.out (4 * j) (by omega)
      obtain ⟨b1, hb1⟩ := HX.out (4 * j + 1) (by omega)
      obtain ⟨b2, hb2⟩ := HX.out (4 * j + 2) (by omega)
      obtain ⟨b3, hb3⟩ := HX.out (4 * j + 3) (by omega)
      rw [hb0, hb1, hb2, hb3] at hix hT
      have HT := Lib.hid hT
      clear hT
      have hsz := hB.size
      have hltI : (j : Int) < 16 := by omega
      obtain ⟨W0, hW0⟩ : ∃ W0, wr.alloc (.cells #[.int .u8 b0, .int .u8 b1, .int .u8 b2, .int .u8 b3] 67) = W0 := ⟨_, rfl⟩
      have hb0' : Below w.heap.size w W0 := by rw [← hW0]; exact hB.alloc hsz _
      have hr0 : W0.heap[wr.heap.size]? = some (.cells #[.int .u8 b0, .int .u8 b1, .int .u8 b2, .int .u8 b3] 67 (0, 0)) := by rw [← hW0]; exact World.alloc_heap_new wr _
      have hrow0 : W0.ownsRow w.heap.size 5 1 u3 (4 * j) (l.take (4 * j)) := by rw [← hW0]; exact hrow.alloc _
      clear hb0 hb1 hb2 hb3 hrow
      have hs0 : W0.heap.size = wr.heap.size + 1 := by rw [← hW0]; simp
      have HN := Lib.hid (World.news_of_block hr0)
      go_wp2_with (at_builtin; refine wpList_append_own _ rfl _ _ 44 rfl w.heap.size 5 i0 (.int .u8 0) 1 1 Tryd.underlying44 hi hz0 hz1 hz2 rfl (by decide) _ _ _ rfl hrow0 ⟨wr.heap.size, 0, none⟩ 4 4 [.int .u8 b0, .int .u8 b1, .int .u8 b2, .int .u8 b3] rfl rfl HN.out (by simp [Value.oneCell']) ?_ ?_ ?_ ?_)
      · unfold maxLen; omega
      · omega
      · omega
      intro v' w2 hown' hgrow _
      have hB2 : Below w.heap.size w w2 := hb0'.grown hgrow (by omega) (fun k ek => (hrow0.lt k ek).1)
      have hown2 : w2.ownsRow w.heap.size 5 1 v' (4 * (j + 1)) (l.take (4 * (j + 1))) := by
        rw [HT.out]; exact hown'
      have HO2 := Lib.hid hown2
      clear hown' hgrow hown2 hrow0
      go_wp2
      go_roundg (16 - (j + 1))
      case measure => omega
      case rel => exact ⟨j + 1, rfl, by omega, by go_num, HO2.out, hB2⟩
    · obtain rfl : j = 16 := by omega
      have HR := Lib.hid hrow
      clear hrow
      go_wp2
      go_ret
      have h1 := HR.out
      rw [show 4 * 16 = l.length from by rw [HL.out], List.take_length, HL.out] at h1
      exact ⟨_, rfl, h1, hB⟩
end Go.Proofs.YticobikhndlejaaDoor
