/- A queue in memory, by its state in plain Lean; the calls by contract, in those words: New, Read, Write, Tick, Poll, Disk, Step, Complete. -/
import Derived.Test.YticobikhndlejaaDoorComp2
import Derived.Test.YticobikhndlejaaDoorDisk
import Derived.Test.YticobikhndlejaaDoorOk3
namespace Go.Proofs.YticobikhndlejaaDoor
open Go.RowKit Go.Shelf Go.Lib

def Sta.er (s : Sta) : St := ⟨s.depth, s.es.map (·.r), s.last, s.held, s.cs.map (·.1), s.now, s.head, s.disk⟩
/-- At q lies a queue in state t; its blocks are among F. -/
def QT (w : World) (q : Nat) (t : St) (F : Nat → Prop) : Prop := ∃ s, QAt w q s F ∧ s.er = t
/-- No number is too large. -/
structure St.Small (t : St) : Prop where
  last : t.last < 900000
  now : t.now < 2 ^ 59
theorem QT.kept {w W : World} {q : Nat} {t : St} {F : Nat → Prop} (h : QT w q t F) {S : Nat → Prop} (hc : Chg S w W) (hn : ∀ k, F k → ¬ S k) : QT W q t F := by
  obtain ⟨s, h1, h2⟩ := h
  exact ⟨s, h1.kept hc hn, h2⟩
theorem QT.below {w W : World} {q : Nat} {t : St} {F : Nat → Prop} (h : QT w q t F) (hb : Below w.heap.size w W) : QT W q t F := h.kept (chgB hb fun _ => False) fun _ _ x => x
theorem QT.mono {w : World} {q : Nat} {t : St} {F G : Nat → Prop} (h : QT w q t F) (hFG : ∀ k, F k → G k) : QT w q t G := by
  obtain ⟨s, h1, h2⟩ := h
  exact ⟨s, h1.mono hFG, h2⟩
/-- The blocks may be taken to lie in the heap. -/
theorem QT.lt {w : World} {q : Nat} {t : St} {F : Nat → Prop} (h : QT w q t F) : QT w q t fun k => F k ∧ k < w.heap.size := by
  obtain ⟨s, ⟨tb, mb, clock, fv, h1, h2⟩, h3⟩ := h
  exact ⟨s, ⟨tb, mb, clock, fv, h1, fun k hk => ⟨h2 k hk, h1.foot_lt hk⟩⟩, h3⟩
theorem QT.qlt {w : World} {q : Nat} {t : St} {F : Nat → Prop} (h : QT w q t F) : q < w.heap.size ∧ F q := by
  obtain ⟨s, ⟨tb, mb, clock, fv, h1, h2⟩, h3⟩ := h
  exact ⟨h1.foot_lt (.inl rfl), h2 q (.inl rfl)⟩

theorem nums_len {last : Int} : ∀ {rs : List Req} (lo : Int), rs.Pairwise (·.num < ·.num) → (∀ r ∈ rs, lo < r.num ∧ r.num ≤ last) → lo ≤ last → (rs.length : Int) ≤ last - lo
  | [], _, _, _, h => by simp; omega
  | r :: rs, lo, hp, hr, h => by
    rw [List.pairwise_cons] at hp
    have h1 := hr r (by simp)
    have := nums_len (last := last) r.num hp.2 (fun x hx => ⟨hp.1 x hx, (hr x (by simp [hx])).2⟩) h1.2
    simp; omega
theorem ok_len {t : St} (h : t.Ok) : (t.rs.length : Int) ≤ t.last := by
  have := nums_len (last := t.last) 0 h.a.rs.nums (fun r hr => by have := h.a.rs.num r hr; omega) h.a.last
  omega

/-! ### from the table's entries to the requests -/
theorem er_find {s : Sta} {n : Int} : s.er.find n = (findE s.es n).map (·.r) := by
  unfold St.find findE Sta.er
  simp only [List.find?_map]
  rfl
theorem er_find_none {s : Sta} {n : Int} (h : s.er.find n = none) : findE s.es n = none := by
  rw [er_find] at h
  simpa using h
theorem er_find_some {s : Sta} {n : Int} {r : Req} (h : s.er.find n = some r) : ∃ e, findE s.es n = some e ∧ e.r = r := by
  rw [er_find] at h
  simpa [Option.map_eq_some_iff] using h
theorem land_er {es : List Ent} (hok : EntsOk es) {e : Ent} (he : e ∈ es) (f : Req → Req) (hf : (f e.r).num = e.r.num) :
    (landE (updE es e.r.num f) ⟨f e.r, e.p, e.born⟩).map (·.r) = ((es.map (·.r)).map fun r => if r.num = e.r.num then f r else r).filter fun r => !(r.num == e.r.num && (r.told && !r.inAir)) := by
  obtain ⟨l1, l2, rfl, h1, h2⟩ := hok.split he
  have g1 : ∀ x ∈ l1.map (·.r), x.num ≠ e.r.num := fun x hx => by obtain ⟨y, hy, rfl⟩ := List.mem_map.1 hx; exact h1 y hy
  have g2 : ∀ x ∈ l2.map (·.r), x.num ≠ e.r.num := fun x hx => by obtain ⟨y, hy, rfl⟩ := List.mem_map.1 hx; exact h2 y hy
  rw [List.map_append, List.map_cons, map_split f g1 g2, drop_split g1 g2 (f e.r) hf, updE_split f rfl h1 h2]
  unfold landE
  simp only
  split
  · have hd : dropE (l1 ++ ⟨f e.r, e.p, e.born⟩ :: l2) (f e.r).num = l1 ++ l2 := dropE_split (e := ⟨f e.r, e.p, e.born⟩) (fun x hx => by show x.r.num ≠ (f e.r).num; rw [hf]; exact h1 x hx) (fun x hx => by show x.r.num ≠ (f e.r).num; rw [hf]; exact h2 x hx)
    rw [hd, List.map_append]
  · rw [List.map_append, List.map_cons]
theorem er_tell {s : Sta} (hok : EntsOk s.es) {e : Ent} {n : Int} (he : e ∈ s.es) (hn : e.r.num = n) : ({ s with es := tellE s.es e, held := s.held - 1 } : Sta).er = s.er.tell n := by
  subst hn
  unfold Sta.er St.tell St.tellRs tellE
  simp only
  rw [land_er hok he tellR rfl]
theorem er_give {s : Sta} {n : Int} (f : Req → Req) : ({ s with es := updE s.es n f } : Sta).er = { s.er with rs := s.er.rs.map fun r => if r.num = n then f r else r } := by
  unfold Sta.er updE
  simp only [List.map_map]
  congr 1
  refine List.map_congr_left fun x _ => ?_
  simp only [Function.comp]
  split <;> rfl
theorem er_land {s : Sta} (hok : EntsOk s.es) (fault : Bool) (n : Int) : (landS fault s n).er = s.er.land fault n := by
  cases hf : s.es.find? fun e => e.r.num == n with
  | none =>
    have hf2 : (s.er.rs.find? fun r => r.num == n) = none := by
      unfold Sta.er
      simp only [List.find?_map]
      rw [show ((fun r : Req => r.num == n) ∘ fun e : Ent => e.r) = fun e : Ent => e.r.num == n from rfl, hf]; rfl
    unfold landS St.land
    rw [hf, hf2]
  | some e =>
    have he := List.mem_of_find?_eq_some hf
    have hn := List.find?_some hf
    simp at hn
    subst hn
    have hf2 : (s.er.rs.find? fun r => r.num == e.r.num) = some e.r := by
      unfold Sta.er
      simp only [List.find?_map]
      rw [show ((fun r : Req => r.num == e.r.num) ∘ fun x : Ent => x.r) = fun x : Ent => x.r.num == e.r.num from rfl, hf]; rfl
    unfold landS St.land
    rw [hf, hf2]
    have h1 := landR_num s.now s.disk fault e.r
    have h2 : updE s.es e.r.num (fun _ => St.landR s.now s.disk fault e.r) = updE s.es e.r.num (St.landR s.now s.disk fault) := by
      refine List.map_congr_left fun x hx => ?_
      split
      · rename_i hh
        obtain ⟨l1, l2, e1, g1, g2⟩ := hok.split he
        have hxe : x = e := by
          rw [e1] at hx
          rcases List.mem_append.1 hx with hx | hx
          · exact absurd hh (g1 x hx)
          · rcases List.mem_cons.1 hx with hx | hx
            · exact hx
            · exact absurd hh (g2 x hx)
        rw [hxe]
      · rfl
    unfold Sta.er
    simp only
    rw [h2, land_er hok he (St.landR s.now s.disk fault) h1.1]
theorem er_ok {s : Sta} (h : s.er.Ok) (hl : s.er.Small) : EntsOk s.es := by
  refine ⟨fun e he => ?_, fun e he => ?_, ?_⟩
  · exact (h.a.rs.ok e.r (List.mem_map_of_mem he)).page
  · have := h.a.rs.num e.r (List.mem_map_of_mem he)
    have h2 := hl.last
    have : s.er.last = s.last := rfl
    omega
  · have := h.a.rs.nums
    exact (List.pairwise_map (f := fun e : Ent => e.r) (R := fun x y : Req => x.num < y.num)).1 this
end Go.Proofs.YticobikhndlejaaDoor
