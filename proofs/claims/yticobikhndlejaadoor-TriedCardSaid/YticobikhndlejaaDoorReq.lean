/- The requests' own methods: blocks, Compare, Fail. -/
import Derived.Test.YticobikhndlejaaDoorPure
import Derived.RegionTactic
import Derived.ChangeAlike
import Derived.BigQuiet
import Derived.Deep.QuietTactic
import Derived.BigRegion
namespace Go.Proofs.YticobikhndlejaaDoor
open Go.RowKit

/-- A request's block, cell by cell. -/
structure ReqAt (w : World) (p : Nat) (r : Req) : Prop where
  c0 : w.cell? ⟨p, 0, none⟩ = some (.int .i64 r.num)
  c1 : w.cell? ⟨p, 1, none⟩ = some (.bool r.write)
  c2 : w.cell? ⟨p, 2, none⟩ = some (.int .i64 r.page)
  c3 : w.cell? ⟨p, 3, none⟩ = some (.int .u8 r.data.a)
  c4 : w.cell? ⟨p, 4, none⟩ = some (.int .u8 r.data.b)
  c5 : w.cell? ⟨p, 5, none⟩ = some (.int .u8 r.data.c)
  c6 : w.cell? ⟨p, 6, none⟩ = some (.int .u8 r.data.d)
  c7 : w.cell? ⟨p, 7, none⟩ = some (.int .i64 r.state)
  c8 : w.cell? ⟨p, 8, none⟩ = some (.int .i64 r.tries)
  c9 : w.cell? ⟨p, 9, none⟩ = some (.int .i64 r.after)
  c10 : w.cell? ⟨p, 10, none⟩ = some (.bool r.alone)
  c11 : w.cell? ⟨p, 11, none⟩ = some (.bool r.inAir)
  c12 : w.cell? ⟨p, 12, none⟩ = some (.bool r.told)
abbrev ReqB (w : World) (p : Nat) (r : Req) : Prop := w.heap[p]? = some (.cells (reqCells r) 77 (0, 0))
theorem ReqB.at {w : World} {p : Nat} {r : Req} (h : ReqB w p r) : ReqAt w p r := by
  constructor <;> exact cell_of h rfl

set_option maxRecDepth 100000 in
set_option maxHeartbeats 1000000 in
theorem blocks_any (a b : Nat) (o r : Req) (w : World) (ha : ReqB w a o) (hb : ReqB w b r) :
    Calls Tryd.prog 35 #[.pointer (some ⟨a, 0, none⟩), .pointer (some ⟨b, 0, none⟩)] w fun e w' => e = .returned (.bool (o.blocks r)) ∧ ∃ n, w' = w.drewN n := by
  obtain ⟨a0, a1, a2, _, _, _, _, a7, _, _, _, a11, _⟩ := ha.at
  obtain ⟨b0, b1, b2, _, _, _, _, _, _, _, _, _, _⟩ := hb.at
  clear ha hb
  obtain ⟨num, write, page, data, state, tries, after, alone, inAir, told⟩ := o
  obtain ⟨num', write', page', data', state', tries', after', alone', inAir', told'⟩ := r
  simp only at *
  by_cases h1 : num < num'
  · have d1 : decide (num < num') = true := by simpa using h1
    by_cases h2 : page = page'
    · have d2 : (page == page') = true := by simpa using h2
      by_cases h3 : state = 0
      · have d3 : (state == 0) = true := by simpa using h3
        clear h3
        cases write <;> cases write' <;>
        (go_enter Tryd.func35, Tryd.ntmps35; go_wp2; go_quiet (fail); go_wp2; go_ret; exact ⟨by simp [Req.blocks, d3, h1, h2], _, rfl⟩)
      · have d3 : (state == 0) = false := by simpa using h3
        clear h3
        cases write <;> cases write' <;> cases inAir <;>
        (go_enter Tryd.func35, Tryd.ntmps35; go_wp2; go_quiet (fail); go_wp2; go_ret; exact ⟨by simp [Req.blocks, d3, h1, h2], _, rfl⟩)
    · have d2 : (page == page') = false := by simpa using h2
      (go_enter Tryd.func35, Tryd.ntmps35; go_wp2; go_quiet (fail); go_wp2; go_ret; exact ⟨by simp [Req.blocks, d2, h1], _, rfl⟩)
  · have d1 : decide (num < num') = false := by simpa using h1
    (go_enter Tryd.func35, Tryd.ntmps35; go_wp2; go_quiet (fail); go_wp2; go_ret; exact ⟨by simp [Req.blocks, d1], _, rfl⟩)

set_option maxRecDepth 100000 in
theorem compare_any (a b : Nat) (o r : Req) (w : World) (ha : ReqB w a o) (hb : ReqB w b r) (h1 : 0 ≤ o.page ∧ o.page < 16) (h2 : 0 ≤ r.page ∧ r.page < 16) (h3 : 0 ≤ o.num ∧ o.num ≤ 2 ^ 60) (h4 : 0 ≤ r.num ∧ r.num ≤ 2 ^ 60) :
    Calls Tryd.prog 51 #[.pointer (some ⟨a, 0, none⟩), .pointer (some ⟨b, 0, none⟩)] w fun e w' => e = .returned (.int .i64 (o.cmp r)) ∧ ∃ n, w' = w.drewN n := by
  obtain ⟨a0, a1, a2, _, _, _, _, a7, _, _, _, a11, _⟩ := ha.at
  obtain ⟨b0, b1, b2, _, _, _, _, _, _, _, _, _, _⟩ := hb.at
  clear ha hb
  obtain ⟨num, write, page, data, state, tries, after, alone, inAir, told⟩ := o
  obtain ⟨num', write', page', data', state', tries', after', alone', inAir', told'⟩ := r
  simp only at *
  have e1 := h3.1; have e2 := h4.1; have e3 := h3.2; have e4 := h4.2; have e5 := h1.1; have e6 := h1.2; have e7 := h2.1; have e8 := h2.2
  clear h1 h2 h3 h4
  by_cases h : page = page'
  · have d2 : (page != page') = false := by simpa using h
    go_enter Tryd.func51, Tryd.ntmps51
    go_wp2
    go_quiet (fail)
    go_wp2
    go_quiet (fail)
    go_wp2
    go_ret
    exact ⟨by simp [Req.cmp, h], _, World.drewN_drewN ..⟩
  · have d2 : (page != page') = true := by simpa using h
    go_enter Tryd.func51, Tryd.ntmps51
    go_wp2
    go_quiet (fail)
    go_wp2
    go_quiet (fail)
    go_wp2
    go_ret
    exact ⟨by simp [Req.cmp, h], _, World.drewN_drewN ..⟩
end Go.Proofs.YticobikhndlejaaDoor
