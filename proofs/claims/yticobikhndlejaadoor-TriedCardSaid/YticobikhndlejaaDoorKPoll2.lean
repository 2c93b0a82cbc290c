/- The statements' poll, in plain states. -/
import Derived.Test.YticobikhndlejaaDoorKO
namespace Go.Proofs.YticobikhndlejaaDoor
open Go.RowKit Go.Shelf Go.Lib

set_option maxRecDepth 100000 in
theorem kpoll_done (wo q : Nat) (rv : Value) (F : Nat → Prop) (t : St) (rs : List KReq) (w : World) (i : Nat) (num : Int) (wrt : Bool) (page : Int) (data : ByteArray) (how : Int) (read : ByteArray) (h : KB w wo q rv F t rs) (hi : rs[i]? = some ⟨num, wrt, page, data, how, read⟩) (hh : how = 1 ∨ how = 2) :
    Calls Tryd.prog 16 #[ptr wo, .int .i64 i] w fun y w' => y = .returned (.bool true) ∧ Below w.heap.size w w' := by
  obtain ⟨g, cap, cur, rfl, hg2, hg3, hg4, hg5, hg6, hcell⟩ := h.cells hi
  obtain ⟨n, hn⟩ : ∃ n, rs.length = n := ⟨_, rfl⟩
  have hil : i < n := by rw [← hn]; exact (List.getElem?_eq_some_iff.1 hi).1
  have hiI : (i : Int) < (n : Int) := by omega
  have hi0 : (0 : Int) ≤ (i : Int) := by omega
  have p0 : w.cell? ⟨g, i * 6, none⟩ = some (.int .i64 num) := hcell 0 _ rfl
  have p1 : w.cell? ⟨g, i * 6 + 1, none⟩ = some (.bool wrt) := hcell 1 _ rfl
  have p2 : w.cell? ⟨g, i * 6 + 2, none⟩ = some (.int .i64 page) := hcell 2 _ rfl
  have p3 : w.cell? ⟨g, i * 6 + 3, none⟩ = some (.string data) := hcell 3 _ rfl
  have p4 : w.cell? ⟨g, i * 6 + 4, none⟩ = some (.int .i64 how) := hcell 4 _ rfl
  have p5 : w.cell? ⟨g, i * 6 + 5, none⟩ = some (.string read) := hcell 5 _ rfl
  have c1 := h.c1
  rw [hn] at c1
  clear h hg2 hg3 hg4 hg5 hg6 hcell hi
  rcases hh with rfl | rfl
  all_goals
    go_enter Tryd.func16, Tryd.ntmps16
    go_wp2_with fail
    go_ret
    exact ⟨rfl, by go_grown⟩
theorem set_same {α : Type} : ∀ (l : List α) (i : Nat) (a : α), l[i]? = some a → l.set i a = l
  | [], _, _, h => by simp at h
  | x :: l, 0, a, h => by simp at h; simp [h]
  | x :: l, i + 1, a, h => by simp only [List.set_cons_succ]; rw [set_same l i a (by simpa using h)]
theorem poll_o {w0 w : World} {wo : Nat} {x : KW} (h : KO w0 w wo x) (hg : ErrVar w0) (hi : KInv x) (hs : x.t.Small) (i : Nat) (hil : i < x.rs.length) :
    Calls Tryd.prog 16 #[ptr wo, .int .i64 i] w fun y w' => y = .returned (.bool true) ∧ KO w0 w' wo (x.poll i) := by
  obtain ⟨q, rv, F, h1, h3⟩ := h.ex
  obtain ⟨s1, s2, s3⟩ := KO.sides (w := w) (q := q) (x := x) h3 hg
  obtain ⟨⟨num, wrt, page, data, how, read⟩, hr⟩ : ∃ r, x.rs[i]? = some r := ⟨_, List.getElem?_eq_getElem hil⟩
  have hrm : (⟨num, wrt, page, data, how, read⟩ : KReq) ∈ x.rs := List.mem_of_getElem? hr
  have hw0 := h.err hg
  have hset := set_same x.rs i _ hr
  unfold KW.poll
  rw [hr]
  simp only
  by_cases hh : how = 1 ∨ how = 2
  · rw [if_pos hh]
    refine (kpoll_done wo q rv F x.t x.rs w i num wrt page data how read h1 hr hh).mono ?_
    rintro y w' ⟨rfl, e1⟩
    exact ⟨rfl, h.later e1⟩
  rw [if_neg hh]
  have hhow := hi.how _ hrm
  simp only at hhow
  have hF0 : ¬ (F 0 ∧ 0 < w.heap.size) := fun x => s1 x.1
  have fin : ∀ (r' : KReq) (t' : St) (x' : KW) (d : Option B4) (tr k rr tt : Int), x' = ⟨x.rs.set i r', t'⟩ →
      (∀ W, QT W q x.t (fun k => F k ∧ k < w.heap.size) → ErrVar W → Calls Tryd.prog 13 #[ptr q, .int .i64 num] W fun y w' => ∃ dv F', y = .returned (.tuple #[.agg #[dv, .int .i64 tr], plErr k rr tt]) ∧ QT w' q t' F' ∧ (∀ k, F' k → (F k ∧ k < w.heap.size) ∨ W.heap.size ≤ k) ∧ Chg (fun k => F k ∧ k < w.heap.size) W w' ∧ PD d dv W.heap.size F' w') →
      POut num wrt page data how read d tr k rr tt r' →
      Calls Tryd.prog 16 #[ptr wo, .int .i64 i] w fun y w' => y = .returned (.bool true) ∧ KO w0 w' wo x' := by
    rintro r' t' x' d tr k rr tt rfl hP hO
    refine (kpoll_any wo q rv F x.t t' x.rs w i num wrt page data how read r' d tr k rr tt h1 hw0 hr ⟨fun e => hh (.inl e), fun e => hh (.inr e)⟩ hP hO).mono ?_
    rintro y w' ⟨rfl, F', e1, e2, e3⟩
    refine ⟨rfl, KO.of h.below h3 e1 (fun k hk => ?_) e3⟩
    rcases hk with hk | hk | hk
    · exact (e2 k hk).imp .inl id
    · exact .inl (.inr (.inl hk))
    · exact .inl (.inr (.inr hk))
  cases hf : x.t.find num with
  | none =>
    have hgone := hi.gone hrm hf
    simp only at hgone
    refine fin ⟨num, wrt, page, data, how, read⟩ x.t x none 0 5 (-1) 0 (by rw [hset]) (fun W hq hv => ?_) (.told (by omega))
    refine (poll_none_p hq hv num hf).mono ?_
    rintro y w' ⟨rfl, e1⟩
    exact ⟨_, _, rfl, hq.below e1, fun k hk => .inl hk, chgB e1 _, rfl⟩
  | some o =>
    obtain ⟨f1, f2, f3, f4, f5⟩ := hi.find hrm hf
    simp only at f1 f2 f3 f4 f5
    obtain ⟨om, on, ot⟩ := find_some hf
    have hok := hi.ok.a.rs.ok o om
    have hdn := hi.done o om
    simp only
    by_cases h2 : o.state < 2
    · rw [if_pos h2]
      have hst : o.state = 0 ∨ o.state = 1 := by have := hok.st; omega
      have hlv : o.live = true := hst.elim (fun e => by simp [Req.live, e]) fun e => by simp [Req.live, hok.uair e]
      have h3' : o.tries ≤ 3 := hok.try3 hlv
      refine fin ⟨num, wrt, page, data, how, read⟩ x.t x none 0 6 num o.tries (by rw [hset]) (fun W hq hv => ?_) (.pend _ ⟨hok.tries.1, h3'⟩ (f3.2 (by omega)))
      refine (poll_pend_p hq hv num o hf hst).mono ?_
      rintro y w' ⟨rfl, e1⟩
      exact ⟨_, _, rfl, hq.below e1, fun k hk => .inl hk, chgB e1 _, rfl⟩
    · rw [if_neg h2]
      have hst := hok.st
      by_cases e2 : o.state = 2
      · have ht1 := hdn.1 e2
        cases hw : o.write with
        | true =>
          refine fin ⟨num, wrt, page, data, 1, ⟨#[]⟩⟩ (x.t.tell num) _ none o.tries 0 (-1) 0 (by unfold KW.pollR; simp [e2, hw]) (fun W hq hv => ?_) (.write _ ⟨ht1, hok.tries.2⟩ (by rw [← f4, hw]))
          refine (poll_write_p hq hi.ok hs hv hF0 num o hf e2 hw).mono ?_
          rintro y w' ⟨rfl, e3, e4⟩
          exact ⟨_, _, rfl, e3, fun k hk => .inl hk, e4, rfl⟩
        | false =>
          refine fin ⟨num, wrt, page, data, 1, strOfNums [o.data.a, o.data.b, o.data.c, o.data.d]⟩ (x.t.tell num) _ (some o.data) o.tries 0 (-1) 0 (by unfold KW.pollR; simp [e2, hw, bytesOf]) (fun W hq hv => ?_) (.read _ _ ⟨ht1, hok.tries.2⟩ hok.byte (by rw [← f4, hw]))
          refine (poll_read_p hq hi.ok hs hv hF0 num o hf e2 hw).mono ?_
          rintro y w' ⟨v, F', rfl, e3, e4, e5, e6, e7⟩
          exact ⟨_, _, rfl, e3, e4, e6, e5, e7⟩
      · by_cases e3 : o.state = 3
        · refine fin ⟨num, wrt, page, data, 2, read⟩ (x.t.tell num) _ none 0 7 num 4 (by unfold KW.pollR; simp [e3]) (fun W hq hv => ?_) .bad
          refine (poll_bad_p hq hi.ok hs hv hF0 num o 7 hf (.inl ⟨e3, rfl⟩)).mono ?_
          rintro y w' ⟨rfl, e4, e5⟩
          exact ⟨_, _, by rw [hdn.2 e3], e4, fun k hk => .inl hk, e5, rfl⟩
        · have e4 : o.state = 4 := by omega
          refine fin ⟨num, wrt, page, data, how, read⟩ (x.t.tell num) _ none 0 8 num o.tries (by unfold KW.pollR; simp [e4]) (fun W hq hv => ?_) (.gone _ (by omega))
          refine (poll_bad_p hq hi.ok hs hv hF0 num o 8 hf (.inr ⟨e4, rfl⟩)).mono ?_
          rintro y w' ⟨rfl, e5, e6⟩
          exact ⟨_, _, rfl, e5, fun k hk => .inl hk, e6, rfl⟩
end Go.Proofs.YticobikhndlejaaDoor
