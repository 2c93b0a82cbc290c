/- plain.Poll by contracts, in plain states. -/
import Derived.Test.YticobikhndlejaaDoorPlain2
namespace Go.Proofs.YticobikhndlejaaDoor
open Go.RowKit Go.Shelf Go.Lib

theorem zz_at (w : World) : ((w.alloc zAns).alloc zErr).heap[w.heap.size]? = some zAns ∧ ((w.alloc zAns).alloc zErr).heap[w.heap.size + 1]? = some zErr ∧ ((w.alloc zAns).alloc zErr).heap.size = w.heap.size + 2 := by
  refine ⟨(Below.heap_alloc _ _ _ (by simp)).trans (World.alloc_heap_new w _), ?_, by simp⟩
  rw [show w.heap.size + 1 = (w.alloc zAns).heap.size from by simp]; exact World.alloc_heap_new _ _
theorem zz_below (w : World) : Below w.heap.size w ((w.alloc zAns).alloc zErr) := ((Below.refl _ _).alloc (Nat.le_refl _) _).alloc (by simp) _
section
variable {q : Nat} {t : St} {F : Nat → Prop} {w : World}
theorem poll_none_p (h : QT w q t F) (hg : ErrVar w) (n : Int) (hf : t.find n = none) :
    Calls Tryd.prog 13 #[ptr q, .int .i64 n] w fun x w' => x = .returned (.tuple #[noAns, plErr 5 (-1) 0]) ∧ Below w.heap.size w w' := by
  obtain ⟨z1, z2, z3⟩ := zz_at w
  have hb := zz_below w
  have h0 := (h.below hb)
  refine (plPoll_of q n 5 (-1) 0 w (fun v tr err w' => v = .slice none 0 0 ∧ tr = 0 ∧ err = errK 5 ∧ Below ((w.alloc zAns).alloc zErr).heap.size ((w.alloc zAns).alloc zErr) w') ?_ ?_).mono ?_
  · exact (poll_none_c h0 n hf).mono fun x w' ⟨e1, e2⟩ => ⟨none, 0, 0, 0, errK 5, e1, rfl, rfl, rfl, e2⟩
  · rintro v tr err w' ⟨rfl, rfl, rfl, e2⟩
    exact ⟨(hg.chg (chgB hb fun _ => False) fun x => x).chg (chgB e2 fun _ => False) fun x => x, .kind 5 (by omega), (e2.block _ (by omega)).trans z1, (e2.block _ (by omega)).trans z2⟩
  · rintro x w' ⟨v, tr, err, w1, rfl, ⟨rfl, rfl, rfl, e2⟩, hs, hc⟩
    exact ⟨rfl, Chg.below (((chgB hb fun _ => False).of_below e2).trans (hc.mono fun k _ hk => .inr (by omega)))⟩
theorem poll_pend_p (h : QT w q t F) (hg : ErrVar w) (n : Int) (r : Req) (hf : t.find n = some r) (hs : r.state = 0 ∨ r.state = 1) :
    Calls Tryd.prog 13 #[ptr q, .int .i64 n] w fun x w' => x = .returned (.tuple #[noAns, plErr 6 n r.tries]) ∧ Below w.heap.size w w' := by
  obtain ⟨z1, z2, z3⟩ := zz_at w
  have hb := zz_below w
  have h0 := (h.below hb)
  refine (plPoll_of q n 6 n r.tries w (fun v tr err w' => v = .slice none 0 0 ∧ tr = 0 ∧ (∃ b, err = errR b ∧ ReqErr w' b n r.tries 6) ∧ Below ((w.alloc zAns).alloc zErr).heap.size ((w.alloc zAns).alloc zErr) w') ?_ ?_).mono ?_
  · exact (poll_pend_c h0 n r hf hs).mono fun x w' ⟨b, e1, e2, e3, e4⟩ => ⟨none, 0, 0, 0, errR b, e1, rfl, rfl, ⟨b, rfl, e2⟩, e4⟩
  · rintro v tr err w' ⟨rfl, rfl, ⟨b, rfl, hr⟩, e2⟩
    exact ⟨(hg.chg (chgB hb fun _ => False) fun x => x).chg (chgB e2 fun _ => False) fun x => x, .req b n r.tries 6 (by omega) hr, (e2.block _ (by omega)).trans z1, (e2.block _ (by omega)).trans z2⟩
  · rintro x w' ⟨v, tr, err, w1, rfl, ⟨rfl, rfl, _, e2⟩, hs, hc⟩
    exact ⟨rfl, Chg.below (((chgB hb fun _ => False).of_below e2).trans (hc.mono fun k _ hk => .inr (by omega)))⟩
theorem QT.zz (h : QT w q t F) : QT ((w.alloc zAns).alloc zErr) q t fun k => F k ∧ k < w.heap.size := h.lt.below (zz_below w)
theorem chg_zz {S T : Nat → Prop} {w1 w' : World} (h1 : Chg (fun k => F k ∧ k < w.heap.size) ((w.alloc zAns).alloc zErr) w1) (h2 : Chg S w1 w') (hF : ∀ k, F k → T k) (hS : ∀ k, S k → T k ∨ w.heap.size ≤ k) : Chg T w w' :=
  ((chgB (zz_below w) T).then (h1.mono fun k _ hk => hF k hk.1)).trans (h2.mono fun k _ hk => hS k hk)
theorem poll_bad_p (h : QT w q t F) (hk : t.Ok) (hsm : t.Small) (hg : ErrVar w) (hF : ¬ F 0) (n : Int) (r : Req) (k : Int) (hf : t.find n = some r) (hs : (r.state = 3 ∧ k = 7) ∨ (r.state = 4 ∧ k = 8)) :
    Calls Tryd.prog 13 #[ptr q, .int .i64 n] w fun x w' => x = .returned (.tuple #[noAns, plErr k n r.tries]) ∧ QT w' q (t.tell n) F ∧ Chg F w w' := by
  obtain ⟨z1, z2, z3⟩ := zz_at w
  have hb := zz_below w
  refine (plPoll_of q n k n r.tries w (fun v tr err w' => v = .slice none 0 0 ∧ tr = 0 ∧ (∃ b, err = errR b ∧ ReqErr w' b n r.tries k) ∧ QT w' q (t.tell n) (fun k => F k ∧ k < w.heap.size) ∧ Chg (fun k => F k ∧ k < w.heap.size) ((w.alloc zAns).alloc zErr) w') ?_ ?_).mono ?_
  · exact (poll_bad_c h.zz hk hsm n r k hf hs).mono fun x w' ⟨b, e1, e2, e3, e4, e5⟩ => ⟨none, 0, 0, 0, errR b, e1, rfl, rfl, ⟨b, rfl, e2⟩, e4, e5⟩
  · rintro v tr err w' ⟨rfl, rfl, ⟨b, rfl, hr⟩, e1, e2⟩
    exact ⟨(hg.chg (chgB hb fun _ => False) fun x => x).chg e2 fun x => hF x.1, .req b n r.tries k (by rcases hs with ⟨_, h⟩ | ⟨_, h⟩ <;> omega) hr, (e2.block _ (by omega) (by omega)).trans z1, (e2.block _ (by omega) (by omega)).trans z2⟩
  · rintro x w' ⟨v, tr, err, w1, rfl, ⟨rfl, rfl, _, e1, e2⟩, hs, hc⟩
    exact ⟨rfl, (e1.kept hc fun k hk e => by omega).mono fun k hk => hk.1, chg_zz e2 hc (fun k x => x) fun k hk => .inr (by omega)⟩
theorem poll_write_p (h : QT w q t F) (hk : t.Ok) (hsm : t.Small) (hg : ErrVar w) (hF : ¬ F 0) (n : Int) (r : Req) (hf : t.find n = some r) (hs : r.state = 2) (hw : r.write = true) :
    Calls Tryd.prog 13 #[ptr q, .int .i64 n] w fun x w' => x = .returned (.tuple #[.agg #[.slice none 0 0, .int .i64 r.tries], plErr 0 (-1) 0]) ∧ QT w' q (t.tell n) F ∧ Chg F w w' := by
  obtain ⟨z1, z2, z3⟩ := zz_at w
  have hb := zz_below w
  refine (plPoll_of q n 0 (-1) 0 w (fun v tr err w' => v = .slice none 0 0 ∧ tr = r.tries ∧ err = .nilIface ∧ QT w' q (t.tell n) (fun k => F k ∧ k < w.heap.size) ∧ Chg (fun k => F k ∧ k < w.heap.size) ((w.alloc zAns).alloc zErr) w') ?_ ?_).mono ?_
  · exact (poll_write_c h.zz hk hsm n r hf hs hw).mono fun x w' ⟨e1, e4, e5⟩ => ⟨none, 0, 0, r.tries, .nilIface, e1, rfl, rfl, rfl, e4, e5⟩
  · rintro v tr err w' ⟨rfl, rfl, rfl, e1, e2⟩
    exact ⟨(hg.chg (chgB hb fun _ => False) fun x => x).chg e2 fun x => hF x.1, .nil, (e2.block _ (by omega) (by omega)).trans z1, (e2.block _ (by omega) (by omega)).trans z2⟩
  · rintro x w' ⟨v, tr, err, w1, rfl, ⟨rfl, rfl, rfl, e1, e2⟩, hs, hc⟩
    exact ⟨rfl, (e1.kept hc fun k hk e => by omega).mono fun k hk => hk.1, chg_zz e2 hc (fun k x => x) fun k hk => .inr (by omega)⟩
theorem poll_read_p (h : QT w q t F) (hk : t.Ok) (hsm : t.Small) (hg : ErrVar w) (hF : ¬ F 0) (n : Int) (r : Req) (hf : t.find n = some r) (hs : r.state = 2) (hw : r.write = false) :
    Calls Tryd.prog 13 #[ptr q, .int .i64 n] w fun x w' => ∃ v F', x = .returned (.tuple #[.agg #[v, .int .i64 r.tries], plErr 0 (-1) 0]) ∧ QT w' q (t.tell n) F' ∧ (∀ k, F' k → F k ∨ w.heap.size ≤ k) ∧ (∀ k, v.ownBlock = some k → ¬ F' k) ∧ Chg F w w' ∧ w'.ownsRow w.heap.size 5 1 v 4 (b4Cells r.data) := by
  obtain ⟨z1, z2, z3⟩ := zz_at w
  have hb := zz_below w
  refine (plPoll_of q n 0 (-1) 0 w (fun v tr err w' => tr = r.tries ∧ err = .nilIface ∧ ∃ F', QT w' q (t.tell n) F' ∧ (∀ k, F' k → (F k ∧ k < w.heap.size) ∨ w.heap.size + 2 ≤ k) ∧ (∀ k, v.ownBlock = some k → ¬ F' k) ∧ Chg (fun k => F k ∧ k < w.heap.size) ((w.alloc zAns).alloc zErr) w' ∧ w'.ownsRow (w.heap.size + 2) 5 1 v 4 (b4Cells r.data)) ?_ ?_).mono ?_
  · refine (poll_read_c h.zz hk hsm n r hf hs hw).mono ?_
    rintro x w' ⟨v, F', e1, e2, e3, e4, e5, e6⟩
    obtain ⟨va, vc, rfl⟩ := own_slice e6
    exact ⟨va, 4, vc, r.tries, .nilIface, e1, rfl, rfl, F', e2, fun k hk => by have := e3 k hk; rw [z3] at this; exact this, e4, e5, by rw [z3] at e6; exact e6⟩
  · rintro v tr err w' ⟨rfl, rfl, F', e1, e2, e3, e4, e5⟩
    exact ⟨(hg.chg (chgB hb fun _ => False) fun x => x).chg e4 fun x => hF x.1, .nil, (e4.block _ (by omega) (by omega)).trans z1, (e4.block _ (by omega) (by omega)).trans z2⟩
  · rintro x w' ⟨v, tr, err, w1, rfl, ⟨rfl, rfl, F', e1, e2, e3, e4, e5⟩, hs, hc⟩
    refine ⟨v, F', rfl, e1.kept hc fun k hk e => by have := e2 k hk; omega, fun k hk => (e2 k hk).imp (fun x => x.1) fun x => by omega, e3, chg_zz e4 hc (fun k x => x) fun k hk => .inr (by omega), ?_⟩
    exact ownsRow_chg (ownsRow_low e5 (by omega)) hc fun k hk hh => by have := (e5.lt k hk).1; omega
end
end Go.Proofs.YticobikhndlejaaDoor
