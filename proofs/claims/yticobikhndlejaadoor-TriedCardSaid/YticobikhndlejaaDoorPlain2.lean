/- package plain by contracts, in plain states. -/
import Derived.Test.YticobikhndlejaaDoorPlain
namespace Go.Proofs.YticobikhndlejaaDoor
open Go.RowKit Go.Shelf Go.Lib

theorem zErr_alloc (w : World) : (w.alloc zErr).heap[w.heap.size]? = some zErr := World.alloc_heap_new w _
theorem chg_two {F S T : Nat → Prop} {w w1 w' : World} {o : Obj} (h1 : Chg F (w.alloc o) w1) (h2 : Chg S w1 w') (hF : ∀ k, F k → T k) (hS : ∀ k, S k → T k ∨ w.heap.size ≤ k) : Chg T w w' :=
  (((Chg.refl T w).alloc o).then (h1.mono fun k _ hk => hF k hk)).trans (h2.mono fun k _ hk => hS k hk)
section
variable {q : Nat} {t : St} {F : Nat → Prop} {w : World}
theorem QT.alloc (h : QT w q t F) (o : Obj) : QT (w.alloc o) q t fun k => F k ∧ k < w.heap.size := h.lt.below ((Below.refl _ _).alloc (Nat.le_refl _) _)
theorem new_p (d : Nat) (w : World) (hg : ErrVar w) (hd : 1 ≤ d ∧ d ≤ 4) : Calls Tryd.prog 19 #[.int .i64 d] w fun x w' => ∃ q, x = .returned (.tuple #[ptr q, plErr 0 (-1) 0]) ∧ QT w' q (St.new d) (fun k => w.heap.size < k) ∧ Below w.heap.size w w' := by
  refine (plNew_of d 0 (-1) 0 w (fun X err w' => ∃ q, X = ptr q ∧ err = .nilIface ∧ QT w' q (St.new d) (fun k => w.heap.size < k) ∧ Below (w.heap.size + 1) (w.alloc zErr) w') ?_ ?_).mono ?_
  · refine (new_c d _ hd).mono fun x w' ⟨q, h1, h2, h3, h4⟩ => ⟨ptr q, .nilIface, h1, q, rfl, rfl, h2.mono fun k hk => by simp at hk; omega, by simpa using h4⟩
  · rintro X err w' ⟨q, rfl, rfl, h1, h2⟩
    have hz := zErr_alloc w
    exact ⟨(hg.alloc _).chg (chgB (by simpa using h2) fun _ => False) fun x => x, .nil, (h2.block _ (by simp)).trans hz⟩
  · rintro x w' ⟨X, err, w1, rfl, ⟨q, rfl, rfl, h1, h2⟩, hc⟩
    refine ⟨q, rfl, h1.kept hc fun k hk e => by omega, ?_⟩
    exact Chg.below (chg_two (F := fun _ => False) (chgB (by simpa using h2) _) hc (fun _ x => x) fun k hk => .inr (by omega))
theorem new_bad_p (d : Int) (w : World) (hg : ErrVar w) (hd : d < 1 ∨ 4 < d) : Calls Tryd.prog 19 #[.int .i64 d] w fun x w' => x = .returned (.tuple #[.pointer none, plErr 1 (-1) 0]) ∧ Below w.heap.size w w' := by
  refine (plNew_of d 1 (-1) 0 w (fun X err w' => X = .pointer none ∧ err = errK 1 ∧ w' = w.alloc zErr) ?_ ?_).mono ?_
  · refine (new_no d _ hd).mono fun x w' ⟨h1, h2⟩ => ⟨_, _, h1, rfl, rfl, h2⟩
  · rintro X err w' ⟨rfl, rfl, rfl⟩
    exact ⟨hg.alloc _, .kind 1 (by omega), zErr_alloc w⟩
  · rintro x w' ⟨X, err, w1, rfl, ⟨rfl, rfl, rfl⟩, hc⟩
    exact ⟨rfl, Chg.below (((Chg.refl (fun _ => False) w).alloc _).trans (hc.mono fun k _ hk => .inr (by omega)))⟩
theorem read_p (h : QT w q t F) (hk : t.Ok) (hs : t.Small) (hg : ErrVar w) (hF : ¬ F 0) (hh : t.held < 40) (page : Int) (hp : 0 ≤ page ∧ page < 16) :
    Calls Tryd.prog 21 #[ptr q, .int .i64 page] w fun x w' => x = .returned (.tuple #[.int .i64 (t.last + 1), plErr 0 (-1) 0]) ∧ QT w' q (t.add false page ⟨0, 0, 0, 0⟩) (fun k => F k ∨ w.heap.size < k) ∧ Chg F w w' := by
  refine (plRead_of q page 0 (-1) 0 w (fun X err w' => X = .int .i64 (t.last + 1) ∧ err = .nilIface ∧ QT w' q (t.add false page ⟨0, 0, 0, 0⟩) (fun k => (F k ∧ k < w.heap.size) ∨ (w.alloc zErr).heap.size ≤ k) ∧ Chg (fun k => F k ∧ k < w.heap.size) (w.alloc zErr) w') ?_ ?_).mono ?_
  · exact (read_c (h.alloc zErr) hk hs hh page hp).mono fun x w' ⟨h1, h2, h3⟩ => ⟨_, _, h1, rfl, rfl, h2, h3⟩
  · rintro X err w' ⟨rfl, rfl, h1, h2⟩
    exact ⟨(hg.alloc _).chg h2 fun x => hF x.1, .nil, (h2.block _ (by simp) (by omega)).trans (zErr_alloc w)⟩
  · rintro x w' ⟨X, err, w1, rfl, ⟨rfl, rfl, h1, h2⟩, hc⟩
    refine ⟨rfl, (h1.kept hc fun k hk e => ?_).mono fun k hk => ?_, chg_two h2 hc (fun k x => x.1) fun k hk => .inr (by omega)⟩
    · simp at hk; omega
    · simp at hk; exact hk.imp (fun x => x.1) (fun x => by omega)
theorem read_full_p (h : QT w q t F) (hg : ErrVar w) (hh : 40 ≤ t.held) (page : Int) (hp : 0 ≤ page ∧ page < 16) :
    Calls Tryd.prog 21 #[ptr q, .int .i64 page] w fun x w' => x = .returned (.tuple #[.int .i64 0, plErr 4 (-1) 0]) ∧ Below w.heap.size w w' := by
  refine (plRead_of q page 4 (-1) 0 w (fun X err w' => X = .int .i64 0 ∧ err = errK 4 ∧ w' = w.alloc zErr) ?_ ?_).mono ?_
  · exact (read_full_c (h.alloc zErr) hh page hp).mono fun x w' ⟨h1, h2⟩ => ⟨_, _, h1, rfl, rfl, h2⟩
  · rintro X err w' ⟨rfl, rfl, rfl⟩
    exact ⟨hg.alloc _, .kind 4 (by omega), zErr_alloc w⟩
  · rintro x w' ⟨X, err, w1, rfl, ⟨rfl, rfl, rfl⟩, hc⟩
    exact ⟨rfl, Chg.below (((Chg.refl (fun _ => False) w).alloc _).trans (hc.mono fun k _ hk => .inr (by omega)))⟩
theorem DatV.below {w W : World} {v : Value} {d : B4} (h : DatV w v d) (hb : Below w.heap.size w W) : DatV W v d := h.kept (chgB hb fun _ => False) fun _ x => x.elim
theorem write_p (h : QT w q t F) (hk : t.Ok) (hs : t.Small) (hg : ErrVar w) (hF : ¬ F 0) (hh : t.held < 40) (page : Int) (hp : 0 ≤ page ∧ page < 16) (d : B4) (cap : Nat) (a : Option Addr) (hd : DatV w (.slice a 4 cap) d) :
    Calls Tryd.prog 20 #[ptr q, .int .i64 page, .slice a 4 cap] w fun x w' => x = .returned (.tuple #[.int .i64 (t.last + 1), plErr 0 (-1) 0]) ∧ QT w' q (t.add true page d) (fun k => F k ∨ w.heap.size < k) ∧ Chg F w w' := by
  refine (plWrite_of q (.slice a 4 cap) page 0 (-1) 0 w (fun X err w' => X = .int .i64 (t.last + 1) ∧ err = .nilIface ∧ QT w' q (t.add true page d) (fun k => (F k ∧ k < w.heap.size) ∨ (w.alloc zErr).heap.size ≤ k) ∧ Chg (fun k => F k ∧ k < w.heap.size) (w.alloc zErr) w') ?_ ?_).mono ?_
  · exact (write_c (h.alloc zErr) hk hs hh page hp _ d cap a rfl (hd.below ((Below.refl _ _).alloc (Nat.le_refl _) _))).mono fun x w' ⟨h1, h2, h3⟩ => ⟨_, _, h1, rfl, rfl, h2, h3⟩
  · rintro X err w' ⟨rfl, rfl, h1, h2⟩
    exact ⟨(hg.alloc _).chg h2 fun x => hF x.1, .nil, (h2.block _ (by simp) (by omega)).trans (zErr_alloc w)⟩
  · rintro x w' ⟨X, err, w1, rfl, ⟨rfl, rfl, h1, h2⟩, hc⟩
    refine ⟨rfl, (h1.kept hc fun k hk e => ?_).mono fun k hk => ?_, chg_two h2 hc (fun k x => x.1) fun k hk => .inr (by omega)⟩
    · simp at hk; omega
    · simp at hk; exact hk.imp (fun x => x.1) (fun x => by omega)
theorem write_full_p (h : QT w q t F) (hg : ErrVar w) (hh : 40 ≤ t.held) (page : Int) (hp : 0 ≤ page ∧ page < 16) (cap : Nat) (a : Option Addr) :
    Calls Tryd.prog 20 #[ptr q, .int .i64 page, .slice a 4 cap] w fun x w' => x = .returned (.tuple #[.int .i64 0, plErr 4 (-1) 0]) ∧ Below w.heap.size w w' := by
  refine (plWrite_of q (.slice a 4 cap) page 4 (-1) 0 w (fun X err w' => X = .int .i64 0 ∧ err = errK 4 ∧ w' = w.alloc zErr) ?_ ?_).mono ?_
  · exact (write_full_c (h.alloc zErr) hh page hp cap a).mono fun x w' ⟨h1, h2⟩ => ⟨_, _, h1, rfl, rfl, h2⟩
  · rintro X err w' ⟨rfl, rfl, rfl⟩
    exact ⟨hg.alloc _, .kind 4 (by omega), zErr_alloc w⟩
  · rintro x w' ⟨X, err, w1, rfl, ⟨rfl, rfl, rfl⟩, hc⟩
    exact ⟨rfl, Chg.below (((Chg.refl (fun _ => False) w).alloc _).trans (hc.mono fun k _ hk => .inr (by omega)))⟩
theorem complete_no_p (h : QT w q t F) (hg : ErrVar w) (k : Int) (fault : Bool) (hk : k < 0 ∨ (t.cs.length : Int) ≤ k) :
    Calls Tryd.prog 12 #[ptr q, .int .i64 k, .bool fault] w fun x w' => x = .returned (plErr 10 (-1) 0) ∧ Below w.heap.size w w' := by
  refine (plComplete_of q fault k 10 (-1) 0 w (fun err w' => err = errK 10 ∧ Below (w.alloc zErr).heap.size (w.alloc zErr) w') ?_ ?_).mono ?_
  · exact (complete_no_c (h.alloc zErr) k fault hk).mono fun x w' ⟨h1, h2⟩ => ⟨_, h1, rfl, h2⟩
  · rintro err w' ⟨rfl, h2⟩
    exact ⟨(hg.alloc _).chg (chgB h2 fun _ => False) fun x => x, .kind 10 (by omega), (h2.block _ (by simp)).trans (zErr_alloc w)⟩
  · rintro x w' ⟨err, w1, rfl, ⟨rfl, h2⟩, hc⟩
    exact ⟨rfl, Chg.below (chg_two (F := fun _ => False) (chgB h2 _) hc (fun _ x => x) fun k hk => .inr (by omega))⟩
theorem complete_p (h : QT w q t F) (hk : t.Ok) (hs : t.Small) (hg : ErrVar w) (hF : ¬ F 0) (k : Nat) (fault : Bool) (t' : St) (hc : t.complete k fault = some t') :
    Calls Tryd.prog 12 #[ptr q, .int .i64 k, .bool fault] w fun x w' => x = .returned (plErr 0 (-1) 0) ∧ QT w' q t' F ∧ Chg F w w' := by
  refine (plComplete_of q fault k 0 (-1) 0 w (fun err w' => err = .nilIface ∧ QT w' q t' (fun k => F k ∧ k < w.heap.size) ∧ Chg (fun k => F k ∧ k < w.heap.size) (w.alloc zErr) w') ?_ ?_).mono ?_
  · exact (complete_c (h.alloc zErr) hk hs k fault t' hc).mono fun x w' ⟨h1, h2, h3⟩ => ⟨_, h1, rfl, h2, h3⟩
  · rintro err w' ⟨rfl, h1, h2⟩
    exact ⟨(hg.alloc _).chg h2 fun x => hF x.1, .nil, (h2.block _ (by simp) (by omega)).trans (zErr_alloc w)⟩
  · rintro x w' ⟨err, w1, rfl, ⟨rfl, h1, h2⟩, hc⟩
    exact ⟨rfl, (h1.kept hc fun k hk e => by omega).mono fun k hk => hk.1, chg_two h2 hc (fun k x => x.1) fun k hk => .inr (by omega)⟩
end
end Go.Proofs.YticobikhndlejaaDoor
