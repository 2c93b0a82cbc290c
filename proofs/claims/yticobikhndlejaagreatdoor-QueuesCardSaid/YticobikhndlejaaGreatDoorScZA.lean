/- The law's own world: what lies where. -/
import Derived.Test.YticobikhndlejaaGreatDoorScZ
import Derived.Test.YticobikhndlejaaGreatDoorScP
import Derived.Test.YticobikhndlejaaGreatDoorScW
namespace Go.Proofs.YticobikhndlejaaGreatDoor
open Go.RowKit Go.Shelf Go.Lib

/-- Whose a block is. -/
inductive Lab where
  | glob | me | qs | bs | is | row | loose | x (i : Nat) | m (i : Nat)
  deriving DecidableEq
/-- A queue on both sides. -/
structure LP where
  x : Nat
  m : Nat
  t : St
  u : St
def pCells (p : LP) : List Value := [ptr p.x, ptr p.m]
structure LB (wb w : World) (wl : Nat) (ow : Nat → Lab) (qv bv iv : Value) (ps : List LP) (bs is : List Value) : Prop where
  err : ErrVar w
  glob : ow 0 = .glob
  me : w.heap[wl]? = some (.cells #[qv, bv, iv] 71 (0, 0))
  own : ow wl = .me
  q : w.ownsRow 0 114 2 qv ps.length (ps.flatMap pCells)
  qo : ∀ k, qv.ownBlock = some k → ow k = .qs
  b : w.ownsRow 0 41 1 bv bs.length bs
  bo : ∀ k, bv.ownBlock = some k → ow k = .bs
  i : w.ownsRow 0 24 1 iv is.length is
  io : ∀ k, iv.ownBlock = some k → ow k = .is
  br : ∀ (j : Nat) (v : Value), bs[j]? = some v → ∃ n, w.ownsRow 0 5 1 v n (List.replicate n (.int .u8 ((j % 256 : Nat) : Int))) ∧ ∀ k, v.ownBlock = some k → ow k = .row
  ir : ∀ (j : Nat) (v : Value), is[j]? = some v → ∃ n, w.ownsRow 0 3 1 v n (List.replicate n (.int .i64 (-(j : Int)))) ∧ ∀ k, v.ownBlock = some k → ow k = .row
  xs : ∀ (j : Nat) (p : LP), ps[j]? = some p → QT w p.x p.t (fun k => ow k = .x j)
  ms : ∀ (j : Nat) (p : LP), ps[j]? = some p → RT w p.m p.u (fun k => ow k = .m j)
  bel : Below wb.heap.size wb w
  old : ∀ k, k < wb.heap.size → ow k = .glob
theorem Below.chgS {n : Nat} {S : Nat → Prop} {a w W : World} (hb : Below n a w) (hc : Chg S w W) (hn : n ≤ w.heap.size) (hS : ∀ k, k < n → ¬ S k) : Below n a W :=
  ⟨hc.os.trans hb.os, hc.tape.trans hb.tape, hc.output.trans hb.output, Nat.le_trans hb.size hc.size, fun k hk => (hc.block k (by omega) (hS k hk)).trans (hb.block k hk)⟩
section
variable {wb w W : World} {wl : Nat} {ow : Nat → Lab} {qv bv iv : Value} {ps : List LP} {bs is : List Value}
theorem LB.zero (h : LB wb w wl ow qv bv iv ps bs is) : 0 < w.heap.size := lt_of_cell h.err
/-- Blocks that are nobody's may change. -/
theorem LB.chg (h : LB wb w wl ow qv bv iv ps bs is) {S : Nat → Prop} (hc : Chg S w W) (hS : ∀ k, S k → ow k = .loose) : LB wb W wl ow qv bv iv ps bs is := by
  have g : ∀ {l : Lab}, l ≠ .loose → ∀ k, ow k = l → ¬ S k := fun hl k hk hs => hl (hk.symm.trans (hS k hs))
  refine ⟨h.err.chg hc (g (by simp) 0 h.glob), h.glob, (hc.block _ (lt_of_heap h.me) (g (by simp) _ h.own)).trans h.me, h.own, ownsRow_chg h.q hc fun k hk => g (by simp) k (h.qo k hk), h.qo,
    ownsRow_chg h.b hc fun k hk => g (by simp) k (h.bo k hk), h.bo, ownsRow_chg h.i hc fun k hk => g (by simp) k (h.io k hk), h.io, fun j v hv => ?_, fun j v hv => ?_,
    fun j p hp => (h.xs j p hp).kept hc (g (by simp)), fun j p hp => (h.ms j p hp).kept hc (g (by simp)), Below.chgS h.bel hc h.bel.size fun k hk => g (by simp) k (h.old k hk), h.old⟩
  · obtain ⟨n, h1, h2⟩ := h.br j v hv
    exact ⟨n, ownsRow_chg h1 hc fun k hk => g (by simp) k (h2 k hk), h2⟩
  · obtain ⟨n, h1, h2⟩ := h.ir j v hv
    exact ⟨n, ownsRow_chg h1 hc fun k hk => g (by simp) k (h2 k hk), h2⟩
theorem LB.below (h : LB wb w wl ow qv bv iv ps bs is) (hb : Below w.heap.size w W) : LB wb W wl ow qv bv iv ps bs is := h.chg (chgB hb fun _ => False) fun _ x => x.elim
/-- Blocks that are new may be given to anybody. -/
theorem LB.relabel (h : LB wb w wl ow qv bv iv ps bs is) {ow' : Nat → Lab} (ho : ∀ k, k < w.heap.size → ow k ≠ .loose → ow' k = ow k) : LB wb w wl ow' qv bv iv ps bs is := by
  have g : ∀ {ty : TypeId} {sz n b : Nat} {v : Value} {xs : List Value} {l : Lab}, l ≠ .loose → w.ownsRow b ty sz v n xs → (∀ k, v.ownBlock = some k → ow k = l) → ∀ k, v.ownBlock = some k → ow' k = l := fun hn hr hl k hk => by
    obtain ⟨cur, hcur⟩ := own_heap hr hk
    rw [ho k (lt_of_heap hcur) (by rw [hl k hk]; exact hn)]; exact hl k hk
  refine ⟨h.err, (ho 0 h.zero (by rw [h.glob]; simp)).trans h.glob, h.me, (ho _ (lt_of_heap h.me) (by rw [h.own]; simp)).trans h.own, h.q, g (by simp) h.q h.qo, h.b, g (by simp) h.b h.bo, h.i, g (by simp) h.i h.io, fun j v hv => ?_, fun j v hv => ?_,
    fun j p hp => (h.xs j p hp).lt.mono fun k hk => (ho k hk.2 (by rw [hk.1]; simp)).trans hk.1, fun j p hp => (h.ms j p hp).lt.mono fun k hk => (ho k hk.2 (by rw [hk.1]; simp)).trans hk.1, h.bel, fun k hk => (ho k (Nat.lt_of_lt_of_le hk h.bel.size) (by rw [h.old k hk]; simp)).trans (h.old k hk)⟩
  · obtain ⟨n, h1, h2⟩ := h.br j v hv
    exact ⟨n, h1, g (by simp) h1 h2⟩
  · obtain ⟨n, h1, h2⟩ := h.ir j v hv
    exact ⟨n, h1, g (by simp) h1 h2⟩
/-- What others hold stays, whoever has changed his own. -/
theorem LB.other (h : LB wb w wl ow qv bv iv ps bs is) {S : Nat → Prop} (hc : Chg S w W) {l : Lab} (hS : ∀ k, S k → ow k = l) (hl : ∀ m ∈ [Lab.glob, .me, .qs, .bs, .is, .row], m ≠ l) {ps' : List LP} (hp : ps'.flatMap pCells = ps.flatMap pCells) (hn : ps'.length = ps.length)
    (hx : ∀ (j : Nat) (p : LP), ps'[j]? = some p → QT W p.x p.t (fun k => ow k = .x j)) (hm : ∀ (j : Nat) (p : LP), ps'[j]? = some p → RT W p.m p.u (fun k => ow k = .m j)) : LB wb W wl ow qv bv iv ps' bs is := by
  have g : ∀ {m : Lab}, m ∈ [Lab.glob, .me, .qs, .bs, .is, .row] → ∀ k, ow k = m → ¬ S k := fun hm' k hk hs => hl _ hm' (hk.symm.trans (hS k hs))
  refine ⟨h.err.chg hc (g (by simp) 0 h.glob), h.glob, (hc.block _ (lt_of_heap h.me) (g (by simp) _ h.own)).trans h.me, h.own, by rw [hp, hn]; exact ownsRow_chg h.q hc fun k hk => g (by simp) k (h.qo k hk), h.qo,
    ownsRow_chg h.b hc fun k hk => g (by simp) k (h.bo k hk), h.bo, ownsRow_chg h.i hc fun k hk => g (by simp) k (h.io k hk), h.io, fun j v hv => ?_, fun j v hv => ?_, hx, hm, Below.chgS h.bel hc h.bel.size fun k hk => g (by simp) k (h.old k hk), h.old⟩
  · obtain ⟨n, h1, h2⟩ := h.br j v hv
    exact ⟨n, ownsRow_chg h1 hc fun k hk => g (by simp) k (h2 k hk), h2⟩
  · obtain ⟨n, h1, h2⟩ := h.ir j v hv
    exact ⟨n, ownsRow_chg h1 hc fun k hk => g (by simp) k (h2 k hk), h2⟩
theorem set_pcells : ∀ (ps : List LP) (j : Nat) {p p' : LP}, ps[j]? = some p → pCells p' = pCells p → (ps.set j p').flatMap pCells = ps.flatMap pCells
  | [], _, _, _, h, _ => by simp at h
  | a :: ps, 0, p, p', h, e => by
    simp only [List.getElem?_cons_zero, Option.some.injEq] at h
    subst h
    simp [e]
  | a :: ps, j + 1, p, p', h, e => by
    rw [List.getElem?_cons_succ] at h
    simp [set_pcells ps j h e]
/-- The queue of the program has gone a step. The new owners: what is new and the queue's is the queue's. -/
theorem LB.stepX (h : LB wb w wl ow qv bv iv ps bs is) {j : Nat} {p : LP} (hp : ps[j]? = some p) {t' : St} {F' : Nat → Prop} (hq : QT W p.x t' F') (hF : ∀ k, F' k → ow k = .x j ∨ w.heap.size ≤ k) (hc : Chg (fun k => ow k = .x j) w W) :
    ∃ ow', LB wb W wl ow' qv bv iv (ps.set j { p with t := t' }) bs is ∧ (∀ k, k < w.heap.size → ow' k = ow k) ∧ ∀ k, w.heap.size ≤ k → ¬ F' k → ow' k = .loose := by
  classical
  refine ⟨fun k => if k < w.heap.size then ow k else if F' k then .x j else .loose, ?_, fun k hk => by simp [hk], fun k hk hf => by simp [show ¬ k < w.heap.size by omega, hf]⟩
  have h1 := h.relabel (ow' := fun k => if k < w.heap.size then ow k else if F' k then .x j else .loose) fun k hk _ => by simp [hk]
  have hc' : Chg (fun k => ow k = .x j ∧ k < w.heap.size) w W := hc.mono fun k hk hs => ⟨hs, hk⟩
  refine h1.other hc' (l := .x j) (fun k hk => by simp [hk.1, hk.2]) (by simp) (set_pcells ps j hp rfl) (by simp) (fun i p' hp' => ?_) fun i p' hp' => ?_
  · rw [List.getElem?_set] at hp'
    split at hp'
    · rename_i hij
      subst hij
      have hjl := (List.getElem?_eq_some_iff.1 hp).1
      rw [if_pos hjl] at hp'
      simp only [Option.some.injEq] at hp'
      subst hp'
      refine hq.mono fun k hk => ?_
      by_cases hlt : k < w.heap.size
      · simp only [hlt, if_true]
        exact (hF k hk).resolve_right (by omega)
      · simp [hlt, hk]
    · rename_i hij
      refine (h1.xs i p' hp').kept hc' fun k hk hs => ?_
      simp only [hs.2, if_true] at hk
      rw [hs.1] at hk
      exact hij (by simpa using hk)
  · have hpm : ∃ p0, ps[i]? = some p0 ∧ p'.m = p0.m ∧ p'.u = p0.u := by
      rw [List.getElem?_set] at hp'
      split at hp'
      · rename_i hij
        subst hij
        have hjl := (List.getElem?_eq_some_iff.1 hp).1
        rw [if_pos hjl] at hp'
        simp only [Option.some.injEq] at hp'
        subst hp'
        exact ⟨p, hp, rfl, rfl⟩
      · exact ⟨p', hp', rfl, rfl⟩
    obtain ⟨p0, e1, e2, e3⟩ := hpm
    rw [e2, e3]
    refine (h1.ms i p0 e1).kept hc' fun k hk hs => ?_
    simp only [hs.2, if_true] at hk
    rw [hs.1] at hk
    cases hk
/-- The document's queue has gone a step. -/
theorem LB.stepM (h : LB wb w wl ow qv bv iv ps bs is) {j : Nat} {p : LP} (hp : ps[j]? = some p) {u' : St} {F' : Nat → Prop} (hq : RT W p.m u' F') (hF : ∀ k, F' k → ow k = .m j ∨ w.heap.size ≤ k) (hc : Chg (fun k => ow k = .m j) w W) :
    ∃ ow', LB wb W wl ow' qv bv iv (ps.set j { p with u := u' }) bs is ∧ (∀ k, k < w.heap.size → ow' k = ow k) ∧ ∀ k, w.heap.size ≤ k → ¬ F' k → ow' k = .loose := by
  classical
  refine ⟨fun k => if k < w.heap.size then ow k else if F' k then .m j else .loose, ?_, fun k hk => by simp [hk], fun k hk hf => by simp [show ¬ k < w.heap.size by omega, hf]⟩
  have h1 := h.relabel (ow' := fun k => if k < w.heap.size then ow k else if F' k then .m j else .loose) fun k hk _ => by simp [hk]
  have hc' : Chg (fun k => ow k = .m j ∧ k < w.heap.size) w W := hc.mono fun k hk hs => ⟨hs, hk⟩
  refine h1.other hc' (l := .m j) (fun k hk => by simp [hk.1, hk.2]) (by simp) (set_pcells ps j hp rfl) (by simp) (fun i p' hp' => ?_) fun i p' hp' => ?_
  · have hpm : ∃ p0, ps[i]? = some p0 ∧ p'.x = p0.x ∧ p'.t = p0.t := by
      rw [List.getElem?_set] at hp'
      split at hp'
      · rename_i hij
        subst hij
        have hjl := (List.getElem?_eq_some_iff.1 hp).1
        rw [if_pos hjl] at hp'
        simp only [Option.some.injEq] at hp'
        subst hp'
        exact ⟨p, hp, rfl, rfl⟩
      · exact ⟨p', hp', rfl, rfl⟩
    obtain ⟨p0, e1, e2, e3⟩ := hpm
    rw [e2, e3]
    refine (h1.xs i p0 e1).kept hc' fun k hk hs => ?_
    simp only [hs.2, if_true] at hk
    rw [hs.1] at hk
    cases hk
  · rw [List.getElem?_set] at hp'
    split at hp'
    · rename_i hij
      subst hij
      have hjl := (List.getElem?_eq_some_iff.1 hp).1
      rw [if_pos hjl] at hp'
      simp only [Option.some.injEq] at hp'
      subst hp'
      refine hq.mono fun k hk => ?_
      by_cases hlt : k < w.heap.size
      · simp only [hlt, if_true]
        exact (hF k hk).resolve_right (by omega)
      · simp [hlt, hk]
    · rename_i hij
      refine (h1.ms i p' hp').kept hc' fun k hk hs => ?_
      simp only [hs.2, if_true] at hk
      rw [hs.1] at hk
      exact hij (by simpa using hk)
/-- Bytes more are the caller's. -/
theorem LB.addB (h : LB wb w wl ow qv bv iv ps bs is) {f bv' : Value} {n : Nat} (hf : w.ownsRow 0 5 1 f n (List.replicate n (.int .u8 ((bs.length % 256 : Nat) : Int)))) (hfl : ∀ k, f.ownBlock = some k → ow k = .loose) (hc : Chg (fun k => k = wl ∨ bv.ownBlock = some k) w W)
    (hme : W.heap[wl]? = some (.cells #[qv, bv', iv] 71 (0, 0))) (hrow : W.ownsRow 0 41 1 bv' (bs ++ [f]).length (bs ++ [f])) (hbv : ∀ k, bv'.ownBlock = some k → bv.ownBlock = some k ∨ w.heap.size ≤ k) :
    ∃ ow', LB wb W wl ow' qv bv' iv ps (bs ++ [f]) is ∧ ∀ k, k < w.heap.size → f.ownBlock ≠ some k → ow' k = ow k := by
  classical
  obtain ⟨ow', how⟩ : ∃ ow' : Nat → Lab, ow' = fun k => if f.ownBlock = some k then .row else if k < w.heap.size then ow k else if bv'.ownBlock = some k then .bs else .loose := ⟨_, rfl⟩
  have o1 : ∀ k, k < w.heap.size → f.ownBlock ≠ some k → ow' k = ow k := fun k hk hf => by rw [how]; simp [hk, hf]
  refine ⟨ow', ?_, o1⟩
  have o2 : ∀ k, f.ownBlock = some k → ow' k = .row := fun k hk => by rw [how]; simp [hk]
  have h1 := h.relabel (ow' := ow') fun k hk hl => o1 k hk fun e => hl (hfl k e)
  have hwl := lt_of_heap h.me
  have gS : ∀ k, (k = wl ∨ bv.ownBlock = some k) → ow' k = .me ∨ ow' k = .bs := fun k hk => hk.imp (fun e => (congrArg ow' e).trans h1.own) (h1.bo k)
  have g : ∀ {m : Lab}, m ≠ .me → m ≠ .bs → ∀ k, ow' k = m → ¬ (k = wl ∨ bv.ownBlock = some k) := fun a1 a2 k hk hs => (gS k hs).elim (fun e => a1 (hk.symm.trans e)) fun e => a2 (hk.symm.trans e)
  refine ⟨h1.err.chg hc (g (by simp) (by simp) 0 h1.glob), h1.glob, hme, h1.own, ownsRow_chg h1.q hc fun k hk => g (by simp) (by simp) k (h1.qo k hk), h1.qo, hrow, fun k hk => ?_,
    ownsRow_chg h1.i hc fun k hk => g (by simp) (by simp) k (h1.io k hk), h1.io, fun j v hv => ?_, fun j v hv => ?_, fun j p hp => (h1.xs j p hp).kept hc (g (by simp) (by simp)), fun j p hp => (h1.ms j p hp).kept hc (g (by simp) (by simp)), Below.chgS h1.bel hc h1.bel.size fun k hk => g (by simp) (by simp) k (h1.old k hk), h1.old⟩
  · rcases hbv k hk with e | e
    · exact h1.bo k e
    · have : f.ownBlock ≠ some k := fun e2 => by
        obtain ⟨cur, hcur⟩ := own_heap hf e2
        have := lt_of_heap hcur; omega
      rw [how]
      simp [this, hk, show ¬ k < w.heap.size by omega]
  · rcases Nat.lt_or_ge j bs.length with hlt | hge
    · rw [List.getElem?_append_left hlt] at hv
      obtain ⟨n, h2, h3⟩ := h1.br j v hv
      exact ⟨n, ownsRow_chg h2 hc fun k hk => g (by simp) (by simp) k (h3 k hk), h3⟩
    · rw [List.getElem?_append_right hge] at hv
      obtain ⟨hl, e⟩ := List.getElem?_eq_some_iff.1 hv
      have hj : j = bs.length := by simp at hl; omega
      subst hj
      simp at hv
      subst hv
      exact ⟨n, ownsRow_chg hf hc fun k hk => g (by simp) (by simp) k (o2 k hk), o2⟩
  · obtain ⟨n, h2, h3⟩ := h1.ir j v hv
    exact ⟨n, ownsRow_chg h2 hc fun k hk => g (by simp) (by simp) k (h3 k hk), h3⟩
/-- Numbers more are the caller's. -/
theorem LB.addI (h : LB wb w wl ow qv bv iv ps bs is) {f zv' : Value} {n : Nat} (hf : w.ownsRow 0 3 1 f n (List.replicate n (.int .i64 (-(is.length : Int))))) (hfl : ∀ k, f.ownBlock = some k → ow k = .loose) (hc : Chg (fun k => k = wl ∨ iv.ownBlock = some k) w W)
    (hme : W.heap[wl]? = some (.cells #[qv, bv, zv'] 71 (0, 0))) (hrow : W.ownsRow 0 24 1 zv' (is ++ [f]).length (is ++ [f])) (hbv : ∀ k, zv'.ownBlock = some k → iv.ownBlock = some k ∨ w.heap.size ≤ k) :
    ∃ ow', LB wb W wl ow' qv bv zv' ps bs (is ++ [f]) ∧ ∀ k, k < w.heap.size → f.ownBlock ≠ some k → ow' k = ow k := by
  classical
  obtain ⟨ow', how⟩ : ∃ ow' : Nat → Lab, ow' = fun k => if f.ownBlock = some k then .row else if k < w.heap.size then ow k else if zv'.ownBlock = some k then .is else .loose := ⟨_, rfl⟩
  have o1 : ∀ k, k < w.heap.size → f.ownBlock ≠ some k → ow' k = ow k := fun k hk hf => by rw [how]; simp [hk, hf]
  refine ⟨ow', ?_, o1⟩
  have o2 : ∀ k, f.ownBlock = some k → ow' k = .row := fun k hk => by rw [how]; simp [hk]
  have h1 := h.relabel (ow' := ow') fun k hk hl => o1 k hk fun e => hl (hfl k e)
  have hwl := lt_of_heap h.me
  have gS : ∀ k, (k = wl ∨ iv.ownBlock = some k) → ow' k = .me ∨ ow' k = .is := fun k hk => hk.imp (fun e => (congrArg ow' e).trans h1.own) (h1.io k)
  have g : ∀ {m : Lab}, m ≠ .me → m ≠ .is → ∀ k, ow' k = m → ¬ (k = wl ∨ iv.ownBlock = some k) := fun a1 a2 k hk hs => (gS k hs).elim (fun e => a1 (hk.symm.trans e)) fun e => a2 (hk.symm.trans e)
  refine ⟨h1.err.chg hc (g (by simp) (by simp) 0 h1.glob), h1.glob, hme, h1.own, ownsRow_chg h1.q hc fun k hk => g (by simp) (by simp) k (h1.qo k hk), h1.qo,
    ownsRow_chg h1.b hc fun k hk => g (by simp) (by simp) k (h1.bo k hk), h1.bo, hrow, fun k hk => ?_, fun j v hv => ?_, fun j v hv => ?_, fun j p hp => (h1.xs j p hp).kept hc (g (by simp) (by simp)), fun j p hp => (h1.ms j p hp).kept hc (g (by simp) (by simp)), Below.chgS h1.bel hc h1.bel.size fun k hk => g (by simp) (by simp) k (h1.old k hk), h1.old⟩
  · rcases hbv k hk with e | e
    · exact h1.io k e
    · have : f.ownBlock ≠ some k := fun e2 => by
        obtain ⟨cur, hcur⟩ := own_heap hf e2
        have := lt_of_heap hcur; omega
      rw [how]
      simp [this, hk, show ¬ k < w.heap.size by omega]
  · obtain ⟨n, h2, h3⟩ := h1.br j v hv
    exact ⟨n, ownsRow_chg h2 hc fun k hk => g (by simp) (by simp) k (h3 k hk), h3⟩
  · rcases Nat.lt_or_ge j is.length with hlt | hge
    · rw [List.getElem?_append_left hlt] at hv
      obtain ⟨n, h2, h3⟩ := h1.ir j v hv
      exact ⟨n, ownsRow_chg h2 hc fun k hk => g (by simp) (by simp) k (h3 k hk), h3⟩
    · rw [List.getElem?_append_right hge] at hv
      obtain ⟨hl, e⟩ := List.getElem?_eq_some_iff.1 hv
      have hj : j = is.length := by simp at hl; omega
      subst hj
      simp at hv
      subst hv
      exact ⟨n, ownsRow_chg hf hc fun k hk => g (by simp) (by simp) k (o2 k hk), o2⟩
end
end Go.Proofs.YticobikhndlejaaGreatDoor

/- The law's small questions. -/
namespace Go.Proofs.YticobikhndlejaaGreatDoor
open Go.RowKit Go.Shelf Go.Lib
theorem eqInt (d : Nat) (T : TypeId) (a : Int) (w : World) (h : Tryz.prog.underlying T = some (.int .i64)) : (Op.equalIn (d + 1) T (.int .i64 a) (.int .i64 a)).run Tryz.prog w = .ok true w := by
  simp [Op.equalIn, run_underlying h]
theorem eqBool (d : Nat) (T : TypeId) (a : Bool) (w : World) (h : Tryz.prog.underlying T = some .bool) : (Op.equalIn (d + 1) T (.bool a) (.bool a)).run Tryz.prog w = .ok true w := by
  simp [Op.equalIn, run_underlying h]
theorem eqW (k r t : Int) (w : World) : (binOp BinOp.eql 39 (plErr k r t) (plErr k r t)).run Tryz.prog w = .ok (.bool true) w := by
  have p0 : ∀ w, (part 37 #[.int .i64 k, .int .i64 r, .int .i64 t, .bool true] 0).run Tryz.prog w = .ok (.int .i64 k) w := fun _ => by kernel_rfl
  have p1 : ∀ w, (part 3 #[.int .i64 k, .int .i64 r, .int .i64 t, .bool true] 1).run Tryz.prog w = .ok (.int .i64 r) w := fun _ => by kernel_rfl
  have p2 : ∀ w, (part 3 #[.int .i64 k, .int .i64 r, .int .i64 t, .bool true] 2).run Tryz.prog w = .ok (.int .i64 t) w := fun _ => by kernel_rfl
  have p3 : ∀ w, (part 4 #[.int .i64 k, .int .i64 r, .int .i64 t, .bool true] 3).run Tryz.prog w = .ok (.bool true) w := fun _ => by kernel_rfl
  have q0 : ∀ w, (Op.equalIn 9999 37 (.int .i64 k) (.int .i64 k)).run Tryz.prog w = .ok true w := fun w => eqInt 9998 _ k w Tryz.underlying37
  have q1 : ∀ a w, (Op.equalIn 9999 3 (.int .i64 a) (.int .i64 a)).run Tryz.prog w = .ok true w := fun a w => eqInt 9998 _ a w Tryz.underlying3
  have q3 : ∀ w, (Op.equalIn 9999 4 (.bool true) (.bool true)).run Tryz.prog w = .ok true w := fun w => eqBool 9998 _ true w Tryz.underlying4
  have st : Tryz.prog.stoodInHeld 39 = false := by kernel_rfl
  unfold binOp Op.equal
  rw [show Op.maxDepth = 9998 + 1 + 1 from rfl]
  simp only [go_sem]
  unfold Op.equalIn
  simp [run_underlying Tryz.underlying39, plErr, p0, p1, p2, p3, q0, q1, q3, st]
theorem wrong_l (k r t : Int) (w : World) : Calls Tryz.prog 81 #[plErr k r t, .int .i64 k, .int .i64 r, .int .i64 t] w fun y w' => y = .returned (.bool true) ∧ Below w.heap.size w w' := by
  have he := fun w => eqW k r t w
  go_enter Tryz.func81, Tryz.ntmps81
  go_wp2_with fail
  go_ret
  exact ⟨rfl, by go_grown⟩
theorem fine_l (w : World) : Calls Tryz.prog 57 #[plErr 0 (-1) 0] w fun y w' => y = .returned (.bool true) ∧ Below w.heap.size w w' := by
  have he := fun w => eqW 0 (-1) 0 w
  go_enter Tryz.func57, Tryz.ntmps57
  go_wp2_with fail
  go_ret
  exact ⟨rfl, by go_grown⟩
theorem none_l (k : Int) (w : World) : Calls Tryz.prog 56 #[plErr k (-1) 0, .int .i64 k] w fun y w' => y = .returned (.bool true) ∧ Below w.heap.size w w' := by
  go_enter Tryz.func56, Tryz.ntmps56
  go_wp2_with fail
  refine (wrong_l k (-1) 0 _).mono ?_
  rintro y w2 ⟨rfl, hB⟩
  go_wp2_with fail
  go_ret
  exact ⟨rfl, Below.trans (by go_grown) (hB.mono (by simp))⟩
end Go.Proofs.YticobikhndlejaaGreatDoor

/- The law's lists: are they the same, do they look as they were written? -/
namespace Go.Proofs.YticobikhndlejaaGreatDoor
open Go.RowKit Go.Shelf Go.Lib

set_option maxRecDepth 100000 in
set_option maxHeartbeats 1000000 in
theorem sameInts_l (w : World) (va vb : Value) (xs : List Int) (b1 b2 : Nat) (ha : w.ownsRow b1 3 1 va xs.length (xs.map fun n => Value.int .i64 n)) (hb : w.ownsRow b2 3 1 vb xs.length (xs.map fun n => Value.int .i64 n)) (hx : xs.length ≤ 1000000) :
    Calls Tryz.prog 88 #[va, vb] w fun y w' => y = .returned (.bool true) ∧ Below w.heap.size w w' := by
  obtain ⟨aa, ac, rfl⟩ := own_slice ha
  obtain ⟨ba, bc, rfl⟩ := own_slice hb
  obtain ⟨n, hn⟩ : ∃ n, xs.length = n := ⟨_, rfl⟩
  rw [hn] at ha hb hx ⊢
  have HA := Lib.hid ha
  have HB := Lib.hid hb
  have HN := Lib.hid hn
  clear ha hb hn
  go_enter Tryz.func88, Tryz.ntmps88
  go_wp2_with fail
  go_loopg [5] n (fun k i wr => ∃ (j : Nat), k = n - j ∧ j ≤ n ∧ i = .int .i64 j ∧ Hid (Below w.heap.size w wr))
  case atStart => exact ⟨0, by simp, by omega, rfl, Lib.hid (Below.refl _ _)⟩
  case round =>
    obtain ⟨j, rfl, hj, rfl, hB⟩ := hrel
    by_cases hlt : j < n
    · have hltI : (j : Int) < (n : Int) := by omega
      have hj0 : (0 : Int) ≤ (j : Int) := by omega
      obtain ⟨x, hx2⟩ : ∃ x, xs[j]? = some x := ⟨_, List.getElem?_eq_getElem (by rw [HN.out]; exact hlt)⟩
      obtain ⟨ga, rfl, _, _, p1⟩ := row_at (ownsRow_chg HA.out (chgB hB.out fun _ => False) fun _ _ z => z) (j := j) (x := .int .i64 x) (by rw [List.getElem?_map, hx2]; rfl) (by rw [List.length_map, HN.out])
      obtain ⟨gb, rfl, _, _, p2⟩ := row_at (ownsRow_chg HB.out (chgB hB.out fun _ => False) fun _ _ z => z) (j := j) (x := .int .i64 x) (by rw [List.getElem?_map, hx2]; rfl) (by rw [List.length_map, HN.out])
      clear hx2
      go_wp2_with fail
      go_quiet (fail)
      go_wp2_with fail
      go_roundg (n - (j + 1))
      case measure => omega
      case rel => exact ⟨j + 1, rfl, by omega, by go_num, Lib.hid (below_drewN hB.out _)⟩
    · obtain rfl : j = n := by omega
      go_wp2_with fail
      go_ret
      exact ⟨rfl, hB.out⟩
section
variable {wb w : World} {wl : Nat} {ow : Nat → Lab} {qv bv iv : Value} {ps : List LP} {bs is : List Value}
theorem own_maxLen {base n size : Nat} {ty : TypeId} {v : Value} {xs : List Value} (h : w.ownsRow base ty size v n xs) : n ≤ 9223372036854775807 := by
  rcases h.2 with ⟨_, h0⟩ | ⟨g, cap, cur, e, hb, h3, h4, h5, h6, h7⟩
  · omega
  · simp only [maxLen] at h5
    omega
set_option maxRecDepth 100000 in
set_option maxHeartbeats 2000000 in
/-- They look as the caller has written them. -/
theorem looks_l (h : LB wb w wl ow qv bv iv ps bs is) (hb : bs.length ≤ 1000000) (hi : is.length ≤ 1000000) :
    Calls Tryz.prog 31 #[ptr wl] w fun y w' => y = .returned (.bool true) ∧ Below w.heap.size w w' := by
  obtain ⟨ba, bc, rfl⟩ := own_slice h.b
  obtain ⟨ia, ic, rfl⟩ := own_slice h.i
  obtain ⟨nb, hnb⟩ : ∃ nb, bs.length = nb := ⟨_, rfl⟩
  obtain ⟨ni, hni⟩ : ∃ ni, is.length = ni := ⟨_, rfl⟩
  have HL := Lib.hid h
  rw [hnb] at hb
  rw [hni] at hi
  have HNB := Lib.hid hnb
  have HNI := Lib.hid hni
  clear h hnb hni
  go_enter Tryz.func31, Tryz.ntmps31
  go_wp2_with fail
  go_loopg [3] nb (fun k i wr => ∃ (j : Nat), k = nb - j ∧ j ≤ nb ∧ i = .int .i64 j ∧ Hid (Below w.heap.size w wr))
  case atStart => exact ⟨0, by simp, by omega, rfl, Lib.hid (Below.refl _ _)⟩
  case round =>
    obtain ⟨j, rfl, hj, rfl, hB⟩ := hrel
    have hL := HL.out.below hB.out
    have m1 : wr.cell? ⟨wl, 1, none⟩ = some (.slice ba nb bc) := by rw [← HNB.out]; exact cell_of hL.me rfl
    by_cases hlt : j < nb
    · have hltI : (j : Int) < (nb : Int) := by omega
      have hj0 : (0 : Int) ≤ (j : Int) := by omega
      have hrow := hL.b
      obtain ⟨v, hv⟩ : ∃ v, bs[j]? = some v := ⟨_, List.getElem?_eq_getElem (by rw [HNB.out]; exact hlt)⟩
      obtain ⟨n, hvr, _⟩ := hL.br j v hv
      obtain ⟨va, vc, rfl⟩ := own_slice hvr
      rw [HNB.out] at hrow
      obtain ⟨gb, rfl, _, _, p1⟩ := row_at hrow hv HNB.out
      have HV := Lib.hid hvr
      have HJ := Lib.hid hv
      have HB1 := hB
      clear hrow hvr hv hL
      have hn9 := own_maxLen HV.out
      go_wp2_with fail
      obtain ⟨wo, rfl⟩ : ∃ z, z = wr := ⟨_, rfl⟩
      go_loopg [4] n (fun k i wr => ∃ (j2 : Nat), k = n - j2 ∧ j2 ≤ n ∧ i = .int .i64 j2 ∧ Hid (Below w.heap.size w wr))
      case atStart => exact ⟨0, by simp, by omega, rfl, hB⟩
      case round =>
        obtain ⟨j2, rfl, hj2, rfl, hB2⟩ := hrel
        have hL := HL.out.below hB2.out
        have m1 : wr.cell? ⟨wl, 1, none⟩ = some (.slice (some ⟨gb, 0, none⟩) nb bc) := by rw [← HNB.out]; exact cell_of hL.me rfl
        have hrow := hL.b
        rw [HNB.out] at hrow
        obtain ⟨gb', e, _, _, p1⟩ := row_at hrow HJ.out HNB.out
        simp only [Option.some.injEq, Addr.mk.injEq, and_true] at e
        subst e
        by_cases hlt2 : j2 < n
        · have hltI2 : (j2 : Int) < (n : Int) := by omega
          have hj20 : (0 : Int) ≤ (j2 : Int) := by omega
          obtain ⟨n', hvr, _⟩ := hL.br j _ HJ.out
          have hnn : n' = n := by
            have h1 := hvr.1
            rcases hvr.2 with ⟨e, h0⟩ | ⟨g, cap, cur, e, _⟩
            · cases e; omega
            · cases e; rfl
          subst hnn
          obtain ⟨gv, rfl, _, _, p2⟩ := row_at hvr (j := j2) (x := .int .u8 ((j % 256 : Nat) : Int)) (by rw [List.getElem?_replicate, if_pos hlt2]) (by simp)
          obtain ⟨b8, hb8⟩ : ∃ b8, ((j % 256 : Nat) : Int) = b8 := ⟨_, rfl⟩
          rw [hb8] at p2
          have hmod : IntKind.u8.wrap (j : Int) = b8 := by rw [IntKind.wrap_u8]; omega
          clear hb8
          clear hrow hvr hL
          go_wp2_with fail
          go_roundg (n' - (j2 + 1))
          case measure => omega
          case rel => exact ⟨j2 + 1, rfl, by omega, by go_num, hB2⟩
        · obtain rfl : j2 = n := by omega
          clear hrow hL
          go_wp2_with fail
          go_roundg (nb - (j + 1))
          case measure => omega
          case rel => exact ⟨j + 1, rfl, by omega, by go_num, hB2⟩
    · obtain rfl : j = nb := by omega
      go_wp2_with fail
      obtain ⟨wp, rfl⟩ : ∃ z, z = wr := ⟨_, rfl⟩
      go_loopg [5] ni (fun k i wr => ∃ (j : Nat), k = ni - j ∧ j ≤ ni ∧ i = .int .i64 j ∧ Hid (Below w.heap.size w wr))
      case atStart => exact ⟨0, by simp, by omega, rfl, hB⟩
      case round =>
        obtain ⟨j, rfl, hj, rfl, hB⟩ := hrel
        have hL := HL.out.below hB.out
        have m1 : wr.cell? ⟨wl, 2, none⟩ = some (.slice ia ni ic) := by rw [← HNI.out]; exact cell_of hL.me rfl
        by_cases hlt : j < ni
        · have hltI : (j : Int) < (ni : Int) := by omega
          have hj0 : (0 : Int) ≤ (j : Int) := by omega
          have hrow := hL.i
          obtain ⟨v, hv⟩ : ∃ v, is[j]? = some v := ⟨_, List.getElem?_eq_getElem (by rw [HNI.out]; exact hlt)⟩
          obtain ⟨n, hvr, _⟩ := hL.ir j v hv
          obtain ⟨va, vc, rfl⟩ := own_slice hvr
          rw [HNI.out] at hrow
          obtain ⟨gb, rfl, _, _, p1⟩ := row_at hrow hv HNI.out
          have HV := Lib.hid hvr
          have HJ := Lib.hid hv
          clear hrow hvr hv hL
          have hn9 := own_maxLen HV.out
          go_wp2_with fail
          obtain ⟨wo, rfl⟩ : ∃ z, z = wr := ⟨_, rfl⟩
          go_loopg [6] n (fun k i wr => ∃ (j2 : Nat), k = n - j2 ∧ j2 ≤ n ∧ i = .int .i64 j2 ∧ Hid (Below w.heap.size w wr))
          case atStart => exact ⟨0, by simp, by omega, rfl, hB⟩
          case round =>
            obtain ⟨j2, rfl, hj2, rfl, hB2⟩ := hrel
            have hL := HL.out.below hB2.out
            have m1 : wr.cell? ⟨wl, 2, none⟩ = some (.slice (some ⟨gb, 0, none⟩) ni ic) := by rw [← HNI.out]; exact cell_of hL.me rfl
            have hrow := hL.i
            rw [HNI.out] at hrow
            obtain ⟨gb', e, _, _, p1⟩ := row_at hrow HJ.out HNI.out
            simp only [Option.some.injEq, Addr.mk.injEq, and_true] at e
            subst e
            by_cases hlt2 : j2 < n
            · have hltI2 : (j2 : Int) < (n : Int) := by omega
              have hj20 : (0 : Int) ≤ (j2 : Int) := by omega
              obtain ⟨n', hvr, _⟩ := hL.ir j _ HJ.out
              have hnn : n' = n := by
                have h1 := hvr.1
                rcases hvr.2 with ⟨e, h0⟩ | ⟨g, cap, cur, e, _⟩
                · cases e; omega
                · cases e; rfl
              subst hnn
              obtain ⟨gv, rfl, _, _, p2⟩ := row_at hvr (j := j2) (x := .int .i64 (-(j : Int))) (by rw [List.getElem?_replicate, if_pos hlt2]) (by simp)
              clear hrow hvr hL
              go_wp2_with fail
              go_roundg (n' - (j2 + 1))
              case measure => omega
              case rel => exact ⟨j2 + 1, rfl, by omega, by go_num, hB2⟩
            · obtain rfl : j2 = n := by omega
              clear hrow hL
              go_wp2_with fail
              go_roundg (ni - (j + 1))
              case measure => omega
              case rel => exact ⟨j + 1, rfl, by omega, by go_num, hB2⟩
        · obtain rfl : j = ni := by omega
          clear hL
          go_wp2_with fail
          go_ret
          exact ⟨rfl, hB.out⟩
end
end Go.Proofs.YticobikhndlejaaGreatDoor
