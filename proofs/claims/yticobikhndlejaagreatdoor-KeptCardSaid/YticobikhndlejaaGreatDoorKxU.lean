/- Kept in plain Lean: the power fails; a read behind it. -/
import Derived.Test.YticobikhndlejaaGreatDoorKxQ
import Derived.Test.YticobikhndlejaaGreatDoorKxS
namespace Go.Proofs.YticobikhndlejaaGreatDoor
open Go.RowKit Go.Shelf Go.Lib

theorem dput_split {l : List Int} (hl : l.length = 64) {p : Nat} (hp : p < 16) (d : B4) : dput l (p : Int) d = l.take (4 * p) ++ ([d.a, d.b, d.c, d.d] ++ l.drop (4 * p + 4)) := by
  have e1 : l = l.take (4 * p) ++ l.drop (4 * p) := (List.take_append_drop _ _).symm
  have hlen : (l.take (4 * p)).length = 4 * p := by rw [List.length_take]; omega
  have hdl : (l.drop (4 * p)).length = 64 - 4 * p := by rw [List.length_drop, hl]
  have e2 : l.drop (4 * p + 4) = (l.drop (4 * p)).drop 4 := by rw [List.drop_drop]
  rw [e2]
  generalize hA : l.take (4 * p) = A at *
  generalize hB : l.drop (4 * p) = B at *
  rw [e1]
  unfold dput
  simp only [Int.toNat_natCast]
  match B, hdl with
  | [], h => simp at h; omega
  | [_], h => simp at h; omega
  | [_, _], h => simp at h; omega
  | [_, _, _], h => simp at h; omega
  | b0 :: b1 :: b2 :: b3 :: B, _ =>
    rw [List.set_append_right _ _ (by omega), List.set_append_right _ _ (by omega), List.set_append_right _ _ (by omega), List.set_append_right _ _ (by omega), hlen]
    simp only [Nat.sub_self, Nat.add_sub_cancel_left]
    rfl
/-- The next command behind a crash and a read. -/
theorem crash_read {t : St} (h : t.Ok) (f : Nat → Bool) : ∃ t2, ((t.crash f).add false 3 ⟨0, 0, 0, 0⟩).cmd = some ⟨false, 3, 1, [t.last + 1]⟩ ∧ (((t.crash f).add false 3 ⟨0, 0, 0, 0⟩).sent ⟨false, 3, 1, [t.last + 1]⟩).complete 0 false = some t2 ∧
    ∃ r, t2.find (t.last + 1) = some r ∧ r.state = 2 ∧ r.write = false ∧ r.data = dget (t.crash f).disk 3 := by
  have hnow := h.a.now
  have hd := h.a.depth
  have hrs : ((t.crash f).add false 3 ⟨0, 0, 0, 0⟩).rs = [newReq (t.last + 1) false 3 ⟨0, 0, 0, 0⟩] := rfl
  have hrdy : readyR t.now [newReq (t.last + 1) false 3 ⟨0, 0, 0, 0⟩] = [newReq (t.last + 1) false 3 ⟨0, 0, 0, 0⟩] := by
    have h1 : isReadyR t.now [newReq (t.last + 1) false 3 ⟨0, 0, 0, 0⟩] (newReq (t.last + 1) false 3 ⟨0, 0, 0, 0⟩) = true := by
      simp [isReadyR, newReq, Req.blocks, hnow]
    have h2 : byPageR [newReq (t.last + 1) false 3 ⟨0, 0, 0, 0⟩] = [newReq (t.last + 1) false 3 ⟨0, 0, 0, 0⟩] := rfl
    unfold readyR
    rw [h2, List.filter_cons, h1]
    rfl
  have hcmd : ((t.crash f).add false 3 ⟨0, 0, 0, 0⟩).cmd = some ⟨false, 3, 1, [t.last + 1]⟩ := by
    have hn : ¬ ((t.crash f).add false 3 ⟨0, 0, 0, 0⟩).depth ≤ ((t.crash f).add false 3 ⟨0, 0, 0, 0⟩).cs.length := by
      show ¬ t.depth ≤ 0
      omega
    have hnx : nextR (readyR ((t.crash f).add false 3 ⟨0, 0, 0, 0⟩).now ((t.crash f).add false 3 ⟨0, 0, 0, 0⟩).rs) ((t.crash f).add false 3 ⟨0, 0, 0, 0⟩).head = (3, 1, [newReq (t.last + 1) false 3 ⟨0, 0, 0, 0⟩]) := by
      show nextR (readyR t.now [newReq (t.last + 1) false 3 ⟨0, 0, 0, 0⟩]) 0 = _
      rw [hrdy]
      rfl
    unfold St.cmd
    rw [if_neg hn, hnx]
    rfl
  have hcomp : ∃ t2, (((t.crash f).add false 3 ⟨0, 0, 0, 0⟩).sent ⟨false, 3, 1, [t.last + 1]⟩).complete 0 false = some t2 := by
    unfold St.complete
    exact ⟨_, rfl⟩
  obtain ⟨t2, h2⟩ := hcomp
  refine ⟨t2, hcmd, h2, ?_⟩
  have h3 : t2 = St.land false { ((t.crash f).add false 3 ⟨0, 0, 0, 0⟩).sent ⟨false, 3, 1, [t.last + 1]⟩ with cs := [] } (t.last + 1) := by
    unfold St.complete at h2
    exact (Option.some.inj h2).symm
  have hs : ({ ((t.crash f).add false 3 ⟨0, 0, 0, 0⟩).sent ⟨false, 3, 1, [t.last + 1]⟩ with cs := [] } : St).rs = [sentR (newReq (t.last + 1) false 3 ⟨0, 0, 0, 0⟩)] := by
    show [newReq (t.last + 1) false 3 ⟨0, 0, 0, 0⟩].map (fun r => if r.num ∈ [t.last + 1] then sentR r else r) = _
    simp [newReq]
  subst h3
  unfold St.land
  rw [hs]
  have hf : ([sentR (newReq (t.last + 1) false 3 ⟨0, 0, 0, 0⟩)].find? fun r => r.num == t.last + 1) = some (sentR (newReq (t.last + 1) false 3 ⟨0, 0, 0, 0⟩)) := by
    simp [sentR, newReq]
  rw [hf]
  simp only [St.find, sentR, newReq, List.map_cons, List.map_nil, if_true, St.landR]
  simp
  rfl
end Go.Proofs.YticobikhndlejaaGreatDoor

/- Strings of numbers, cut and joined. -/
namespace Go.Proofs.YticobikhndlejaaGreatDoor
open Go.RowKit Go.Shelf Go.Lib

theorem ba_ext {a b : ByteArray} (h : a.data.toList = b.data.toList) : a = b := by
  cases a; cases b
  congr 1
  exact Array.ext' h
theorem son_append (a b : List Int) : strOfNums a ++ strOfNums b = strOfNums (a ++ b) := by
  apply ba_ext
  rw [strOfNums_data, List.map_append, ← strOfNums_data a, ← strOfNums_data b]
  simp [ByteArray.data_append]
theorem son_extract (l : List Int) (i j : Nat) : (strOfNums l).extract i j = strOfNums ((l.take j).drop i) := by
  apply ba_ext
  rw [strOfNums_data]
  simp [ByteArray.data_extract, strOfNums, List.map_drop, List.map_take, List.drop_take]
theorem want_put {D : List Int} (h : D.length = 64) {p : Nat} (hp : p < 16) (d : B4) : (strOfNums D).extract 0 (4 * p) ++ bytesOf d ++ (strOfNums D).extract (4 * p + 4) 64 = strOfNums (dput D p d) := by
  rw [dput_split h hp d, ← son_append, ← son_append, son_extract, son_extract, List.take_of_length_le (Nat.le_of_eq h), ByteArray.append_assoc]
  rfl
/-- A page's bytes. -/
theorem want_get {D : List Int} (h : D.length = 64) : bytesOf (dget D 3) = (strOfNums D).extract 12 16 := by
  rw [son_extract]
  unfold bytesOf dget
  congr 1
  apply List.ext_getElem?
  intro i
  by_cases hi : i < 4
  · have : i = 0 ∨ i = 1 ∨ i = 2 ∨ i = 3 := by omega
    rcases this with rfl | rfl | rfl | rfl <;> simp [List.getElem?_drop, List.getElem?_take, h]
  · rw [List.getElem?_eq_none (by simp; omega), List.getElem?_eq_none (by simp; omega)]
theorem crash_o {w0 w : World} {wo : Nat} {x : KW} (h : KO w0 w wo x) (hk : x.t.Ok) (hs : x.t.Small) : ∃ q, w.cell? ⟨wo, 0, none⟩ = some (ptr q) ∧ wo < w.heap.size ∧
    ∀ W, Below w.heap.size w W → ∀ v l, BRow W v l → (∀ k, v.ownBlock = some k → w.heap.size ≤ k) → Calls Tryz.prog 24 #[ptr q, v] W fun y w' => y = .returned (.tuple #[]) ∧ KO w0 w' wo ⟨x.rs, x.t.crash fun i => l.getD i false⟩ ∧ Chg (fun k => k < w.heap.size) W w' := by
  obtain ⟨q, h1, h2, h3⟩ := h.cell
  refine ⟨q, h1, h2, fun W hB v l hv hvk => ?_⟩
  obtain ⟨F, f1, f2, f3⟩ := h3 W hB
  refine (crash_c f1 hk hs v l hv fun k hk hF => by have := hvk k hk; have := (f2 k hF).2; omega).mono ?_
  rintro y w' ⟨rfl, e1, e2⟩
  exact ⟨rfl, f3 w' _ F e1 (fun k hk => .inl hk) e2, e2.mono fun k _ hk => (f2 k hk).2⟩
theorem pollnone_o {w0 w : World} {wo : Nat} {x : KW} (h : KO w0 w wo x) (hg : ErrVar w0) (n : Int) (hf : x.t.find n = none) : ∃ q, w.cell? ⟨wo, 0, none⟩ = some (ptr q) ∧ wo < w.heap.size ∧
    ∀ W, Below w.heap.size w W → Calls Tryz.prog 16 #[ptr q, .int .i64 n] W fun y w' => y = .returned (.tuple #[noAns, plErr 5 (-1) 0]) ∧ Below W.heap.size W w' := by
  obtain ⟨q, h1, h2, h3⟩ := h.cell
  refine ⟨q, h1, h2, fun W hB => ?_⟩
  obtain ⟨F, f1, f2, f3⟩ := h3 W hB
  exact poll_none_p f1 ((h.err hg).chg (chgB hB fun _ => False) fun x => x) n hf
theorem read_o {w0 w : World} {wo : Nat} {x : KW} (h : KO w0 w wo x) (hg : ErrVar w0) (hk : x.t.Ok) (hs : x.t.Small) (hh : x.t.held < 40) (page : Int) (hp : 0 ≤ page ∧ page < 16) : ∃ q, w.cell? ⟨wo, 0, none⟩ = some (ptr q) ∧ wo < w.heap.size ∧
    ∀ W, Below w.heap.size w W → Calls Tryz.prog 25 #[ptr q, .int .i64 page] W fun y w' => y = .returned (.tuple #[.int .i64 (x.t.last + 1), plErr 0 (-1) 0]) ∧ KO w0 w' wo ⟨x.rs, x.t.add false page ⟨0, 0, 0, 0⟩⟩ ∧ Chg (fun k => k < w.heap.size) W w' := by
  obtain ⟨q, h1, h2, h3⟩ := h.cell
  have h0 : 0 < w0.heap.size := lt_of_cell hg
  refine ⟨q, h1, h2, fun W hB => ?_⟩
  obtain ⟨F, f1, f2, f3⟩ := h3 W hB
  refine (read_p f1 hk hs ((h.err hg).chg (chgB hB fun _ => False) fun x => x) (fun x => by have := (f2 0 x).1; omega) hh page hp).mono ?_
  rintro y w' ⟨rfl, e1, e2⟩
  exact ⟨rfl, f3 w' _ _ e1 (fun k hk => hk.imp id fun h => by omega) e2, e2.mono fun k _ hk => (f2 k hk).2⟩
theorem pollread_o {w0 w : World} {wo : Nat} {x : KW} (h : KO w0 w wo x) (hg : ErrVar w0) (hk : x.t.Ok) (hs : x.t.Small) (n : Int) (r : Req) (hf : x.t.find n = some r) (hst : r.state = 2) (hw : r.write = false) : ∃ q, w.cell? ⟨wo, 0, none⟩ = some (ptr q) ∧ wo < w.heap.size ∧
    ∀ W, Below w.heap.size w W → Calls Tryz.prog 16 #[ptr q, .int .i64 n] W fun y w' => ∃ v, y = .returned (.tuple #[.agg #[v, .int .i64 r.tries], plErr 0 (-1) 0]) ∧ KO w0 w' wo ⟨x.rs, x.t.tell n⟩ ∧ Chg (fun k => k < w.heap.size) W w' ∧ w'.ownsRow W.heap.size 5 1 v 4 (b4Cells r.data) := by
  obtain ⟨q, h1, h2, h3⟩ := h.cell
  have h0 : 0 < w0.heap.size := lt_of_cell hg
  refine ⟨q, h1, h2, fun W hB => ?_⟩
  obtain ⟨F, f1, f2, f3⟩ := h3 W hB
  refine (poll_read_p f1 hk hs ((h.err hg).chg (chgB hB fun _ => False) fun x => x) (fun x => by have := (f2 0 x).1; omega) n r hf hst hw).mono ?_
  rintro y w' ⟨v, F', rfl, e1, e2, _, e4, e5⟩
  exact ⟨v, rfl, f3 w' _ _ e1 e2 e4, e4.mono fun k _ hk => (f2 k hk).2, e5⟩
theorem conv_row {w : World} {base n : Nat} {a : Option Addr} {c : Nat} {l : List Int} (h : w.ownsRow base 5 1 (.slice a n c) n (l.map fun b => Value.int .u8 b)) (hn : l.length = n) (h0 : 0 < n) :
    (convert 41 9 (.slice a n c)).run Tryz.prog w = .ok (.string (strOfNums l)) w := by
  rcases h.2 with ⟨_, e⟩ | ⟨g, cap, cur, e, h2, h3, h4, h5, h6, h7⟩
  · omega
  simp only [Value.slice.injEq] at e
  obtain ⟨rfl, _, rfl⟩ := e
  refine run_convert_bytes_arg (P := Tryz.prog) w 41 5 Tryz.underlying41 Tryz.underlying5 g 0 n c l hn (fun i hi => ?_) 9 Tryz.underlying9
  refine cell_of h3 ?_
  rw [Nat.zero_add, ← Array.getElem?_toList]
  have h8 : (l.map fun b => Value.int .u8 b)[i]? = some (.int .u8 (l.getD i 0)) := by
    rw [List.getElem?_map, List.getElem?_eq_getElem (by omega)]
    simp [List.getD_eq_getElem?_getD, List.getElem?_eq_getElem (show i < l.length by omega)]
  rw [← h7, List.getElem?_take_of_lt (by omega)] at h8
  exact h8
/-- Who writes in the first j commands. -/
def wnT (cs : List Cmd) (j : Nat) : List Int := ((cs.take j).filter (·.write)).flatMap (·.nums)
theorem wnT_succ {cs : List Cmd} {j : Nat} {c : Cmd} (h : cs[j]? = some c) : wnT cs (j + 1) = wnT cs j ++ (if c.write then c.nums else []) := by
  obtain ⟨h1, h2⟩ := List.getElem?_eq_some_iff.1 h
  unfold wnT
  rw [List.take_succ_eq_append_getElem h1, h2, List.filter_append, List.flatMap_append]
  congr 1
  cases hw : c.write <;> simp [hw]
theorem wnT_all {cs : List Cmd} {j : Nat} (h : cs.length ≤ j) : wnT cs j = (cs.filter (·.write)).flatMap (·.nums) := by
  unfold wnT
  rw [List.take_of_length_le h]
end Go.Proofs.YticobikhndlejaaGreatDoor
