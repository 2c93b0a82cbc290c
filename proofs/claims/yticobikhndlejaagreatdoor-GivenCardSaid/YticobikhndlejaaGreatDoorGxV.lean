/- Given in plain Lean: two queues, one with a request less, send the same commands. -/
import Derived.Test.YticobikhndlejaaGreatDoorGxP
namespace Go.Proofs.YticobikhndlejaaGreatDoor

/-! ### a queue whose requests are named anew -/
structure Named (sh : Int → Int) (g : Req → Req) : Prop where
  num : ∀ r, (g r).num = sh r.num
  write : ∀ r, (g r).write = r.write
  page : ∀ r, (g r).page = r.page
  state : ∀ r, (g r).state = r.state
  after : ∀ r, (g r).after = r.after
  alone : ∀ r, (g r).alone = r.alone
  inAir : ∀ r, (g r).inAir = r.inAir
  lt : ∀ a b : Int, sh a < sh b ↔ a < b
section
variable {sh : Int → Int} {g : Req → Req} (h : Named sh g)
include h
theorem named_blocks (o r : Req) : (g o).blocks (g r) = o.blocks r := by
  unfold Req.blocks
  rw [h.num, h.num, h.page, h.page, h.write, h.write, h.state, h.inAir]
  congr 1
  exact decide_eq_decide.2 (h.lt _ _)
theorem named_byPage (l : List Req) : byPageR (l.map g) = (byPageR l).map g := by
  unfold byPageR
  rw [List.map_flatMap]
  congr 1
  funext p
  rw [List.filter_map]
  congr 1
  refine List.filter_congr fun r _ => ?_
  simp only [Function.comp, h.page]
theorem named_isReady (now : Int) (l : List Req) (r : Req) : isReadyR now (l.map g) (g r) = isReadyR now l r := by
  unfold isReadyR
  have h1 : ((fun o : Req => o.blocks (g r)) ∘ g) = fun o => o.blocks r := by
    funext o
    simp only [Function.comp, named_blocks h]
  rw [h.state, h.after, List.any_map, h1]
theorem named_ready (now : Int) (l : List Req) : readyR now (l.map g) = (readyR now l).map g := by
  unfold readyR
  rw [named_byPage h, List.filter_map]
  congr 1
  refine List.filter_congr fun r _ => ?_
  simp only [Function.comp, named_isReady h]
theorem named_pageR (L : List Req) (k : Nat) : pageR (L.map g) k = (pageR L k).map g := by
  unfold pageR
  rw [List.filter_map]
  congr 1
  refine List.filter_congr fun r _ => ?_
  simp only [Function.comp, h.page]
theorem named_kindR (L : List Req) (w : Bool) (k : Nat) : kindR (L.map g) w k = (kindR L w k).map g := by
  unfold kindR
  rw [named_pageR h, List.filter_map]
  congr 1
  refine List.filter_congr fun r _ => ?_
  simp only [Function.comp, isKindR, h.write, h.alone]
theorem named_runLen (L : List Req) (w : Bool) (p m : Nat) : runLenR (kindR (L.map g) w) p m = runLenR (kindR L w) p m := by
  unfold runLenR
  congr 2
  funext i
  rw [named_kindR h]; simp
theorem named_gather (L : List Req) (w : Bool) (p n : Nat) : gatherR (kindR (L.map g) w) p n = (gatherR (kindR L w) p n).map g := by
  unfold gatherR
  rw [List.map_flatMap]
  congr 1
  funext i
  exact named_kindR h L w (p + i)
theorem named_next (L : List Req) (head : Nat) : nextR (L.map g) head = ((nextR L head).1, (nextR L head).2.1, (nextR L head).2.2.map g) := by
  unfold nextR
  have h1 : (fun k => decide (0 < (pageR (L.map g) k).length)) = fun k => decide (0 < (pageR L k).length) := by
    funext k; rw [named_pageR h, List.length_map]
  rw [h1]
  cases beginE (fun k => decide (0 < (pageR L k).length)) head with
  | none => rfl
  | some p =>
    simp only
    rw [named_pageR h]
    cases pageR L p with
    | nil => rfl
    | cons f t =>
      simp only [List.map_cons]
      rw [h.alone, h.write]
      cases f.alone
      · simp only [Bool.false_eq_true, if_false]
        rw [named_gather h, named_runLen h]
      · rfl
end
def shC (sh : Int → Int) (c : Cmd) : Cmd := { c with nums := c.nums.map sh }
/-- What the next command hangs on. -/
def cmdOf (full : Bool) (now : Int) (rs : List Req) (head : Nat) : Option Cmd :=
  if full then none else
    match (nextR (readyR now rs) head).2.2 with
    | [] => none
    | f :: l => some ⟨f.write, (nextR (readyR now rs) head).1, (nextR (readyR now rs) head).2.1, (f :: l).map (·.num)⟩
theorem cmd_of (t : St) : t.cmd = cmdOf (decide (t.depth ≤ t.cs.length)) t.now t.rs t.head := by
  unfold St.cmd cmdOf
  by_cases hd : t.depth ≤ t.cs.length
  · rw [if_pos hd, if_pos (decide_eq_true hd)]
  · rw [if_neg hd, if_neg (by simpa using hd)]
    cases (nextR (readyR t.now t.rs) t.head).2.2 <;> rfl
theorem named_cmd {sh : Int → Int} {g : Req → Req} (h : Named sh g) (full : Bool) (now : Int) (rs : List Req) (head : Nat) : cmdOf full now (rs.map g) head = (cmdOf full now rs head).map (shC sh) := by
  unfold cmdOf
  cases full
  · simp only [Bool.false_eq_true, if_false]
    rw [named_ready h, named_next h]
    cases hs : (nextR (readyR now rs) head).2.2 with
    | nil => rfl
    | cons f l =>
      simp only [List.map_cons, Option.map_some, shC, h.write, h.num, List.map_map]
      congr 3
      refine List.map_congr_left fun r _ => ?_
      simp only [Function.comp, h.num]
  · rfl

/-! ### the two queues -/
def shN (n m : Int) : Int := if n < m then m + 1 else m
theorem shN_lt (n a b : Int) : shN n a < shN n b ↔ a < b := by unfold shN; split <;> split <;> omega
theorem shN_inj {n a b : Int} (h : shN n a = shN n b) : a = b := by unfold shN at h; split at h <;> split at h <;> omega
def z0 (r : Req) : Req := { r with data := ⟨0, 0, 0, 0⟩ }
def zk (n : Int) (r : Req) : Req := { r with num := shN n r.num, data := ⟨0, 0, 0, 0⟩ }
theorem named_z0 : Named id z0 := ⟨fun _ => rfl, fun _ => rfl, fun _ => rfl, fun _ => rfl, fun _ => rfl, fun _ => rfl, fun _ => rfl, fun _ _ => Iff.rfl⟩
theorem named_zk (n : Int) : Named (shN n) (zk n) := ⟨fun _ => rfl, fun _ => rfl, fun _ => rfl, fun _ => rfl, fun _ => rfl, fun _ => rfl, fun _ => rfl, shN_lt n⟩
structure Twin (n : Int) (a b : St) : Prop where
  depth : a.depth = b.depth
  rs : a.rs.map z0 = b.rs.map (zk n)
  cs : a.cs = b.cs.map (shC (shN n))
  now : a.now = b.now
  head : a.head = b.head
theorem Twin.cmd {n : Int} {a b : St} (h : Twin n a b) : a.cmd = b.cmd.map (shC (shN n)) := by
  rw [cmd_of, cmd_of, ← named_cmd (named_zk n), ← h.rs, named_cmd named_z0, h.now, h.head, h.depth]
  have h1 : a.cs.length = b.cs.length := by rw [h.cs]; simp
  rw [h1]
  have h2 : shC id = (id : Cmd → Cmd) := by funext c; simp [shC]
  rw [h2]; simp
theorem map_two {α β : Type} {l : List α} {m : List β} {γ : Type} {f : α → γ} {f' : β → γ} (h : l.map f = m.map f') (S : α → α) (S' : β → β) (U : γ → γ) (h1 : ∀ x, f (S x) = U (f x)) (h2 : ∀ x, f' (S' x) = U (f' x)) : (l.map S).map f = (m.map S').map f' := by
  have e1 : (l.map S).map f = (l.map f).map U := by rw [List.map_map, List.map_map]; exact List.map_congr_left fun x _ => h1 x
  have e2 : (m.map S').map f' = (m.map f').map U := by rw [List.map_map, List.map_map]; exact List.map_congr_left fun x _ => h2 x
  rw [e1, e2, h]
theorem filter_two {α β γ : Type} {l : List α} {m : List β} {f : α → γ} {f' : β → γ} (h : l.map f = m.map f') (p : α → Bool) (p' : β → Bool) (u : γ → Bool) (h1 : ∀ x, p x = u (f x)) (h2 : ∀ x, p' x = u (f' x)) : (l.filter p).map f = (m.filter p').map f' := by
  have e1 : (l.filter p).map f = (l.map f).filter u := by rw [List.filter_map]; congr 1; exact List.filter_congr fun x _ => h1 x
  have e2 : (m.filter p').map f' = (m.map f').filter u := by rw [List.filter_map]; congr 1; exact List.filter_congr fun x _ => h2 x
  rw [e1, e2, h]
theorem mem_shN {n m : Int} {l : List Int} : shN n m ∈ l.map (shN n) ↔ m ∈ l := by
  rw [List.mem_map]
  exact ⟨fun ⟨x, hx, e⟩ => by rw [← shN_inj e]; exact hx, fun h => ⟨m, h, rfl⟩⟩
theorem Twin.sent {n : Int} {a b : St} (h : Twin n a b) (c : Cmd) : Twin n (a.sent (shC (shN n) c)) (b.sent c) := by
  refine ⟨h.depth, ?_, ?_, h.now, rfl⟩
  · unfold St.sent
    simp only
    refine map_two h.rs _ _ (fun y => if y.num ∈ c.nums.map (shN n) then sentR y else y) (fun x => ?_) fun x => ?_
    · by_cases hx : x.num ∈ c.nums.map (shN n)
      · have hx' : (z0 x).num ∈ c.nums.map (shN n) := hx
        have hx'' : x.num ∈ (shC (shN n) c).nums := hx
        rw [if_pos hx', if_pos hx'']; rfl
      · have hx' : ¬ (z0 x).num ∈ c.nums.map (shN n) := hx
        have hx'' : ¬ x.num ∈ (shC (shN n) c).nums := hx
        rw [if_neg hx', if_neg hx'']
    · show zk n (if x.num ∈ c.nums then sentR x else x) = if shN n x.num ∈ c.nums.map (shN n) then sentR (zk n x) else zk n x
      by_cases hx : x.num ∈ c.nums
      · rw [if_pos hx, if_pos (mem_shN.2 hx)]; rfl
      · rw [if_neg hx, if_neg (fun e => hx (mem_shN.1 e))]
  · unfold St.sent
    simp only [h.cs, List.map_append, List.map_cons, List.map_nil]
theorem land_rs (fault : Bool) (t : St) (m : Int) : ((t.land fault m).rs = (t.rs.map fun x => if x.num = m then St.landR t.now t.disk fault x else x).filter fun x => !(x.num == m && (x.told && !x.inAir))) ∨ (t.land fault m = t ∧ ∀ x ∈ t.rs, x.num ≠ m) := by
  unfold St.land
  split
  · rename_i hn
    right
    refine ⟨rfl, fun x hx e => ?_⟩
    have := List.find?_eq_none.1 hn x hx
    simp [e] at this
  · exact .inl rfl
theorem find_two {n : Int} {l m : List Req} (h : l.map z0 = m.map (zk n)) (k : Int) : (∃ x ∈ l, x.num = shN n k) ↔ ∃ x ∈ m, x.num = k := by
  constructor
  · rintro ⟨x, hx, e⟩
    have h1 : z0 x ∈ m.map (zk n) := by rw [← h]; exact List.mem_map_of_mem hx
    obtain ⟨y, hy, e2⟩ := List.mem_map.1 h1
    refine ⟨y, hy, shN_inj (n := n) ?_⟩
    have : (zk n y).num = (z0 x).num := by rw [e2]
    exact this.trans e
  · rintro ⟨x, hx, rfl⟩
    have h1 : zk n x ∈ l.map z0 := by rw [h]; exact List.mem_map_of_mem hx
    obtain ⟨y, hy, e2⟩ := List.mem_map.1 h1
    refine ⟨y, hy, ?_⟩
    have : (z0 y).num = (zk n x).num := by rw [e2]
    exact this
theorem landR_z0 (now : Int) (d d' : List Int) (fault : Bool) (r : Req) : z0 (St.landR now d fault r) = z0 (St.landR now d' fault (z0 r)) := by
  unfold St.landR z0
  simp only
  repeat' split
  all_goals rfl
theorem landR_zk (n now : Int) (d d' : List Int) (fault : Bool) (r : Req) : zk n (St.landR now d fault r) = z0 (St.landR now d' fault (zk n r)) := by
  unfold St.landR z0 zk
  simp only
  repeat' split
  all_goals rfl
theorem Twin.land {n : Int} {a b : St} (h : Twin n a b) (fault : Bool) (m : Int) : Twin n (a.land fault (shN n m)) (b.land fault m) := by
  obtain ⟨a1, a2, a3, a4, _, _⟩ := land_same (t := a) fault (shN n m)
  obtain ⟨b1, b2, b3, b4, _, _⟩ := land_same (t := b) fault m
  refine ⟨by rw [a1, b1, h.depth], ?_, by rw [a2, b2, h.cs], by rw [a4, b4, h.now], by rw [a3, b3, h.head]⟩
  rcases land_rs fault b m with hb | ⟨hb, hb2⟩
  · rcases land_rs fault a (shN n m) with ha | ⟨ha, ha2⟩
    · rw [ha, hb]
      refine filter_two (map_two h.rs _ _ (fun y => if y.num = shN n m then z0 (St.landR a.now [] fault y) else y) (fun x => ?_) fun x => ?_) _ _ (fun y => !(y.num == shN n m && (y.told && !y.inAir))) (fun x => rfl) fun x => ?_
      · show z0 (if x.num = shN n m then St.landR a.now a.disk fault x else x) = if x.num = shN n m then z0 (St.landR a.now [] fault (z0 x)) else z0 x
        by_cases hx : x.num = shN n m
        · rw [if_pos hx, if_pos hx]
          exact landR_z0 a.now a.disk [] fault x
        · rw [if_neg hx, if_neg hx]
      · show zk n (if x.num = m then St.landR b.now b.disk fault x else x) = if shN n x.num = shN n m then z0 (St.landR a.now [] fault (zk n x)) else zk n x
        by_cases hx : x.num = m
        · rw [if_pos hx, if_pos (by rw [hx]), h.now]
          exact landR_zk n b.now b.disk [] fault x
        · rw [if_neg hx, if_neg fun e => hx (shN_inj e)]
      · simp only [zk]
        congr 2
        rw [Bool.eq_iff_iff]
        simp only [beq_iff_eq]
        exact ⟨fun e => by rw [e], fun e => shN_inj e⟩
    · have hno : ∀ x ∈ b.rs, x.num ≠ m := fun x hx e => by
        obtain ⟨y, hy, e2⟩ := (find_two h.rs m).2 ⟨x, hx, e⟩
        exact ha2 y hy e2
      rw [ha, hb]
      have e1 : (b.rs.map fun x => if x.num = m then St.landR b.now b.disk fault x else x) = b.rs := by
        conv => rhs; rw [← List.map_id b.rs]
        exact List.map_congr_left fun x hx => by rw [if_neg (hno x hx)]; rfl
      rw [e1, List.filter_eq_self.2 fun x hx => by simp [hno x hx]]
      exact h.rs
  · have hno : ∀ x ∈ a.rs, x.num ≠ shN n m := fun x hx e => by
      obtain ⟨y, hy, e2⟩ := (find_two h.rs m).1 ⟨x, hx, e⟩
      exact hb2 y hy e2
    rcases land_rs fault a (shN n m) with ha | ⟨ha, _⟩
    · rw [ha, hb]
      have e1 : (a.rs.map fun x => if x.num = shN n m then St.landR a.now a.disk fault x else x) = a.rs := by
        conv => rhs; rw [← List.map_id a.rs]
        exact List.map_congr_left fun x hx => by rw [if_neg (hno x hx)]; rfl
      rw [e1, List.filter_eq_self.2 fun x hx => by simp [hno x hx]]
      exact h.rs
    · rw [ha, hb]; exact h.rs
theorem Twin.lands {n : Int} (fault : Bool) : ∀ (ns : List Int) {a b : St}, Twin n a b → Twin n ((ns.map (shN n)).foldl (St.land fault) a) (ns.foldl (St.land fault) b)
  | [], _, _, h => h
  | m :: ns, _, _, h => Twin.lands fault ns (h.land fault m)
theorem map_eraseIdx {α β : Type} (f : α → β) (l : List α) (k : Nat) : (l.eraseIdx k).map f = (l.map f).eraseIdx k := by
  simp [List.eraseIdx_eq_take_drop_succ, List.map_take, List.map_drop]
theorem Twin.complete {n : Int} {a b : St} (h : Twin n a b) (k : Nat) (fault : Bool) : (a.complete k fault = none ∧ b.complete k fault = none) ∨ ∃ a' b', a.complete k fault = some a' ∧ b.complete k fault = some b' ∧ Twin n a' b' := by
  unfold St.complete
  have h1 : a.cs[k]? = (b.cs[k]?).map (shC (shN n)) := by rw [h.cs, List.getElem?_map]
  rw [h1]
  cases hb : b.cs[k]? with
  | none => exact .inl ⟨rfl, rfl⟩
  | some c =>
    refine .inr ⟨_, _, rfl, rfl, ?_⟩
    have h0 : Twin n { a with cs := a.cs.eraseIdx k } { b with cs := b.cs.eraseIdx k } := ⟨h.depth, h.rs, by simp only [h.cs]; exact (map_eraseIdx _ _ _).symm, h.now, h.head⟩
    exact Twin.lands fault c.nums h0

/-! ### it comes to an end -/
/-- Nobody waits for a time to come. -/
def Rdy (t : St) : Prop := ∀ r ∈ t.rs, r.state = 0 → r.after ≤ t.now
def waitB (r : Req) : Bool := r.state == 0
def nwait (t : St) : Nat := (t.rs.filter waitB).length
theorem flt_le (p : Req → Bool) (f : Req → Req) : ∀ (l : List Req), (∀ x ∈ l, p (f x) = true → p x = true) → ((l.map f).filter p).length ≤ (l.filter p).length
  | [], _ => Nat.le_refl _
  | a :: l, h => by
    have ih := flt_le p f l fun x hx => h x (List.mem_cons_of_mem _ hx)
    have ha := h a List.mem_cons_self
    simp only [List.map_cons, List.filter_cons]
    cases h1 : p (f a) <;> cases h2 : p a <;> simp_all <;> omega
theorem flt_lt (p : Req → Bool) (f : Req → Req) : ∀ (l : List Req), (∀ x ∈ l, p (f x) = true → p x = true) → (∃ x ∈ l, p x = true ∧ p (f x) = false) → ((l.map f).filter p).length < (l.filter p).length
  | [], _, h => by obtain ⟨x, hx, _⟩ := h; cases hx
  | a :: l, h, ⟨x, hx, h1, h2⟩ => by
    have ha := h a List.mem_cons_self
    have hle := flt_le p f l fun x hx => h x (List.mem_cons_of_mem _ hx)
    simp only [List.map_cons, List.filter_cons]
    rcases List.mem_cons.1 hx with rfl | hx
    · rw [h1, h2]; simp; omega
    · have ih := flt_lt p f l (fun x hx => h x (List.mem_cons_of_mem _ hx)) ⟨x, hx, h1, h2⟩
      cases h1 : p (f a) <;> cases h2 : p a <;> simp_all <;> omega
theorem sent_wait {t : St} (h : t.Ok) {c : Cmd} (hc : t.cmd = some c) : nwait (t.sent c) < nwait t := by
  obtain ⟨_, f, l, hsel, _, hnums⟩ := cmd_some h.a.head hc
  have hf := hsel.mem f List.mem_cons_self
  obtain ⟨h1, h2, _, _⟩ := mem_readyR hf.1
  refine flt_lt waitB (fun r => if r.num ∈ c.nums then sentR r else r) t.rs (fun x _ hx => ?_) ⟨f, h1, by simp [waitB, h2], ?_⟩
  · split at hx
    · simp [waitB, sentR] at hx
    · exact hx
  · rw [if_pos (by rw [hnums]; simp)]; simp [waitB, sentR]
theorem sent_rdy {t : St} (h : Rdy t) (c : Cmd) : Rdy (t.sent c) := fun r hr h0 => by
  obtain ⟨x, hx, rfl⟩ := List.mem_map.1 hr
  split at h0
  · simp [sentR] at h0
  · rename_i hn
    rw [if_neg hn]
    exact h x hx h0
theorem landR_wait {now : Int} {disk : List Int} {r : Req} (h : (St.landR now disk false r).state = 0) : r.state = 0 ∧ (St.landR now disk false r).after = r.after := by
  unfold St.landR at h ⊢
  simp only [Bool.not_false, if_true] at h ⊢
  split at h
  · simp at h
  · rename_i h1
    rw [if_neg h1]
    exact ⟨h, rfl⟩
theorem land_wait (t : St) (m : Int) : nwait (t.land false m) ≤ nwait t ∧ (Rdy t → Rdy (t.land false m)) := by
  have hs := land_same (t := t) false m
  rcases land_rs false t m with h | ⟨h, _⟩
  · constructor
    · unfold nwait
      rw [h]
      refine Nat.le_trans ?_ (flt_le waitB (fun x => if x.num = m then St.landR t.now t.disk false x else x) t.rs fun x _ hx => ?_)
      · exact ((List.filter_sublist (l := t.rs.map fun x => if x.num = m then St.landR t.now t.disk false x else x)).filter _).length_le
      · split at hx
        · simp [waitB] at hx ⊢; exact (landR_wait hx).1
        · exact hx
    · intro hr r hr1 h0
      rw [hs.2.2.2.1]
      rw [h] at hr1
      obtain ⟨x, hx, rfl⟩ := List.mem_map.1 (List.mem_filter.1 hr1).1
      split at h0
      · rename_i hn
        rw [if_pos hn, (landR_wait h0).2]
        exact hr x hx (landR_wait h0).1
      · rename_i hn
        rw [if_neg hn]
        exact hr x hx h0
  · rw [h]; exact ⟨Nat.le_refl _, id⟩
theorem lands_wait : ∀ (ns : List Int) (t : St), nwait (ns.foldl (St.land false) t) ≤ nwait t ∧ (Rdy t → Rdy (ns.foldl (St.land false) t))
  | [], _ => ⟨Nat.le_refl _, id⟩
  | m :: ns, t => by
    obtain ⟨h1, h2⟩ := land_wait t m
    obtain ⟨h3, h4⟩ := lands_wait ns (t.land false m)
    exact ⟨Nat.le_trans h3 h1, fun h => h4 (h2 h)⟩
theorem complete_wait {t t' : St} {k : Nat} (hc : t.complete k false = some t') : nwait t' ≤ nwait t ∧ (Rdy t → Rdy t') ∧ t'.cs.length + 1 = t.cs.length := by
  unfold St.complete at hc
  cases hck : t.cs[k]? with
  | none => rw [hck] at hc; cases hc
  | some c =>
    rw [hck] at hc
    simp only [Option.some.injEq] at hc
    subst hc
    obtain ⟨h1, h2⟩ := lands_wait c.nums { t with cs := t.cs.eraseIdx k }
    have hlt := (List.getElem?_eq_some_iff.1 hck).1
    refine ⟨h1, h2, ?_⟩
    rw [(lands_same false c.nums { t with cs := t.cs.eraseIdx k }).2.1]
    simp only [List.length_eraseIdx, hlt, if_true]
    omega
theorem idle {t : St} (h : t.Ok) (hr : Rdy t) (h0 : t.cs = []) (hc : t.cmd = none) : nwait t = 0 := by
  apply Classical.byContradiction
  intro hne
  have hfl : t.rs.filter waitB ≠ [] := fun e => hne (by unfold nwait; rw [e]; rfl)
  cases hl : t.rs.filter waitB with
  | nil => exact hfl hl
  | cons r l =>
    have hsorted : (t.rs.filter waitB).Pairwise (·.num < ·.num) := h.a.rs.nums.filter _
    rw [hl, List.pairwise_cons] at hsorted
    have hr0 : r ∈ t.rs.filter waitB := by rw [hl]; exact List.mem_cons_self
    obtain ⟨hr1, hr2⟩ := List.mem_filter.1 hr0
    have hr3 : r.state = 0 := by simpa [waitB] using hr2
    have hpg := (h.a.rs.ok r hr1).page
    have hrd : r ∈ readyR t.now t.rs := by
      refine ready_mem hr1 hpg hr3 (hr r hr1 hr3) fun o ho => ?_
      cases hb : o.blocks r with
      | false => rfl
      | true =>
        exfalso
        have hlv := blocks_live hb
        have hlt : o.num < r.num := by unfold Req.blocks at hb; simp at hb; exact hb.1
        have hna : o.inAir = false := by
          cases hoa : o.inAir with
          | false => rfl
          | true =>
            have := h.a.rs.airs o ho hoa
            rw [h0] at this; simp at this
        have ho0 : waitB o = true := by
          unfold Req.live at hlv
          rw [hna, Bool.or_false] at hlv
          exact hlv
        have hom : o ∈ t.rs.filter waitB := List.mem_filter.2 ⟨ho, ho0⟩
        rw [hl] at hom
        rcases List.mem_cons.1 hom with rfl | hom
        · omega
        · have := hsorted.1 o hom; omega
    rcases cmd_none h.a.head hc with hd | hd
    · have := h.a.depth
      rw [h0] at hd; simp at hd; omega
    · have h1 := hd r.page.toNat (by omega)
      have h2 : r ∈ pageR (readyR t.now t.rs) r.page.toNat := List.mem_filter.2 ⟨hrd, by simp; omega⟩
      rw [h1] at h2; cases h2
/-! ### how it begins -/
theorem len_subG : ∀ (l : List Int), l.Nodup → ∀ (m : List Int), (∀ a ∈ l, a ∈ m) → l.length ≤ m.length
  | [], _, _, _ => Nat.zero_le _
  | a :: l, hn, m, h => by
    rw [List.nodup_cons] at hn
    have ha := h a (by simp)
    have := len_subG l hn.2 (m.erase a) fun b hb => (List.mem_erase_of_ne (fun e => hn.1 (by rw [← e]; exact hb))).2 (h b (by simp [hb]))
    rw [List.length_erase_of_mem ha] at this
    have hp := List.length_pos_of_mem ha
    simp; omega
/-- Behind i asks: all of them on one side, all but the k-th (from 0 on) on the other. -/
structure Asks (k i : Nat) (a b : St) : Prop where
  aok : a.Ok
  bok : b.Ok
  rs : (a.rs.filter fun r => !(r.num == (k : Int) + 1)).map z0 = b.rs.map (zk k)
  al : a.last = i
  bl : b.last = if i ≤ k then (i : Int) else (i : Int) - 1
  ah : a.held = a.last
  bh : b.held = b.last
  ac : a.cs = [] ∧ b.cs = []
  now : a.now = 0 ∧ b.now = 0
  head : a.head = b.head
  depth : a.depth = b.depth
  new : ∀ r ∈ a.rs, r.state = 0 ∧ r.after = 0 ∧ r.inAir = false ∧ r.told = false
  len : a.rs.length = i
theorem asks_new {k d : Nat} (h : 1 ≤ d ∧ d ≤ 4) : Asks k 0 (St.new d) (St.new d) :=
  ⟨ok_new h, ok_new h, rfl, rfl, by simp [St.new], rfl, rfl, ⟨rfl, rfl⟩, ⟨rfl, rfl⟩, rfl, rfl, fun _ h => (List.not_mem_nil h).elim, rfl⟩
theorem asks_both {k i : Nat} {a b : St} (h : Asks k i a b) (hi : i < 40) (hne : i ≠ k) (w : Bool) (p : Int) (hp : 0 ≤ p ∧ p < 16) (d d' : B4) (hd : BOk d) (hd' : BOk d') : Asks k (i + 1) (a.add w p d) (b.add w p d') := by
  have hal := h.al
  have hah := h.ah
  have hbl := h.bl
  have hbh := h.bh
  refine ⟨ok_add h.aok (by omega) w p hp d hd, ok_add h.bok (by split at hbl <;> omega) w p hp d' hd', ?_, by simp [St.add]; omega, ?_, by simp [St.add]; omega, by simp [St.add]; omega, h.ac, h.now, h.head, h.depth, fun r hr => ?_, by simp [St.add, h.len]⟩
  · simp only [St.add, List.filter_append, List.map_append, h.rs]
    congr 1
    have hn : ¬ (a.last + 1 = (k : Int) + 1) := by omega
    simp only [List.filter_cons, newReq, beq_iff_eq, List.filter_nil, List.map_cons, List.map_nil]
    have : (!(a.last + 1 == (k : Int) + 1)) = true := by simpa using hn
    rw [this]
    simp only [if_true, List.map_cons, List.map_nil, z0, zk, shN, List.cons.injEq, Req.mk.injEq, and_true, true_and]
    split at hbl <;> split <;> omega
  · simp only [St.add]
    split at hbl <;> split <;> omega
  · simp only [St.add, List.mem_append, List.mem_singleton] at hr
    rcases hr with hr | rfl
    · exact h.new r hr
    · exact ⟨rfl, rfl, rfl, rfl⟩
theorem asks_one {k : Nat} {a b : St} (h : Asks k k a b) (hi : k < 40) (w : Bool) (p : Int) (hp : 0 ≤ p ∧ p < 16) (d : B4) (hd : BOk d) : Asks k (k + 1) (a.add w p d) b := by
  have hal := h.al
  have hah := h.ah
  have hbl := h.bl
  refine ⟨ok_add h.aok (by omega) w p hp d hd, h.bok, ?_, by simp [St.add]; omega, ?_, by simp [St.add]; omega, h.bh, h.ac, h.now, h.head, h.depth, fun r hr => ?_, by simp [St.add, h.len]⟩
  · simp only [St.add, List.filter_append, List.map_append, h.rs]
    simp only [List.filter_cons, newReq]
    have : (!(a.last + 1 == (k : Int) + 1)) = false := by simp; omega
    rw [this]
    simp
  · rw [if_neg (by omega)]
    rw [if_pos (Nat.le_refl _)] at hbl
    omega
  · simp only [St.add, List.mem_append, List.mem_singleton] at hr
    rcases hr with hr | rfl
    · exact h.new r hr
    · exact ⟨rfl, rfl, rfl, rfl⟩
/-- Given up, and told so. -/
theorem asks_give {k n : Nat} {a b : St} (h : Asks k n a b) (hk : k < n) (hn : n ≤ 40) : ∃ r, a.find ((k : Int) + 1) = some r ∧ r.state = 0 ∧ r.tries = r.tries ∧ ∃ r', (a.give ((k : Int) + 1)).find ((k : Int) + 1) = some r' ∧ r'.state = 4 ∧ r'.tries = r.tries ∧
    ((a.give ((k : Int) + 1)).tell ((k : Int) + 1)).find ((k : Int) + 1) = none ∧ (a.give ((k : Int) + 1)).Ok ∧ ((a.give ((k : Int) + 1)).tell ((k : Int) + 1)).Ok ∧
    Twin k ((a.give ((k : Int) + 1)).tell ((k : Int) + 1)) b ∧ Rdy ((a.give ((k : Int) + 1)).tell ((k : Int) + 1)) ∧ nwait ((a.give ((k : Int) + 1)).tell ((k : Int) + 1)) ≤ 40 := by
  have hpres : ∃ r ∈ a.rs, r.num = (k : Int) + 1 := by
    apply Classical.byContradiction
    intro hno
    -- n requests whose numbers are 1 to n, none of them k + 1
    have hsub := len_subG (a.rs.map (·.num)) (List.pairwise_map.2 (h.aok.a.rs.nums.imp fun hlt e => by omega)) (((List.range n).map fun j : Nat => (j : Int) + 1).erase ((k : Int) + 1)) fun x hx => by
      obtain ⟨r, hr, rfl⟩ := List.mem_map.1 hx
      have h1 := h.aok.a.rs.num r hr
      have h2 := h.al
      refine (List.mem_erase_of_ne fun e => hno ⟨r, hr, e⟩).2 (List.mem_map.2 ⟨(r.num - 1).toNat, List.mem_range.2 (by omega), by omega⟩)
    have hm : (k : Int) + 1 ∈ (List.range n).map fun j : Nat => (j : Int) + 1 := List.mem_map.2 ⟨k, List.mem_range.2 hk, rfl⟩
    rw [List.length_erase_of_mem hm, List.length_map, List.length_map, List.length_range, h.len] at hsub
    omega
  obtain ⟨r, hr, hrn⟩ := hpres
  obtain ⟨n1, n2, n3, n4⟩ := h.new r hr
  have hf : a.find ((k : Int) + 1) = some r := by
    unfold St.find
    have hfn := find_num h.aok.a.rs.nums hr
    cases hff : a.rs.find? fun x => x.num == (k : Int) + 1 && !x.told with
    | none =>
      have := List.find?_eq_none.1 hff r hr
      simp [hrn, n4] at this
    | some y =>
      have h1 := List.find?_some hff
      have h2 := List.mem_of_find?_eq_some hff
      simp at h1
      rw [rnum_inj h.aok.a.rs.nums h2 hr (by omega)]
  have hok1 := ok_give h.aok hf
  have hf2 : (a.give ((k : Int) + 1)).find ((k : Int) + 1) = some (St.giveR r) := by
    have hr' : St.giveR r ∈ (a.give ((k : Int) + 1)).rs := List.mem_map.2 ⟨r, hr, by rw [if_pos hrn]⟩
    unfold St.find
    cases hff : (a.give ((k : Int) + 1)).rs.find? fun x => x.num == (k : Int) + 1 && !x.told with
    | none =>
      have := List.find?_eq_none.1 hff _ hr'
      simp [St.giveR, hrn, n4] at this
    | some y =>
      have h1 := List.find?_some hff
      have h2 := List.mem_of_find?_eq_some hff
      simp at h1
      rw [rnum_inj hok1.a.rs.nums h2 hr' (by simp [St.giveR]; omega)]
  have hok2 := ok_tell hok1 hf2 (by simp [St.giveR])
  have hrs : ((a.give ((k : Int) + 1)).tell ((k : Int) + 1)).rs = a.rs.filter fun r => !(r.num == (k : Int) + 1) := by
    unfold St.tell St.tellRs St.give
    simp only [List.map_map]
    rw [List.filter_map]
    have hmid : ∀ x ∈ a.rs, x.num ≠ (k : Int) + 1 → ((fun r => if r.num = (k : Int) + 1 then tellR r else r) ∘ fun r => if r.num = (k : Int) + 1 then St.giveR r else r) x = x := fun x _ hx => by
      simp only [Function.comp]
      rw [if_neg hx, if_neg hx]
    have e1 : a.rs.filter ((fun r : Req => !(r.num == (k : Int) + 1 && (r.told && !r.inAir))) ∘ ((fun r => if r.num = (k : Int) + 1 then tellR r else r) ∘ fun r => if r.num = (k : Int) + 1 then St.giveR r else r)) = a.rs.filter fun r => !(r.num == (k : Int) + 1) := by
      refine List.filter_congr fun x hx => ?_
      by_cases hxn : x.num = (k : Int) + 1
      · have hxa := (h.new x hx).2.2.1
        have hg : (St.giveR x).num = (k : Int) + 1 := hxn
        simp only [Function.comp]
        rw [if_pos hxn, if_pos hg]
        simp [tellR, St.giveR, hxn, hxa]
      · simp only [Function.comp]
        rw [if_neg hxn, if_neg hxn]
        simp [hxn]
    rw [e1]
    conv => rhs; rw [← List.map_id (a.rs.filter fun r => !(r.num == (k : Int) + 1))]
    refine List.map_congr_left fun x hx => ?_
    obtain ⟨h1, h2⟩ := List.mem_filter.1 hx
    exact hmid x h1 (by simpa using h2)
  refine ⟨r, hf, n1, rfl, St.giveR r, hf2, rfl, rfl, ?_, hok1, hok2, ⟨h.depth, ?_, ?_, ?_, h.head⟩, ?_, ?_⟩
  · unfold St.find
    rw [hrs]
    refine List.find?_eq_none.2 fun x hx => ?_
    have := (List.mem_filter.1 hx).2
    simp at this
    simp [this]
  · rw [hrs]; exact h.rs
  · have e1 : ((a.give ((k : Int) + 1)).tell ((k : Int) + 1)).cs = a.cs := rfl
    rw [e1, h.ac.1, h.ac.2]; rfl
  · have e1 : ((a.give ((k : Int) + 1)).tell ((k : Int) + 1)).now = a.now := rfl
    rw [e1, h.now.1, h.now.2]
  · intro x hx _
    rw [hrs] at hx
    have := (h.new x (List.mem_filter.1 hx).1).2.1
    have e1 : ((a.give ((k : Int) + 1)).tell ((k : Int) + 1)).now = a.now := rfl
    rw [e1, h.now.1]; omega
  · unfold nwait
    rw [hrs]
    have h1 := List.length_filter_le waitB (a.rs.filter fun r => !(r.num == (k : Int) + 1))
    have h2 := List.length_filter_le (fun r : Req => !(r.num == (k : Int) + 1)) a.rs
    have h3 := h.len
    omega
end Go.Proofs.YticobikhndlejaaGreatDoor
