/- The next command: what it is made of; that sending it, and landing it, keep what holds of every queue. -/
import Derived.Test.YticobikhndlejaaGreatDoorScA
namespace Go.Proofs.YticobikhndlejaaGreatDoor

theorem mem_byPageR {l : List Req} {r : Req} : r ∈ byPageR l ↔ r ∈ l ∧ 0 ≤ r.page ∧ r.page < 16 := by
  unfold byPageR
  simp only [List.mem_flatMap, List.mem_range, List.mem_filter, beq_iff_eq]
  constructor
  · rintro ⟨p, hp, hr, he⟩; exact ⟨hr, by omega, by omega⟩
  · rintro ⟨hr, h1, h2⟩; exact ⟨r.page.toNat, by omega, hr, by omega⟩
theorem byPageR_nodup {l : List Req} (h : l.Nodup) : (byPageR l).Nodup := by
  unfold byPageR List.Nodup
  refine List.pairwise_flatMap.2 ⟨fun p _ => h.filter _, (List.pairwise_lt_range (n := 16)).imp fun {p q} hpq x hx y hy e => ?_⟩
  have h2 := (List.mem_filter.1 hx).2
  have h3 := (List.mem_filter.1 hy).2
  subst e
  simp at h2 h3; omega
theorem nodup_of_nums {l : List Req} (h : l.Pairwise (·.num < ·.num)) : l.Nodup := h.imp fun hlt e => by subst e; omega
/-- It is ready: it waits, its time has come, nothing is in its way. -/
theorem mem_readyR {now : Int} {l : List Req} {r : Req} (h : r ∈ readyR now l) : r ∈ l ∧ r.state = 0 ∧ r.after ≤ now ∧ ∀ o ∈ l, o.blocks r = false := by
  have h1 := List.mem_filter.1 h
  have h2 := (mem_byPageR.1 h1.1).1
  have h3 := h1.2
  simp only [isReadyR, Bool.and_eq_true, beq_iff_eq, decide_eq_true_eq, Bool.not_eq_true'] at h3
  refine ⟨h2, h3.1, h3.2.1, fun o ho => ?_⟩
  have := List.any_eq_false.1 h3.2.2 o ho
  simpa using this
theorem ready_mem {now : Int} {l : List Req} {r : Req} (hr : r ∈ l) (hp : 0 ≤ r.page ∧ r.page < 16) (h0 : r.state = 0) (ha : r.after ≤ now) (hb : ∀ o ∈ l, o.blocks r = false) : r ∈ readyR now l := by
  refine List.mem_filter.2 ⟨mem_byPageR.2 ⟨hr, hp⟩, ?_⟩
  have h1 : (l.any fun o => o.blocks r) = false := List.any_eq_false.2 fun o ho => by simp [hb o ho]
  simp [isReadyR, h0, ha, h1]
theorem wrapAt_lt16 {head i : Nat} (h : head ≤ 16) (hi : i < 16) : wrapAt head i < 16 := by unfold wrapAt; split <;> omega
theorem beginE_spec {ne : Nat → Bool} {head p : Nat} (hh : head ≤ 16) (h : beginE ne head = some p) : p < 16 ∧ ne p = true := by
  unfold beginE at h
  have h1 := List.find?_some h
  have h2 := List.mem_of_find?_eq_some h
  obtain ⟨i, hi, rfl⟩ := List.mem_map.1 h2
  exact ⟨wrapAt_lt16 hh (List.mem_range.1 hi), h1⟩
/-- It is the first one from head on, else the first of all. -/
theorem beginE_first {ne : Nat → Bool} {head p : Nat} (hh : head ≤ 16) (h : beginE ne head = some p) : (head ≤ p ∧ ∀ k, head ≤ k → k < p → ne k = false) ∨ (p < head ∧ (∀ k, k < p → ne k = false) ∧ ∀ k, head ≤ k → k < 16 → ne k = false) := by
  unfold beginE at h
  rw [List.find?_eq_some_iff_append] at h
  obtain ⟨h1, la, lb, h2, h3⟩ := h
  have hlen : la.length < 16 := by
    have := congrArg List.length h2; simp at this; omega
  have hp : wrapAt head la.length = p := by
    have := congrArg (fun l => l[la.length]?) h2
    simp [hlen] at this
    exact this
  have hk : ∀ i, i < la.length → ne (wrapAt head i) = false := fun i hi => by
    have := congrArg (fun l => l[i]?) h2
    simp [List.getElem?_append, hi, show i < 16 by omega] at this
    have := h3 (wrapAt head i) (by rw [this]; exact List.getElem_mem hi)
    simpa using this
  by_cases hc : 16 ≤ head + la.length
  · right
    have hp' : p = head + la.length - 16 := by rw [← hp]; unfold wrapAt; rw [if_pos hc]
    refine ⟨by omega, fun k hkp => ?_, fun k hk1 hk2 => ?_⟩
    · have := hk (k + 16 - head) (by omega)
      unfold wrapAt at this
      rw [if_pos (by omega), show head + (k + 16 - head) - 16 = k from by omega] at this
      exact this
    · have := hk (k - head) (by omega)
      unfold wrapAt at this
      rw [if_neg (by omega), show head + (k - head) = k from by omega] at this
      exact this
  · left
    have hp' : p = head + la.length := by rw [← hp]; unfold wrapAt; rw [if_neg hc]
    refine ⟨by omega, fun k hk1 hk2 => ?_⟩
    have := hk (k - head) (by omega)
    unfold wrapAt at this
    rw [if_neg (by omega), show head + (k - head) = k from by omega] at this
    exact this
theorem beginE_no {ne : Nat → Bool} {head : Nat} (hh : head ≤ 16) (h : beginE ne head = none) (k : Nat) (hk : k < 16) : ne k = false := by
  unfold beginE at h
  rw [List.find?_eq_none] at h
  by_cases hc : head ≤ k
  · have := h (wrapAt head (k - head)) (List.mem_map_of_mem (List.mem_range.2 (by omega)))
    unfold wrapAt at this
    rw [if_neg (by omega), show head + (k - head) = k from by omega] at this
    simpa using this
  · have := h (wrapAt head (k + 16 - head)) (List.mem_map_of_mem (List.mem_range.2 (by omega)))
    unfold wrapAt at this
    rw [if_pos (by omega), show head + (k + 16 - head) - 16 = k from by omega] at this
    simpa using this
theorem takeWhile_stop (q : Nat → Bool) : ∀ m, ((List.range m).takeWhile q).length < m → q ((List.range m).takeWhile q).length = false
  | 0, h => by simp at h
  | m + 1, h => by
    rw [List.range_succ, List.takeWhile_append] at h ⊢
    split at h
    · rename_i hc
      rw [if_pos hc]
      have h1 : ((List.range m).takeWhile q).length = m := by simpa using hc
      rw [List.length_append, List.length_range] at h ⊢
      cases hq : q m with
      | true => rw [List.takeWhile_cons_of_pos hq] at h; simp at h
      | false => rw [List.takeWhile_cons_of_neg (by simp [hq])]; simpa using hq
    · rename_i hc
      rw [if_neg hc]
      have h2 : ((List.range m).takeWhile q).length ≤ m := by
        have := (List.takeWhile_sublist (l := List.range m) q).length_le; simpa using this
      have h1 : ((List.range m).takeWhile q).length ≠ m := fun e => hc (by simpa using e)
      exact takeWhile_stop q m (by omega)
theorem runLenR_spec (K : Nat → List Req) (p m : Nat) : runLenR K p m ≤ m ∧ (∀ i, i < runLenR K p m → K (p + i) ≠ []) ∧ (runLenR K p m < m → K (p + runLenR K p m) = []) := by
  unfold runLenR
  generalize hq : (fun i => !(K (p + i)).isEmpty) = q
  obtain ⟨bs, hb⟩ : ∃ bs, (List.range m).takeWhile q ++ bs = List.range m := ⟨_, List.takeWhile_append_dropWhile⟩
  have hle : ((List.range m).takeWhile q).length ≤ m := by
    have := (List.takeWhile_sublist (l := List.range m) q).length_le; simpa using this
  have hget : ∀ i, i < ((List.range m).takeWhile q).length → ((List.range m).takeWhile q)[i]? = some i := fun i hi => by
    have := congrArg (fun l => l[i]?) hb
    simp only [List.getElem?_append_left hi] at this
    rw [this, List.getElem?_range (by omega)]
  refine ⟨hle, fun i hi => ?_, fun hlt => ?_⟩
  · have h1 := hget i hi
    have h2 : i ∈ (List.range m).takeWhile q := List.mem_of_getElem? h1
    have h3 : q i = true := by
      have := List.all_takeWhile (l := List.range m) (p := q)
      exact List.all_eq_true.1 this i h2
    rw [← hq] at h3
    simpa using h3
  · subst hq
    have := takeWhile_stop _ m hlt
    simpa using this
theorem mem_gatherR {K : Nat → List Req} {p n : Nat} {r : Req} : r ∈ gatherR K p n ↔ ∃ i, i < n ∧ r ∈ K (p + i) := by
  unfold gatherR; simp
theorem mem_kindR {L : List Req} {w : Bool} {k : Nat} {r : Req} : r ∈ kindR L w k ↔ r ∈ L ∧ r.page = (k : Int) ∧ r.write = w ∧ r.alone = false := by
  unfold kindR pageR isKindR
  simp only [List.mem_filter, beq_iff_eq, Bool.and_eq_true, Bool.not_eq_true']
  exact ⟨fun ⟨⟨a, b⟩, c, d⟩ => ⟨a, b, c, d⟩, fun ⟨a, b, c, d⟩ => ⟨⟨a, b⟩, c, d⟩⟩
/-- What the next command is made of, whatever is ready. -/
structure Sel (L : List Req) (head p n : Nat) (sel : List Req) : Prop where
  p16 : p < 16
  n1 : 1 ≤ n
  n4 : n ≤ 4
  pn : p + n ≤ 16
  first : beginE (fun k => decide (0 < (pageR L k).length)) head = some p
  mem : ∀ r ∈ sel, r ∈ L ∧ (p : Int) ≤ r.page ∧ r.page < p + n
  all : ∀ k : Nat, k < n → ∃ r ∈ sel, r.page = ((p + k : Nat) : Int)
  form : ∃ f t, pageR L p = f :: t ∧ ((f.alone = true ∧ n = 1 ∧ sel = [f]) ∨ (f.alone = false ∧ sel = gatherR (kindR L f.write) p n ∧ (∀ i, i < n → kindR L f.write (p + i) ≠ []) ∧ (n < 4 → p + n < 16 → kindR L f.write (p + n) = [])))
theorem nextR_spec {L : List Req} {head : Nat} (hh : head ≤ 16) : (nextR L head = (0, 0, []) ∧ ∀ k, k < 16 → pageR L k = []) ∨ ∃ p n f t, nextR L head = (p, n, f :: t) ∧ Sel L head p n (f :: t) := by
  unfold nextR
  cases hb : beginE (fun k => decide (0 < (pageR L k).length)) head with
  | none => exact .inl ⟨rfl, fun k hk => by have := beginE_no hh hb k hk; simpa using this⟩
  | some p =>
    obtain ⟨hp16, hne⟩ := beginE_spec hh hb
    obtain ⟨f, t, hft⟩ : ∃ f t, pageR L p = f :: t := by
      cases hpl : pageR L p with
      | nil => simp [hpl] at hne
      | cons f t => exact ⟨f, t, rfl⟩
    have hfm := List.mem_filter.1 (show f ∈ pageR L p from by rw [hft]; simp)
    have hfp : f.page = (p : Int) := by simpa using hfm.2
    simp only [hft]
    cases hal : f.alone with
    | true => exact .inr ⟨p, 1, f, [], rfl, hp16, by omega, by omega, by omega, hb, fun r hr => by rw [List.mem_singleton.1 hr]; exact ⟨hfm.1, by omega, by omega⟩, fun k hk => ⟨f, by simp, by rw [hfp]; omega⟩, ⟨f, t, hft, .inl ⟨hal, rfl, rfl⟩⟩⟩
    | false =>
      simp only [Bool.false_eq_true, if_false]
      obtain ⟨h1, h2, h3⟩ := runLenR_spec (kindR L f.write) p (min 4 (16 - p))
      obtain ⟨n, hn⟩ : ∃ n, runLenR (kindR L f.write) p (min 4 (16 - p)) = n := ⟨_, rfl⟩
      rw [hn] at h1 h2 h3 ⊢
      have hfk : f ∈ kindR L f.write p := mem_kindR.2 ⟨hfm.1, hfp, rfl, hal⟩
      have hn1 : 1 ≤ n := by
        rcases Nat.eq_zero_or_pos n with h0 | h0
        · subst h0
          have := h3 (by omega)
          rw [show p + 0 = p from rfl] at this
          rw [this] at hfk; cases hfk
        · exact h0
      have hg : ∃ x l, gatherR (kindR L f.write) p n = x :: l := by
        have : f ∈ gatherR (kindR L f.write) p n := mem_gatherR.2 ⟨0, hn1, hfk⟩
        cases hg : gatherR (kindR L f.write) p n with
        | nil => rw [hg] at this; cases this
        | cons x l => exact ⟨x, l, rfl⟩
      obtain ⟨x, l, hxl⟩ := hg
      refine .inr ⟨p, n, x, l, by rw [hxl], ?_⟩
      rw [← hxl]
      refine ⟨hp16, hn1, by omega, by omega, hb, fun r hr => ?_, fun k hk => ?_, ⟨f, t, hft, .inr ⟨hal, rfl, h2, fun a b => h3 (by omega)⟩⟩⟩
      · obtain ⟨i, hi, hm⟩ := mem_gatherR.1 hr
        obtain ⟨m1, m2, _⟩ := mem_kindR.1 hm
        exact ⟨m1, by rw [m2]; omega, by rw [m2]; omega⟩
      · cases hk2 : kindR L f.write (p + k) with
        | nil => exact absurd hk2 (h2 k hk)
        | cons y m =>
          have hy : y ∈ kindR L f.write (p + k) := by rw [hk2]; simp
          exact ⟨y, mem_gatherR.2 ⟨k, hk, hy⟩, (mem_kindR.1 hy).2.1⟩
end Go.Proofs.YticobikhndlejaaGreatDoor

/- Sending a command and landing it keep what holds of every queue. -/
namespace Go.Proofs.YticobikhndlejaaGreatDoor

theorem Sel.kind {L : List Req} {head p n : Nat} {sel : List Req} (h : Sel L head p n sel) : ∃ w, ∀ r ∈ sel, r.write = w := by
  obtain ⟨f, t, _, ⟨_, _, e⟩ | ⟨_, e, _⟩⟩ := h.form
  · exact ⟨f.write, fun r hr => by rw [e] at hr; rw [List.mem_singleton.1 hr]⟩
  · exact ⟨f.write, fun r hr => by
      rw [e] at hr
      obtain ⟨i, _, hm⟩ := mem_gatherR.1 hr
      exact (mem_kindR.1 hm).2.2.1⟩
theorem len_one {l : List Req} (hn : l.Nodup) (h : ∀ a ∈ l, ∀ b ∈ l, a = b) : l.length ≤ 1 := by
  match l, hn, h with
  | [], _, _ => simp
  | [_], _, _ => simp
  | a :: b :: t, hn, h =>
    have := h a (by simp) b (by simp)
    subst this
    simp at hn
theorem gather_nodup {L : List Req} (hL : L.Nodup) (w : Bool) (p n : Nat) : (gatherR (kindR L w) p n).Nodup := by
  unfold gatherR List.Nodup
  refine List.pairwise_flatMap.2 ⟨fun i _ => (hL.filter _).filter _, (List.pairwise_lt_range (n := n)).imp fun {i j} hij x hx y hy e => ?_⟩
  have h1 := (mem_kindR.1 hx).2.1
  have h2 := (mem_kindR.1 hy).2.1
  subst e
  omega
theorem gather_succR (K : Nat → List Req) (a j : Nat) : gatherR K a (j + 1) = gatherR K a j ++ K (a + j) := by simp [gatherR, List.range_succ, List.flatMap_append]
theorem gather_len_ge {K : Nat → List Req} {p : Nat} : ∀ n, (∀ i, i < n → K (p + i) ≠ []) → n ≤ (gatherR K p n).length
  | 0, _ => by simp
  | n + 1, h => by
    rw [gather_succR, List.length_append]
    have := gather_len_ge n fun i hi => h i (by omega)
    have h2 : 0 < (K (p + n)).length := List.length_pos_iff.2 (h n (by omega))
    omega
theorem gather_len_le {K : Nat → List Req} {p : Nat} : ∀ n, (∀ i, i < n → (K (p + i)).length ≤ 1) → (gatherR K p n).length ≤ n
  | 0, _ => by simp [gatherR]
  | n + 1, h => by
    rw [gather_succR, List.length_append]
    have := gather_len_le n fun i hi => h i (by omega)
    have h2 := h n (by omega)
    omega
/-- Two that are ready, to one page, one of which writes, are one. -/
theorem ready_alone {now : Int} {rs : List Req} (hs : rs.Pairwise (·.num < ·.num)) {a b : Req} (ha : a ∈ readyR now rs) (hb : b ∈ readyR now rs) (hp : a.page = b.page) (hw : a.write = true) : a = b := by
  obtain ⟨a1, a2, a3, a4⟩ := mem_readyR ha
  obtain ⟨b1, b2, b3, b4⟩ := mem_readyR hb
  by_cases h : a.num = b.num
  · exact rnum_inj hs a1 b1 h
  · rcases Int.lt_or_gt_of_ne h with hlt | hlt
    · have := b4 a a1
      simp [Req.blocks, hlt, hp, hw, a2] at this
    · have := a4 b b1
      simp [Req.blocks, hp, hw, b2] at this
      omega
theorem cmd_some {t : St} (h : t.head ≤ 16) {c : Cmd} (hc : t.cmd = some c) : t.cs.length < t.depth ∧ ∃ f l, Sel (readyR t.now t.rs) t.head c.page c.count (f :: l) ∧ c.write = f.write ∧ c.nums = (f :: l).map (·.num) := by
  unfold St.cmd at hc
  split at hc
  · cases hc
  · rename_i hd
    refine ⟨by omega, ?_⟩
    rcases nextR_spec (L := readyR t.now t.rs) h with ⟨h1, _⟩ | ⟨p, n, f, l, h1, hS⟩
    · rw [h1] at hc; cases hc
    · rw [h1] at hc
      simp only [Option.some.injEq] at hc
      subst hc
      exact ⟨f, l, hS, rfl, rfl⟩
theorem cmd_none {t : St} (h : t.head ≤ 16) (hc : t.cmd = none) : t.depth ≤ t.cs.length ∨ ∀ k, k < 16 → pageR (readyR t.now t.rs) k = [] := by
  unfold St.cmd at hc
  split at hc
  · exact .inl ‹_›
  · rcases nextR_spec (L := readyR t.now t.rs) h with ⟨h1, h2⟩ | ⟨p, n, f, l, h1, hS⟩
    · exact .inr h2
    · rw [h1] at hc; cases hc
/-- The requests of the next command. -/
theorem Sel.numsIn {t : St} {head p n : Nat} {sel : List Req} (hs : t.rs.Pairwise (·.num < ·.num)) (h : Sel (readyR t.now t.rs) head p n sel) {r : Req} (hr : r ∈ t.rs) (hn : r.num ∈ sel.map (·.num)) : r ∈ sel := by
  obtain ⟨x, hx, e⟩ := List.mem_map.1 hn
  have := rnum_inj hs (mem_readyR (h.mem x hx).1).1 hr e
  rwa [this] at hx
theorem Sel.nodup {t : St} {head p n : Nat} {sel : List Req} (hs : t.rs.Pairwise (·.num < ·.num)) (h : Sel (readyR t.now t.rs) head p n sel) : (sel.map (·.num)).Nodup := by
  have hL : (readyR t.now t.rs).Nodup := (byPageR_nodup (nodup_of_nums hs)).filter _
  have h1 : sel.Nodup := by
    obtain ⟨f, l, _, ⟨_, _, e⟩ | ⟨_, e, _⟩⟩ := h.form
    · rw [e]; simp
    · rw [e]; exact gather_nodup hL _ _ _
  refine List.pairwise_map.2 (h1.imp_of_mem fun {a b} ha hb hab e => hab ?_)
  exact rnum_inj hs (mem_readyR (h.mem a ha).1).1 (mem_readyR (h.mem b hb).1).1 e
theorem ok_sent {t : St} (h : t.Ok) {c : Cmd} (hc : t.cmd = some c) : (t.sent c).Ok := by
  obtain ⟨hd, f, l, hS, hw, hns⟩ := cmd_some h.a.head hc
  obtain ⟨sel, hsel⟩ : ∃ sel, f :: l = sel := ⟨_, rfl⟩
  have hfs : f ∈ sel := by rw [← hsel]; simp
  rw [hsel] at hS hns
  obtain ⟨w, hkind⟩ := hS.kind
  have hcw : c.write = w := hw.trans (hkind f hfs)
  have hs := h.a.rs.nums
  have hin : ∀ r ∈ t.rs, r.num ∈ c.nums → r ∈ sel := fun r hr hn => hS.numsIn hs hr (hns ▸ hn)
  have hto : ∀ r ∈ sel, r ∈ t.rs ∧ r.num ∈ c.nums ∧ r.state = 0 ∧ ∀ o ∈ t.rs, o.blocks r = false := fun r hr => by
    obtain ⟨a, b, _, d⟩ := mem_readyR (hS.mem r hr).1
    exact ⟨a, by rw [hns]; exact List.mem_map_of_mem hr, b, d⟩
  have hair : ∀ r ∈ t.rs, r.num ∈ c.nums → r.inAir = false := fun r hr hn => by
    cases ha : r.inAir with
    | false => rfl
    | true => have := (h.a.rs.ok r hr).air ha; have := (hto r (hin r hr hn)).2.2.1; omega
  have hnd : (t.cs.flatMap (·.nums) ++ c.nums).Nodup := by
    rw [List.nodup_append]
    refine ⟨h.a.rs.nodup, hns ▸ hS.nodup hs, fun a ha b hb e => ?_⟩
    subst e
    obtain ⟨r, hr, h1, h2⟩ := h.a.rs.fly a ha
    subst h1
    rw [hair r hr hb] at h2; cases h2
  have hfl : (t.sent c).cs.flatMap (·.nums) = t.cs.flatMap (·.nums) ++ c.nums := by simp [St.sent]
  have hrs : RsOk t.last ((t.rs.map fun r => if r.num ∈ c.nums then sentR r else r)) (t.cs.flatMap (·.nums) ++ c.nums) := by
    refine h.a.rs.map _ (fun x => by split <;> rfl) (fun x => by split <;> rfl) (fun x => by split <;> rfl) (fun x hx => ?_) (fun x hx => ?_) hnd (fun m hm => ?_) (fun x hx ha => ?_) (fun x hx ha => ?_)
    · have ho := h.a.rs.ok x hx
      split
      · rename_i hm
        have h0 := (hto x (hin x hx hm)).2.2.1
        refine ⟨ho.page, by simp [sentR], ho.tries, fun _ => ho.try3 (by simp [Req.live, h0]), fun _ => .inl rfl, fun _ => rfl, fun ht => ?_, ho.byte⟩
        have := (ho.told ht).1
        omega
      · exact ho
    · split
      · rename_i hm
        intro _
        have h0 := (hto x (hin x hx hm)).2.2.1
        simp [Req.live, h0]
      · exact id
    · rcases List.mem_append.1 hm with hm | hm
      · obtain ⟨x, hx, h1, h2⟩ := h.a.rs.fly m hm
        exact ⟨x, hx, h1, by split <;> first | rfl | exact h2⟩
      · rw [hns] at hm
        obtain ⟨x, hx, rfl⟩ := List.mem_map.1 hm
        exact ⟨x, (hto x hx).1, rfl, by rw [if_pos (hto x hx).2.1]; rfl⟩
    · split at ha
      · exact List.mem_append_right _ ‹_›
      · exact List.mem_append_left _ (h.a.rs.airs x hx ha)
    · split at ha
      · exact .inr (hto x (hin x hx ‹_›)).2.2.2
      · exact .inl ha
  refine ⟨⟨h.a.depth, by have := hS.pn; simp only [St.sent]; omega, h.a.dlen, h.a.dbyte, h.a.last, h.a.now, by rw [hfl]; exact hrs, ?_, h.a.h40⟩, by simp only [St.sent, List.length_append, List.length_singleton]; omega, fun x hx => ?_⟩
  · show t.held = _
    rw [h.a.held]
    simp only [St.sent]
    rw [filter_len_map]
    intro x _
    split <;> rfl
  · have hmono : ∀ (nums : List Int), ∀ r ∈ t.rs, r.num ∈ nums → ∃ r' ∈ (t.sent c).rs, r'.num = r.num ∧ r'.write = r.write ∧ r'.page = r.page := fun _ r hr _ =>
      ⟨_, List.mem_map_of_mem hr, by split <;> rfl, by split <;> rfl, by split <;> rfl⟩
    rcases List.mem_append.1 hx with hx | hx
    · exact (h.cmds x hx).mono (hmono _)
    · rw [List.mem_singleton.1 hx]
      refine CmdOk.mono (rs := t.rs) ⟨⟨hS.n1, hS.n4⟩, hS.pn, ?_, ?_, ?_, ?_⟩ (hmono _)
      · rw [hns, List.length_map]
        obtain ⟨g, m, _, ⟨_, e1, e⟩ | ⟨_, e, e2, _⟩⟩ := hS.form
        · rw [e, e1]; simp
        · rw [e]; exact gather_len_ge _ e2
      · intro hwt
        rw [hns, List.length_map]
        obtain ⟨g, m, hg, ⟨_, e1, e⟩ | ⟨_, e, e2, _⟩⟩ := hS.form
        · rw [e, e1]; simp
        · have h1 := gather_len_ge _ e2
          have hgw : g.write = true := by
            have h2 : f ∈ gatherR (kindR (readyR t.now t.rs) g.write) c.page c.count := e ▸ hfs
            obtain ⟨i, _, hm⟩ := mem_gatherR.1 h2
            rw [← (mem_kindR.1 hm).2.2.1, ← hw]; exact hwt
          have hL : (readyR t.now t.rs).Nodup := (byPageR_nodup (nodup_of_nums hs)).filter _
          have h2 := gather_len_le (K := kindR (readyR t.now t.rs) g.write) (p := c.page) c.count fun i _ => len_one ((hL.filter _).filter _) fun a ha b hb => by
            obtain ⟨a1, a2, a3, _⟩ := mem_kindR.1 ha
            obtain ⟨b1, b2, b3, _⟩ := mem_kindR.1 hb
            exact ready_alone hs a1 b1 (a2.trans b2.symm) (a3.trans hgw)
          rw [e]; omega
      · intro n hn
        rw [hns] at hn
        obtain ⟨r, hr, rfl⟩ := List.mem_map.1 hn
        exact ⟨r, (hto r hr).1, rfl, (hkind r hr).trans hcw.symm, (hS.mem r hr).2.1, (hS.mem r hr).2.2⟩
      · intro p h1 h2
        obtain ⟨r, hr, e⟩ := hS.all (p - c.page).toNat (by omega)
        exact ⟨r, (hto r hr).1, (hto r hr).2.1, by omega⟩

theorem dput_len (d : List Int) (p : Int) (b : B4) : (dput d p b).length = d.length := by simp [dput]
theorem mem_dput {d : List Int} {p : Int} {b : B4} {x : Int} (h : x ∈ dput d p b) : x ∈ d ∨ x = b.a ∨ x = b.b ∨ x = b.c ∨ x = b.d := by
  unfold dput at h
  rcases List.mem_or_eq_of_mem_set h with h | h
  · rcases List.mem_or_eq_of_mem_set h with h | h
    · rcases List.mem_or_eq_of_mem_set h with h | h
      · rcases List.mem_or_eq_of_mem_set h with h | h
        · exact .inl h
        · exact .inr (.inl h)
      · exact .inr (.inr (.inl h))
    · exact .inr (.inr (.inr (.inl h)))
  · exact .inr (.inr (.inr (.inr h)))
theorem dput_byte {d : List Int} {p : Int} {b : B4} (h : ∀ x ∈ d, 0 ≤ x ∧ x ≤ 255) (hb : BOk b) : ∀ x ∈ dput d p b, 0 ≤ x ∧ x ≤ 255 := fun x hx => by
  obtain ⟨h1, h2, h3, h4⟩ := hb
  rcases mem_dput hx with h' | h' | h' | h' | h'
  · exact h x h'
  · rw [h']; exact h1
  · rw [h']; exact h2
  · rw [h']; exact h3
  · rw [h']; exact h4
theorem dget_byte {d : List Int} (h : ∀ x ∈ d, 0 ≤ x ∧ x ≤ 255) (p : Int) : BOk (dget d p) := by
  have g : ∀ i, 0 ≤ d.getD i 0 ∧ d.getD i 0 ≤ 255 := fun i => by
    rw [List.getD_eq_getElem?_getD]
    cases hi : d[i]? with
    | none => simp
    | some x => simpa using h x (List.mem_of_getElem? hi)
  exact ⟨g _, g _, g _, g _⟩
theorem landR_num (now : Int) (disk : List Int) (fault : Bool) (r : Req) : (St.landR now disk fault r).num = r.num ∧ (St.landR now disk fault r).page = r.page ∧ (St.landR now disk fault r).write = r.write ∧ (St.landR now disk fault r).inAir = false ∧ (St.landR now disk fault r).told = r.told := by
  unfold St.landR
  simp only
  split
  · split
    · exact ⟨rfl, rfl, rfl, rfl, rfl⟩
    · split <;> exact ⟨rfl, rfl, rfl, rfl, rfl⟩
  · exact ⟨rfl, rfl, rfl, rfl, rfl⟩
/-- Landing one request. -/
theorem okA_land {t : St} {n : Int} {air : List Int} (h : t.OkA (n :: air)) (fault : Bool) : (t.land fault n).OkA air := by
  obtain ⟨r, hr, hrn, hra⟩ := h.rs.fly n (by simp)
  have key : ∀ x ∈ t.rs, x.num = n → x = r := fun x hx hxn => rnum_inj h.rs.nums hx hr (by omega)
  subst hrn
  have hf := find_num h.rs.nums hr
  have hro := h.rs.ok r hr
  have hlo := landR_num t.now t.disk fault r
  have hnum : ∀ x, (if x.num = r.num then St.landR t.now t.disk fault x else x).num = x.num := fun x => by split; exact (landR_num ..).1; rfl
  have hpage : ∀ x, (if x.num = r.num then St.landR t.now t.disk fault x else x).page = x.page := fun x => by split; exact (landR_num ..).2.1; rfl
  have hwr : ∀ x, (if x.num = r.num then St.landR t.now t.disk fault x else x).write = x.write := fun x => by split; exact (landR_num ..).2.2.1; rfl
  have hnd := h.rs.nodup
  rw [List.nodup_cons] at hnd
  have hairx : ∀ x ∈ t.rs, (if x.num = r.num then St.landR t.now t.disk fault x else x).inAir = true → x.inAir = true ∧ x.num ≠ r.num := fun x hx ha => by
    split at ha
    · rw [(landR_num ..).2.2.2.1] at ha; cases ha
    · exact ⟨ha, ‹_›⟩
  have hbd : BOk (if !fault && !r.write then dget t.disk r.page else r.data) := by
    split
    · exact dget_byte h.dbyte _
    · exact hro.byte
  -- what it is behind its landing, if it is not dropped
  have hdrop : ∀ x ∈ t.rs, x.num = r.num → x.told = false → ROk (St.landR t.now t.disk fault x) := fun x hx hxn ht => by
    have hxr := key x hx hxn
    subst hxr
    have h3 := hro.try3 (by simp [Req.live, hra])
    have h4 := hro.tries
    unfold St.landR
    simp only
    split
    · split
      · exact ⟨hro.page, by simp, by simp; omega, by simp [Req.live], by simp, by simp, by simp [ht], hbd⟩
      · split
        · exact ⟨hro.page, by simp, by simp; omega, by simp [Req.live], by simp, by simp, by simp [ht], hbd⟩
        · exact ⟨hro.page, by simp, by simp; omega, by simp; omega, by simp, by simp, by simp [ht], hbd⟩
    · rename_i hs1
      have hs4 : x.state = 4 := by rcases hro.air hra with h1 | h1 <;> omega
      exact ⟨hro.page, by simp [hs4], by simp; omega, by simp [Req.live, hs4], by simp, by simp [hs4], by simp [ht], hbd⟩
  have hrs : RsOk t.last (((t.rs.filter fun x => !(x.num == r.num && x.told)).map fun x => if x.num = r.num then St.landR t.now t.disk fault x else x)) air := by
    have hfil : ∀ x ∈ t.rs.filter fun x => !(x.num == r.num && x.told), x ∈ t.rs ∧ (x.num = r.num → x.told = false) := fun x hx => by
      obtain ⟨h1, h2⟩ := List.mem_filter.1 hx
      refine ⟨h1, fun e => ?_⟩
      simpa [e] using h2
    refine ⟨?_, fun x hx => ?_, fun x hx => ?_, hnd.2, fun m hm => ?_, fun x hx ha => ?_, fun x hx ha o ho => ?_⟩
    · refine List.pairwise_map.2 ((h.rs.nums.filter _).imp fun {a b} hab => ?_)
      rw [hnum, hnum]; exact hab
    · obtain ⟨y, hy, rfl⟩ := List.mem_map.1 hx
      rw [hnum]; exact h.rs.num y (hfil y hy).1
    · obtain ⟨y, hy, rfl⟩ := List.mem_map.1 hx
      split
      · rename_i e; exact hdrop y (hfil y hy).1 e ((hfil y hy).2 e)
      · exact h.rs.ok y (hfil y hy).1
    · obtain ⟨y, hy, h1, h2⟩ := h.rs.fly m (List.mem_cons_of_mem _ hm)
      have hne : y.num ≠ r.num := fun e => hnd.1 (by rw [← e, h1]; exact hm)
      exact ⟨_, List.mem_map_of_mem (List.mem_filter.2 ⟨hy, by simp [hne]⟩), by rw [if_neg hne]; exact h1, by rw [if_neg hne]; exact h2⟩
    · obtain ⟨y, hy, rfl⟩ := List.mem_map.1 hx
      obtain ⟨h1, h2⟩ := hairx y (hfil y hy).1 ha
      rw [hnum]
      have := h.rs.airs y (hfil y hy).1 h1
      rcases List.mem_cons.1 this with e | e
      · exact absurd e h2
      · exact e
    · obtain ⟨y, hy, rfl⟩ := List.mem_map.1 hx
      obtain ⟨z, hz, rfl⟩ := List.mem_map.1 ho
      obtain ⟨h1, h2⟩ := hairx y (hfil y hy).1 ha
      refine blocks_eq (hnum z) (hpage z) (hwr z) (hnum y) (hpage y) (hwr y) (fun hl => ?_) (h.rs.free y (hfil y hy).1 h1 z (hfil z hz).1)
      split at hl
      · rename_i e
        rw [key z (hfil z hz).1 e]; simp [Req.live, hra]
      · exact hl
  have he : ((t.rs.map fun x => if x.num = r.num then St.landR t.now t.disk fault x else x).filter fun x => !(x.num == r.num && (x.told && !x.inAir))) = ((t.rs.filter fun x => !(x.num == r.num && x.told)).map fun x => if x.num = r.num then St.landR t.now t.disk fault x else x) := by
    rw [List.filter_map]
    congr 1
    refine List.filter_congr fun x hx => ?_
    simp only [Function.comp]
    by_cases e : x.num = r.num
    · rw [if_pos e]
      have := landR_num t.now t.disk fault x
      rw [this.1, this.2.2.2.1, this.2.2.2.2]; simp [e]
    · have e' : (x.num == r.num) = false := by simpa using e
      rw [if_neg e, e']; rfl
  have hL : t.land fault r.num = { t with rs := ((t.rs.filter fun x => !(x.num == r.num && x.told)).map fun x => if x.num = r.num then St.landR t.now t.disk fault x else x), disk := St.landD t.disk fault r } := by
    unfold St.land
    rw [hf, ← he]
  rw [hL]
  refine ⟨h.depth, h.head, ?_, ?_, h.last, h.now, hrs, ?_, h.h40⟩
  · show (St.landD t.disk fault r).length = 64
    unfold St.landD
    split
    · rw [dput_len]; exact h.dlen
    · exact h.dlen
  · show ∀ b ∈ St.landD t.disk fault r, 0 ≤ b ∧ b ≤ 255
    unfold St.landD
    split
    · exact dput_byte h.dbyte hro.byte
    · exact h.dbyte
  · show t.held = _
    rw [h.held, List.filter_map, List.length_map, List.filter_filter]
    congr 2
    refine List.filter_congr fun x hx => ?_
    simp only [Function.comp]
    by_cases e : x.num = r.num
    · rw [if_pos e, (landR_num ..).2.2.2.2]; cases x.told <;> simp [e]
    · rw [if_neg e]; simp [e]
theorem land_same {t : St} (fault : Bool) (n : Int) : (t.land fault n).depth = t.depth ∧ (t.land fault n).cs = t.cs ∧ (t.land fault n).head = t.head ∧ (t.land fault n).now = t.now ∧ (t.land fault n).last = t.last ∧ (t.land fault n).held = t.held := by
  unfold St.land
  split <;> exact ⟨rfl, rfl, rfl, rfl, rfl, rfl⟩
theorem okA_lands (fault : Bool) : ∀ (ns : List Int) (t : St) (air : List Int), t.OkA (ns ++ air) → (ns.foldl (St.land fault) t).OkA air
  | [], _, _, h => h
  | n :: ns, _, air, h => okA_lands fault ns _ air (okA_land (n := n) h fault)
theorem lands_same (fault : Bool) : ∀ (ns : List Int) (t : St), (ns.foldl (St.land fault) t).depth = t.depth ∧ (ns.foldl (St.land fault) t).cs = t.cs ∧ (ns.foldl (St.land fault) t).head = t.head ∧ (ns.foldl (St.land fault) t).now = t.now ∧ (ns.foldl (St.land fault) t).last = t.last ∧ (ns.foldl (St.land fault) t).held = t.held
  | [], _ => ⟨rfl, rfl, rfl, rfl, rfl, rfl⟩
  | n :: ns, t => by
    obtain ⟨a1, a2, a3, a4, a5, a6⟩ := land_same (t := t) fault n
    obtain ⟨b1, b2, b3, b4, b5, b6⟩ := lands_same fault ns (t.land fault n)
    exact ⟨b1.trans a1, b2.trans a2, b3.trans a3, b4.trans a4, b5.trans a5, b6.trans a6⟩
/-- Who is under way still lies there behind another's landing, with its number, its page, its kind. -/
theorem land_keeps {t : St} (fault : Bool) (n : Int) {r : Req} (hr : r ∈ t.rs) (hn : r.num ≠ n) : r ∈ (t.land fault n).rs := by
  unfold St.land
  split
  · exact hr
  · refine List.mem_filter.2 ⟨List.mem_map.2 ⟨r, hr, if_neg hn⟩, by simp [hn]⟩
theorem lands_keep (fault : Bool) : ∀ (ns : List Int) {t : St} {r : Req}, r ∈ t.rs → r.num ∉ ns → r ∈ (ns.foldl (St.land fault) t).rs
  | [], _, _, h, _ => h
  | n :: ns, _, _, h, hn => by
    rw [List.mem_cons, not_or] at hn
    exact lands_keep fault ns (land_keeps fault n h hn.1) hn.2
theorem perm_erase {α : Type} {l : List α} {k : Nat} {a : α} (hk : k < l.length) (h : l[k] = a) : l.Perm (a :: l.eraseIdx k) := by
  have e1 : l = l.take k ++ a :: l.drop (k + 1) := by
    conv => lhs; rw [← List.take_append_drop k l, List.drop_eq_getElem_cons hk, h]
  have e2 : l.eraseIdx k = l.take k ++ l.drop (k + 1) := List.eraseIdx_eq_take_drop_succ ..
  rw [e2]
  conv => lhs; rw [e1]
  exact List.perm_middle
theorem ok_complete {t t' : St} (h : t.Ok) {k : Nat} {fault : Bool} (hc : t.complete k fault = some t') : t'.Ok := by
  unfold St.complete at hc
  cases hk : t.cs[k]? with
  | none => rw [hk] at hc; cases hc
  | some c =>
    rw [hk] at hc
    simp only [Option.some.injEq] at hc
    obtain ⟨hlt, hck⟩ := List.getElem?_eq_some_iff.1 hk
    have hperm : (t.cs.flatMap (·.nums)).Perm (c.nums ++ (t.cs.eraseIdx k).flatMap (·.nums)) := by
      have h1 : t.cs.Perm (c :: t.cs.eraseIdx k) := perm_erase hlt hck
      have := h1.flatMap_right (·.nums)
      simpa using this
    have hA : ({ t with cs := t.cs.eraseIdx k } : St).OkA (c.nums ++ (t.cs.eraseIdx k).flatMap (·.nums)) :=
      ⟨h.a.depth, h.a.head, h.a.dlen, h.a.dbyte, h.a.last, h.a.now, ⟨h.a.rs.nums, h.a.rs.num, h.a.rs.ok, hperm.nodup_iff.1 h.a.rs.nodup, fun n hn => h.a.rs.fly n (hperm.mem_iff.2 hn), fun r hr ha => hperm.mem_iff.1 (h.a.rs.airs r hr ha), h.a.rs.free⟩, h.a.held, h.a.h40⟩
    have hL := okA_lands fault c.nums _ _ hA
    obtain ⟨a1, a2, a3, a4, a5, a6⟩ := lands_same fault c.nums { t with cs := t.cs.eraseIdx k }
    have hnd := hA.rs.nodup
    rw [List.nodup_append] at hnd
    subst hc
    refine ⟨by rw [a2]; exact hL, ?_, fun x hx => ?_⟩
    · rw [a2, a1]
      show (t.cs.eraseIdx k).length ≤ t.depth
      have := h.len
      exact Nat.le_trans (List.length_eraseIdx_le _ _) this
    · rw [a2] at hx
      have hx' : x ∈ t.cs := (List.eraseIdx_sublist _ _).subset hx
      refine (h.cmds x hx').mono fun r hr hrx => ⟨r, lands_keep fault c.nums (t := { t with cs := t.cs.eraseIdx k }) hr fun hm => ?_, rfl, rfl, rfl⟩
      exact hnd.2.2 r.num hm r.num (List.mem_flatMap.2 ⟨x, hx, hrx⟩) rfl
theorem kept_facts {rs : List Req} (hb : ∀ r ∈ rs, BOk r.data) (f : Nat → Bool) : ∀ (ns : List Int) (i : Nat) (d : List Int), (∀ x ∈ d, 0 ≤ x ∧ x ≤ 255) → (St.kept rs ns f i d).length = d.length ∧ ∀ x ∈ St.kept rs ns f i d, 0 ≤ x ∧ x ≤ 255
  | [], _, _, hd => ⟨rfl, hd⟩
  | n :: l, i, d, hd => by
    unfold St.kept
    split
    · cases hf : rs.find? fun r => r.num == n with
      | none => exact kept_facts hb f l (i + 1) d hd
      | some r =>
        have := kept_facts hb f l (i + 1) (dput d r.page r.data) (dput_byte hd (hb r (List.mem_of_find?_eq_some hf)))
        exact ⟨this.1.trans (dput_len ..), this.2⟩
    · exact kept_facts hb f l (i + 1) d hd
theorem ok_crash {t : St} (h : t.Ok) (f : Nat → Bool) : (t.crash f).Ok := by
  obtain ⟨h1, h2⟩ := kept_facts (fun r hr => (h.a.rs.ok r hr).byte) f ((t.cs.filter (·.write)).flatMap (·.nums)) 0 t.disk h.a.dbyte
  exact ⟨⟨h.a.depth, by simp [St.crash], h1.trans h.a.dlen, h2, h.a.last, h.a.now, ⟨by simp [St.crash], by simp [St.crash], by simp [St.crash], by simp [St.crash], by simp [St.crash], by simp [St.crash], by simp [St.crash]⟩, by simp [St.crash], by simp [St.crash]⟩, by simp [St.crash], by simp [St.crash]⟩
end Go.Proofs.YticobikhndlejaaGreatDoor

/- Joined in plain Lean: neighbours go together. -/
namespace Go.Proofs.YticobikhndlejaaGreatDoor

/-- What is asked in one round. -/
def jAsk (wr : Bool) (p : Int) (i : Int) (n : Nat) (t : St) : St := if wr then t.add true p (askD i n) else (t.add false p ⟨0, 0, 0, 0⟩).add false p ⟨0, 0, 0, 0⟩
/-- Behind j rounds. -/
def jAsks (wr : Bool) (a count : Nat) : Nat → St
  | 0 => St.new 1
  | j + 1 => jAsk wr (a + (count - 1 - j : Nat) : Nat) (count - 1 - j : Nat) j (jAsks wr a count j)
def jLoop (wr : Bool) (a count : Nat) : Nat → Nat → St → Bool
  | 0, _, _ => false
  | f + 1, left, t =>
    if left = 0 then t.cmd.isNone else
      match t.cmd with
      | none => false
      | some c =>
        if c.page = a + count - left ∧ c.count = min left 4 ∧ c.nums.length = (if wr then min left 4 else 2 * min left 4) ∧ c.write = wr then
          match (t.sent c).complete 0 false with
          | none => false
          | some t' => jLoop wr a count f (left - min left 4) t'
        else false
def jSim (wr : Bool) (a count : Nat) : Bool := jLoop wr a count 17 count (jAsks wr a count count)
def jAll : Bool := (List.range 16).all fun a => (List.range (16 - a)).all fun n => jSim true a (n + 1) && jSim false a (n + 1)
theorem askD_ok {v : Int} (hv : 0 ≤ v ∧ v ≤ 255) (n : Nat) : BOk (askD v n) := by
  unfold askD BOk
  simp only
  omega
theorem b0_ok : BOk ⟨0, 0, 0, 0⟩ := by unfold BOk; simp only; omega
theorem jAsks_ok (wr : Bool) {a count : Nat} (hc : 1 ≤ count ∧ a + count ≤ 16) : ∀ j, j ≤ count → (jAsks wr a count j).Ok ∧ (jAsks wr a count j).last = ((if wr then j else 2 * j : Nat) : Int) ∧ (jAsks wr a count j).held = ((if wr then j else 2 * j : Nat) : Int) ∧ (jAsks wr a count j).now = 0
  | 0, _ => ⟨ok_new (by omega), by cases wr <;> rfl, by cases wr <;> rfl, rfl⟩
  | j + 1, hj => by
    obtain ⟨h1, h2, h3, h4⟩ := jAsks_ok wr hc j (by omega)
    unfold jAsks jAsk
    cases wr with
    | true =>
      simp only [if_true] at h2 h3 ⊢
      refine ⟨ok_add h1 (by omega) true _ (by omega) _ (askD_ok (by omega) _), ?_, ?_, h4⟩
      · simp only [St.add]; omega
      · simp only [St.add]; omega
    | false =>
      simp only [Bool.false_eq_true, if_false] at h2 h3 ⊢
      have h5 := ok_add h1 (by omega) false ((a + (count - 1 - j : Nat) : Nat) : Int) (by omega) _ b0_ok
      refine ⟨ok_add h5 (by simp only [St.add]; omega) false _ (by omega) _ b0_ok, ?_, ?_, h4⟩
      · simp only [St.add]; omega
      · simp only [St.add]; omega
theorem jLoop_step {wr : Bool} {a count f left : Nat} {t : St} (h : jLoop wr a count f left t = true) (hl : left ≠ 0) : ∃ f' c t', t.cmd = some c ∧ c.page = a + count - left ∧ c.count = min left 4 ∧ c.nums.length = (if wr then min left 4 else 2 * min left 4) ∧ c.write = wr ∧ (t.sent c).complete 0 false = some t' ∧ jLoop wr a count f' (left - min left 4) t' = true := by
  cases f with
  | zero => simp [jLoop] at h
  | succ f =>
    unfold jLoop at h
    rw [if_neg hl] at h
    cases hc : t.cmd with
    | none => rw [hc] at h; simp at h
    | some c =>
      rw [hc] at h
      simp only at h
      by_cases hcond : c.page = a + count - left ∧ c.count = min left 4 ∧ c.nums.length = (if wr then min left 4 else 2 * min left 4) ∧ c.write = wr
      · rw [if_pos hcond] at h
        cases ht : (t.sent c).complete 0 false with
        | none => rw [ht] at h; simp at h
        | some t' =>
          rw [ht] at h
          exact ⟨f, c, t', rfl, hcond.1, hcond.2.1, hcond.2.2.1, hcond.2.2.2, ht, h⟩
      · rw [if_neg hcond] at h
        cases h
theorem sent_same (t : St) (c : Cmd) : (t.sent c).last = t.last ∧ (t.sent c).now = t.now ∧ (t.sent c).held = t.held := ⟨rfl, rfl, rfl⟩
theorem complete_same {t t' : St} {k : Nat} {fault : Bool} (h : t.complete k fault = some t') : t'.last = t.last ∧ t'.now = t.now ∧ t'.held = t.held := by
  unfold St.complete at h
  split at h
  · cases h
  · simp only [Option.some.injEq] at h
    subst h
    rename_i c _
    obtain ⟨_, _, _, a4, a5, a6⟩ := lands_same fault c.nums { t with cs := t.cs.eraseIdx k }
    exact ⟨a5, a4, a6⟩
end Go.Proofs.YticobikhndlejaaGreatDoor
