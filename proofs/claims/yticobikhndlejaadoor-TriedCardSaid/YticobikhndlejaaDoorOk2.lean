/- The next command: what it is made of; that sending it, and landing it, keep what holds of every queue. -/
import Derived.Test.YticobikhndlejaaDoorOk
namespace Go.Proofs.YticobikhndlejaaDoor

theorem mem_byPageR {l : List Req} {r : Req} : r ∈ byPageR l ↔ r ∈ l ∧ 0 ≤ r.page ∧ r.page < 16 := by
  unfold byPageR
  simp only [List.mem_flatMap, List.mem_range, List.mem_filter, beq_iff_eq]
  constructor
  · rintro ⟨p, hp, hr, he⟩; exact ⟨hr, by omega, by omega⟩
  · rintro ⟨hr, h1, h2⟩; exact ⟨r.page.toNat, by omega, hr, by omega⟩
theorem byPageR_nodup {l : List Req} (h : l.Nodup) : (byPageR l).Nodup := by
  unfold byPageR List.Nodup
  refine List.pairwise_flatMap.2 ⟨fun p _ => h.filter _, (List.pairwise_lt_range (n := 16)).imp fun {p q} hpq x hx y hy e => ?_⟩
  have h2 := (List.mem_filter.1 hx).2
  have h3 := (List.mem_filter.1 hy).2
  subst e
  simp at h2 h3; omega
theorem nodup_of_nums {l : List Req} (h : l.Pairwise (·.num < ·.num)) : l.Nodup := h.imp fun hlt e => by subst e; omega
/-- It is ready: it waits, its time has come, nothing is in its way. -/
theorem mem_readyR {now : Int} {l : List Req} {r : Req} (h : r ∈ readyR now l) : r ∈ l ∧ r.state = 0 ∧ r.after ≤ now ∧ ∀ o ∈ l, o.blocks r = false := by
  have h1 := List.mem_filter.1 h
  have h2 := (mem_byPageR.1 h1.1).1
  have h3 := h1.2
  simp only [isReadyR, Bool.and_eq_true, beq_iff_eq, decide_eq_true_eq, Bool.not_eq_true'] at h3
  refine ⟨h2, h3.1, h3.2.1, fun o ho => ?_⟩
  have := List.any_eq_false.1 h3.2.2 o ho
  simpa using this
theorem ready_mem {now : Int} {l : List Req} {r : Req} (hr : r ∈ l) (hp : 0 ≤ r.page ∧ r.page < 16) (h0 : r.state = 0) (ha : r.after ≤ now) (hb : ∀ o ∈ l, o.blocks r = false) : r ∈ readyR now l := by
  refine List.mem_filter.2 ⟨mem_byPageR.2 ⟨hr, hp⟩, ?_⟩
  have h1 : (l.any fun o => o.blocks r) = false := List.any_eq_false.2 fun o ho => by simp [hb o ho]
  simp [isReadyR, h0, ha, h1]
theorem wrapAt_lt16 {head i : Nat} (h : head ≤ 16) (hi : i < 16) : wrapAt head i < 16 := by unfold wrapAt; split <;> omega
theorem beginE_spec {ne : Nat → Bool} {head p : Nat} (hh : head ≤ 16) (h : beginE ne head = some p) : p < 16 ∧ ne p = true := by
  unfold beginE at h
  have h1 := List.find?_some h
  have h2 := List.mem_of_find?_eq_some h
  obtain ⟨i, hi, rfl⟩ := List.mem_map.1 h2
  exact ⟨wrapAt_lt16 hh (List.mem_range.1 hi), h1⟩
/-- It is the first one from head on, else the first of all. -/
theorem beginE_first {ne : Nat → Bool} {head p : Nat} (hh : head ≤ 16) (h : beginE ne head = some p) : (head ≤ p ∧ ∀ k, head ≤ k → k < p → ne k = false) ∨ (p < head ∧ (∀ k, k < p → ne k = false) ∧ ∀ k, head ≤ k → k < 16 → ne k = false) := by
  unfold beginE at h
  rw [List.find?_eq_some_iff_append] at h
  obtain ⟨h1, la, lb, h2, h3⟩ := h
  have hlen : la.length < 16 := by
    have := congrArg List.length h2; simp at this; omega
  have hp : wrapAt head la.length = p := by
    have := congrArg (fun l => l[la.length]?) h2
    simp [hlen] at this
    exact this
  have hk : ∀ i, i < la.length → ne (wrapAt head i) = false := fun i hi => by
    have := congrArg (fun l => l[i]?) h2
    simp [List.getElem?_append, hi, show i < 16 by omega] at this
    have := h3 (wrapAt head i) (by rw [this]; exact List.getElem_mem hi)
    simpa using this
  by_cases hc : 16 ≤ head + la.length
  · right
    have hp' : p = head + la.length - 16 := by rw [← hp]; unfold wrapAt; rw [if_pos hc]
    refine ⟨by omega, fun k hkp => ?_, fun k hk1 hk2 => ?_⟩
    · have := hk (k + 16 - head) (by omega)
      unfold wrapAt at this
      rw [if_pos (by omega), show head + (k + 16 - head) - 16 = k from by omega] at this
      exact this
    · have := hk (k - head) (by omega)
      unfold wrapAt at this
      rw [if_neg (by omega), show head + (k - head) = k from by omega] at this
      exact this
  · left
    have hp' : p = head + la.length := by rw [← hp]; unfold wrapAt; rw [if_neg hc]
    refine ⟨by omega, fun k hk1 hk2 => ?_⟩
    have := hk (k - head) (by omega)
    unfold wrapAt at this
    rw [if_neg (by omega), show head + (k - head) = k from by omega] at this
    exact this
theorem beginE_no {ne : Nat → Bool} {head : Nat} (hh : head ≤ 16) (h : beginE ne head = none) (k : Nat) (hk : k < 16) : ne k = false := by
  unfold beginE at h
  rw [List.find?_eq_none] at h
  by_cases hc : head ≤ k
  · have := h (wrapAt head (k - head)) (List.mem_map_of_mem (List.mem_range.2 (by omega)))
    unfold wrapAt at this
    rw [if_neg (by omega), show head + (k - head) = k from by omega] at this
    simpa using this
  · have := h (wrapAt head (k + 16 - head)) (List.mem_map_of_mem (List.mem_range.2 (by omega)))
    unfold wrapAt at this
    rw [if_pos (by omega), show head + (k + 16 - head) - 16 = k from by omega] at this
    simpa using this
theorem takeWhile_stop (q : Nat → Bool) : ∀ m, ((List.range m).takeWhile q).length < m → q ((List.range m).takeWhile q).length = false
  | 0, h => by simp at h
  | m + 1, h => by
    rw [List.range_succ, List.takeWhile_append] at h ⊢
    split at h
    · rename_i hc
      rw [if_pos hc]
      have h1 : ((List.range m).takeWhile q).length = m := by simpa using hc
      rw [List.length_append, List.length_range] at h ⊢
      cases hq : q m with
      | true => rw [List.takeWhile_cons_of_pos hq] at h; simp at h
      | false => rw [List.takeWhile_cons_of_neg (by simp [hq])]; simpa using hq
    · rename_i hc
      rw [if_neg hc]
      have h2 : ((List.range m).takeWhile q).length ≤ m := by
        have := (List.takeWhile_sublist (l := List.range m) q).length_le; simpa using this
      have h1 : ((List.range m).takeWhile q).length ≠ m := fun e => hc (by simpa using e)
      exact takeWhile_stop q m (by omega)
theorem runLenR_spec (K : Nat → List Req) (p m : Nat) : runLenR K p m ≤ m ∧ (∀ i, i < runLenR K p m → K (p + i) ≠ []) ∧ (runLenR K p m < m → K (p + runLenR K p m) = []) := by
  unfold runLenR
  generalize hq : (fun i => !(K (p + i)).isEmpty) = q
  obtain ⟨bs, hb⟩ : ∃ bs, (List.range m).takeWhile q ++ bs = List.range m := ⟨_, List.takeWhile_append_dropWhile⟩
  have hle : ((List.range m).takeWhile q).length ≤ m := by
    have := (List.takeWhile_sublist (l := List.range m) q).length_le; simpa using this
  have hget : ∀ i, i < ((List.range m).takeWhile q).length → ((List.range m).takeWhile q)[i]? = some i := fun i hi => by
    have := congrArg (fun l => l[i]?) hb
    simp only [List.getElem?_append_left hi] at this
    rw [this, List.getElem?_range (by omega)]
  refine ⟨hle, fun i hi => ?_, fun hlt => ?_⟩
  · have h1 := hget i hi
    have h2 : i ∈ (List.range m).takeWhile q := List.mem_of_getElem? h1
    have h3 : q i = true := by
      have := List.all_takeWhile (l := List.range m) (p := q)
      exact List.all_eq_true.1 this i h2
    rw [← hq] at h3
    simpa using h3
  · subst hq
    have := takeWhile_stop _ m hlt
    simpa using this
theorem mem_gatherR {K : Nat → List Req} {p n : Nat} {r : Req} : r ∈ gatherR K p n ↔ ∃ i, i < n ∧ r ∈ K (p + i) := by
  unfold gatherR; simp
theorem mem_kindR {L : List Req} {w : Bool} {k : Nat} {r : Req} : r ∈ kindR L w k ↔ r ∈ L ∧ r.page = (k : Int) ∧ r.write = w ∧ r.alone = false := by
  unfold kindR pageR isKindR
  simp only [List.mem_filter, beq_iff_eq, Bool.and_eq_true, Bool.not_eq_true']
  exact ⟨fun ⟨⟨a, b⟩, c, d⟩ => ⟨a, b, c, d⟩, fun ⟨a, b, c, d⟩ => ⟨⟨a, b⟩, c, d⟩⟩
/-- What the next command is made of, whatever is ready. -/
structure Sel (L : List Req) (head p n : Nat) (sel : List Req) : Prop where
  p16 : p < 16
  n1 : 1 ≤ n
  n4 : n ≤ 4
  pn : p + n ≤ 16
  first : beginE (fun k => decide (0 < (pageR L k).length)) head = some p
  mem : ∀ r ∈ sel, r ∈ L ∧ (p : Int) ≤ r.page ∧ r.page < p + n
  all : ∀ k : Nat, k < n → ∃ r ∈ sel, r.page = ((p + k : Nat) : Int)
  form : ∃ f t, pageR L p = f :: t ∧ ((f.alone = true ∧ n = 1 ∧ sel = [f]) ∨ (f.alone = false ∧ sel = gatherR (kindR L f.write) p n ∧ (∀ i, i < n → kindR L f.write (p + i) ≠ []) ∧ (n < 4 → p + n < 16 → kindR L f.write (p + n) = [])))
theorem nextR_spec {L : List Req} {head : Nat} (hh : head ≤ 16) : (nextR L head = (0, 0, []) ∧ ∀ k, k < 16 → pageR L k = []) ∨ ∃ p n f t, nextR L head = (p, n, f :: t) ∧ Sel L head p n (f :: t) := by
  unfold nextR
  cases hb : beginE (fun k => decide (0 < (pageR L k).length)) head with
  | none => exact .inl ⟨rfl, fun k hk => by have := beginE_no hh hb k hk; simpa using this⟩
  | some p =>
    obtain ⟨hp16, hne⟩ := beginE_spec hh hb
    obtain ⟨f, t, hft⟩ : ∃ f t, pageR L p = f :: t := by
      cases hpl : pageR L p with
      | nil => simp [hpl] at hne
      | cons f t => exact ⟨f, t, rfl⟩
    have hfm := List.mem_filter.1 (show f ∈ pageR L p from by rw [hft]; simp)
    have hfp : f.page = (p : Int) := by simpa using hfm.2
    simp only [hft]
    cases hal : f.alone with
    | true => exact .inr ⟨p, 1, f, [], rfl, hp16, by omega, by omega, by omega, hb, fun r hr => by rw [List.mem_singleton.1 hr]; exact ⟨hfm.1, by omega, by omega⟩, fun k hk => ⟨f, by simp, by rw [hfp]; omega⟩, ⟨f, t, hft, .inl ⟨hal, rfl, rfl⟩⟩⟩
    | false =>
      simp only [Bool.false_eq_true, if_false]
      obtain ⟨h1, h2, h3⟩ := runLenR_spec (kindR L f.write) p (min 4 (16 - p))
      obtain ⟨n, hn⟩ : ∃ n, runLenR (kindR L f.write) p (min 4 (16 - p)) = n := ⟨_, rfl⟩
      rw [hn] at h1 h2 h3 ⊢
      have hfk : f ∈ kindR L f.write p := mem_kindR.2 ⟨hfm.1, hfp, rfl, hal⟩
      have hn1 : 1 ≤ n := by
        rcases Nat.eq_zero_or_pos n with h0 | h0
        · subst h0
          have := h3 (by omega)
          rw [show p + 0 = p from rfl] at this
          rw [this] at hfk; cases hfk
        · exact h0
      have hg : ∃ x l, gatherR (kindR L f.write) p n = x :: l := by
        have : f ∈ gatherR (kindR L f.write) p n := mem_gatherR.2 ⟨0, hn1, hfk⟩
        cases hg : gatherR (kindR L f.write) p n with
        | nil => rw [hg] at this; cases this
        | cons x l => exact ⟨x, l, rfl⟩
      obtain ⟨x, l, hxl⟩ := hg
      refine .inr ⟨p, n, x, l, by rw [hxl], ?_⟩
      rw [← hxl]
      refine ⟨hp16, hn1, by omega, by omega, hb, fun r hr => ?_, fun k hk => ?_, ⟨f, t, hft, .inr ⟨hal, rfl, h2, fun a b => h3 (by omega)⟩⟩⟩
      · obtain ⟨i, hi, hm⟩ := mem_gatherR.1 hr
        obtain ⟨m1, m2, _⟩ := mem_kindR.1 hm
        exact ⟨m1, by rw [m2]; omega, by rw [m2]; omega⟩
      · cases hk2 : kindR L f.write (p + k) with
        | nil => exact absurd hk2 (h2 k hk)
        | cons y m =>
          have hy : y ∈ kindR L f.write (p + k) := by rw [hk2]; simp
          exact ⟨y, mem_gatherR.2 ⟨k, hk, hy⟩, (mem_kindR.1 hy).2.1⟩
end Go.Proofs.YticobikhndlejaaDoor
