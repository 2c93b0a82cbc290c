/- The document's queue beside the queue: requests as it keeps them, and that each call leaves both alike. Plain Lean. -/
import Derived.Test.YticobikhndlejabGreatDoorScE
import Derived.Laws.BytesArg
namespace Go.Proofs.YticobikhndlejabGreatDoor

/-- Four bytes as a text. -/
def str4 (d : B4) : ByteArray := strOfNums [d.a, d.b, d.c, d.d]
theorem str4_size (d : B4) : (str4 d).size = 4 := strOfNums_size _
/-- A request of the document's queue. -/
structure RR where
  r : Req
  data : ByteArray
  answer : ByteArray
structure RR.Ok (x : RR) : Prop where
  data : x.r.write = true → x.data = str4 x.r.data
  wans : x.r.write = true → x.answer = ⟨#[]⟩
  rans : x.r.state = 2 → x.r.write = false → x.answer = str4 x.r.data
/-- The document's requests, and who of them was told, are the queue's. -/
structure RRel (l : List RR) (told : List Int) (t : St) : Prop where
  rs : l.map (·.r) = t.rs
  ok : ∀ x ∈ l, x.Ok
  told : ToldOk told t.rs
theorem RRel.at {l : List RR} {told : List Int} {t : St} (h : RRel l told t) {k : Nat} {x : RR} (hk : l[k]? = some x) : t.rs[k]? = some x.r := by
  rw [← h.rs, List.getElem?_map, hk]; rfl
theorem RRel.back {l : List RR} {told : List Int} {t : St} (h : RRel l told t) {k : Nat} {r : Req} (hk : t.rs[k]? = some r) : ∃ x, l[k]? = some x ∧ x.r = r := by
  rw [← h.rs, List.getElem?_map] at hk
  exact Option.map_eq_some_iff.1 hk
theorem RRel.len {l : List RR} {told : List Int} {t : St} (h : RRel l told t) : l.length = t.rs.length := by rw [← h.rs, List.length_map]
theorem rrel_new (d : Nat) : RRel [] [] (St.new d) := ⟨rfl, fun _ h => (List.not_mem_nil h).elim, ⟨List.nodup_nil, fun n => by simp [St.new]⟩⟩
theorem rrel_add {l : List RR} {told : List Int} {t : St} (h : RRel l told t) (w : Bool) (p : Int) (d : B4) (data : ByteArray) (hd : w = true → data = str4 d) : RRel (l ++ [⟨newReq (t.last + 1) w p d, data, ⟨#[]⟩⟩]) told (t.add w p d) := by
  refine ⟨by simp [St.add, h.rs], fun x hx => ?_, ⟨h.told.nodup, fun n => ?_⟩⟩
  · rcases List.mem_append.1 hx with hx | hx
    · exact h.ok x hx
    · obtain rfl := List.mem_singleton.1 hx
      exact ⟨hd, fun _ => rfl, fun h => by simp [newReq] at h⟩
  · rw [h.told.mem]
    simp only [St.add, List.mem_append, List.mem_singleton]
    constructor
    · rintro ⟨r, h1, h2⟩; exact ⟨r, .inl h1, h2⟩
    · rintro ⟨r, h1 | rfl, h2, h3⟩
      · exact ⟨r, h1, h2, h3⟩
      · simp [newReq] at h3
theorem find_of {t : St} (hs : t.rs.Pairwise (·.num < ·.num)) {r : Req} (hr : r ∈ t.rs) (ht : r.told = false) : t.find r.num = some r := by
  unfold St.find
  cases hff : t.rs.find? fun x => x.num == r.num && !x.told with
  | none =>
    have := List.find?_eq_none.1 hff r hr
    simp [ht] at this
  | some y =>
    have h1 := List.find?_some hff
    have h2 := List.mem_of_find?_eq_some hff
    simp at h1
    rw [rnum_inj hs h2 hr h1.1]
theorem find_no {t : St} {n : Int} (h : ∀ r ∈ t.rs, r.num = n → r.told = true) : t.find n = none := by
  unfold St.find
  refine List.find?_eq_none.2 fun x hx => ?_
  by_cases hn : x.num = n
  · simp [h x hx hn]
  · simp [hn]
theorem rset_map {l : List RR} {k : Nat} {y : RR} : (l.set k y).map (·.r) = (l.map (·.r)).set k y.r := List.map_set
theorem rset_ok {l : List RR} (h : ∀ x ∈ l, x.Ok) {k : Nat} {y : RR} (hy : y.Ok) : ∀ x ∈ l.set k y, x.Ok := fun x hx => (List.mem_or_eq_of_mem_set hx).elim (h x) fun e => e ▸ hy
theorem told_set {told : List Int} {rs : List Req} (h : ToldOk told rs) (hs : rs.Pairwise (·.num < ·.num)) {k : Nat} {r y : Req} (hk : rs[k]? = some r) (hn : y.num = r.num) (ht : y.told = r.told) : ToldOk told (rs.set k y) := by
  refine ⟨h.nodup, fun n => ?_⟩
  rw [h.mem]
  have hl := (List.getElem?_eq_some_iff.1 hk).1
  have hy : y ∈ rs.set k y := List.mem_of_getElem? (by rw [List.getElem?_set, if_pos rfl, if_pos hl])
  constructor
  · rintro ⟨x, h1, h2, h3⟩
    by_cases hx : x.num = r.num
    · have := rnum_inj hs h1 (List.mem_of_getElem? hk) hx
      subst this
      exact ⟨y, hy, by rw [hn, h2], by rw [ht, h3]⟩
    · obtain ⟨j, hj⟩ := List.mem_iff_getElem?.1 h1
      have hjk : k ≠ j := fun e => by subst e; rw [hj] at hk; exact hx (by rw [Option.some.inj hk])
      exact ⟨x, List.mem_of_getElem? (i := j) (by rw [List.getElem?_set, if_neg hjk]; exact hj), h2, h3⟩
  · rintro ⟨x, h1, h2, h3⟩
    rcases List.mem_or_eq_of_mem_set h1 with h1 | rfl
    · exact ⟨x, h1, h2, h3⟩
    · exact ⟨r, List.mem_of_getElem? hk, by rw [← hn, h2], by rw [← ht, h3]⟩
theorem mem_erase_ne {rs : List Req} (hs : rs.Pairwise (·.num < ·.num)) {k : Nat} {r : Req} (hk : rs[k]? = some r) {x : Req} : x ∈ rs.eraseIdx k ↔ x ∈ rs ∧ x.num ≠ r.num := by
  rw [← filter_erase hs hk (fun x => !(x.num == r.num)) (by simp) (fun x _ hx => by simpa using hx), List.mem_filter]
  simp
theorem told_erase {told : List Int} {rs : List Req} (h : ToldOk told rs) (hs : rs.Pairwise (·.num < ·.num)) {k : Nat} {r : Req} (hk : rs[k]? = some r) (ht : r.told = false) : ToldOk told (rs.eraseIdx k) := by
  refine ⟨h.nodup, fun n => ?_⟩
  rw [h.mem]
  constructor
  · rintro ⟨x, h1, h2, h3⟩
    refine ⟨x, (mem_erase_ne hs hk).2 ⟨h1, fun e => ?_⟩, h2, h3⟩
    rw [rnum_inj hs h1 (List.mem_of_getElem? hk) e, ht] at h3
    cases h3
  · rintro ⟨x, h1, h2, h3⟩
    exact ⟨x, ((mem_erase_ne hs hk).1 h1).1, h2, h3⟩
theorem told_out {told : List Int} {rs : List Req} (h : ToldOk told rs) (hs : rs.Pairwise (·.num < ·.num)) {k : Nat} {r : Req} (hk : rs[k]? = some r) : ToldOk (told.filter fun m => !(m == r.num)) (rs.eraseIdx k) := by
  refine ⟨h.nodup.filter _, fun n => ?_⟩
  rw [List.mem_filter, h.mem]
  constructor
  · rintro ⟨⟨x, h1, h2, h3⟩, h4⟩
    exact ⟨x, (mem_erase_ne hs hk).2 ⟨h1, by rw [h2]; simpa using h4⟩, h2, h3⟩
  · rintro ⟨x, h1, h2, h3⟩
    obtain ⟨h4, h5⟩ := (mem_erase_ne hs hk).1 h1
    exact ⟨⟨x, h4, h2, h3⟩, by rw [h2] at h5; simpa using h5⟩
/-! ### told -/
def tellX (x : RR) : RR := ⟨tellR x.r, x.data, x.answer⟩
theorem rrel_tell_air {l : List RR} {told : List Int} {t : St} (h : RRel l told t) (hs : t.rs.Pairwise (·.num < ·.num)) (hth : ∀ x ∈ t.rs, x.told = true → x.inAir = true) {k : Nat} {x : RR} (hk : l[k]? = some x) (ha : x.r.inAir = true) (ht : x.r.told = false) :
    RRel (l.set k (tellX x)) (told ++ [x.r.num]) (t.tell x.r.num) := by
  have hk' := h.at hk
  have hl := (List.getElem?_eq_some_iff.1 hk').1
  have hrs : (t.tell x.r.num).rs = t.rs.set k (tellR x.r) := tell_air hs hk' ha hth
  have hin : tellR x.r ∈ t.rs.set k (tellR x.r) := List.mem_of_getElem? (by rw [List.getElem?_set, if_pos rfl, if_pos hl])
  have hno : x.r.num ∉ told := fun hm => by
    rw [h.told.at hs (List.mem_of_getElem? hk'), ht] at hm
    cases hm
  refine ⟨by rw [rset_map, h.rs, hrs]; rfl, rset_ok h.ok ?_, ?_⟩
  · have := h.ok x (List.mem_of_getElem? hk)
    exact ⟨this.data, this.wans, this.rans⟩
  · rw [hrs]
    refine ⟨List.nodup_append.2 ⟨h.told.nodup, by simp, fun a ha b hb => by rw [List.mem_singleton.1 hb]; exact fun e => hno (e ▸ ha)⟩, fun n => ?_⟩
    rw [List.mem_append, h.told.mem, List.mem_singleton]
    constructor
    · rintro (⟨y, h1, h2, h3⟩ | rfl)
      · obtain ⟨j, hj⟩ := List.mem_iff_getElem?.1 h1
        by_cases hjk : k = j
        · subst hjk
          rw [hk'] at hj
          rw [← Option.some.inj hj, ht] at h3
          cases h3
        · exact ⟨y, List.mem_of_getElem? (i := j) (by rw [List.getElem?_set, if_neg hjk]; exact hj), h2, h3⟩
      · exact ⟨tellR x.r, hin, rfl, rfl⟩
    · rintro ⟨y, h1, h2, h3⟩
      rcases List.mem_or_eq_of_mem_set h1 with h1 | rfl
      · exact .inl ⟨y, h1, h2, h3⟩
      · exact .inr h2.symm
theorem erase_map {l : List RR} {k : Nat} : (l.eraseIdx k).map (·.r) = (l.map (·.r)).eraseIdx k := by
  simp [List.eraseIdx_eq_take_drop_succ, List.map_take, List.map_drop]
theorem rrel_tell_drop {l : List RR} {told : List Int} {t : St} (h : RRel l told t) (hs : t.rs.Pairwise (·.num < ·.num)) {k : Nat} {x : RR} (hk : l[k]? = some x) (ha : x.r.inAir = false) (ht : x.r.told = false) : RRel (l.eraseIdx k) told (t.tell x.r.num) := by
  have hk' := h.at hk
  have hrs : (t.tell x.r.num).rs = t.rs.eraseIdx k := tell_drop hs hk' ha
  exact ⟨by rw [erase_map, h.rs, hrs], fun y hy => h.ok y (List.mem_of_mem_eraseIdx hy), by rw [hrs]; exact told_erase h.told hs hk' ht⟩
/-! ### given up -/
def giveX (x : RR) : RR := ⟨St.giveR x.r, x.data, x.answer⟩
theorem rrel_give {l : List RR} {told : List Int} {t : St} (h : RRel l told t) (hs : t.rs.Pairwise (·.num < ·.num)) {k : Nat} {x : RR} (hk : l[k]? = some x) : RRel (l.set k (giveX x)) told (t.give x.r.num) := by
  have hk' := h.at hk
  have hrs : (t.give x.r.num).rs = t.rs.set k (St.giveR x.r) := map_set hs hk' St.giveR
  have := h.ok x (List.mem_of_getElem? hk)
  exact ⟨by rw [rset_map, h.rs, hrs]; rfl, rset_ok h.ok ⟨this.data, this.wans, fun h => by simp [giveX, St.giveR] at h⟩, by rw [hrs]; exact told_set h.told hs hk' rfl rfl⟩
/-! ### sent -/
def sentX (x : RR) : RR := ⟨sentR x.r, x.data, x.answer⟩
/-- The first of the command's requests are under way. -/
def sentL (l : List RR) (ns : List Int) : List RR := l.map fun x => if x.r.num ∈ ns then sentX x else x
theorem sentL_nil (l : List RR) : sentL l [] = l := by simp [sentL]
theorem sentL_len (l : List RR) (ns : List Int) : (sentL l ns).length = l.length := List.length_map _
theorem sentL_at {l : List RR} {ns : List Int} {k : Nat} {x : RR} (hk : l[k]? = some x) : (sentL l ns)[k]? = some (if x.r.num ∈ ns then sentX x else x) := by
  unfold sentL
  rw [List.getElem?_map, hk]; rfl
theorem sentL_step {l : List RR} (hs : (l.map (·.r)).Pairwise (·.num < ·.num)) {ns : List Int} {k : Nat} {x : RR} (hk : l[k]? = some x) : (sentL l ns).set k (sentX x) = sentL l (ns ++ [x.r.num]) := by
  obtain ⟨hl, e⟩ := List.getElem?_eq_some_iff.1 hk
  apply List.ext_getElem?
  intro j
  rw [List.getElem?_set]
  by_cases hjk : k = j
  · subst hjk
    rw [if_pos rfl, sentL_len, if_pos hl, sentL_at hk, if_pos (by simp)]
  · rw [if_neg hjk]
    cases hj : l[j]? with
    | none => simp [sentL, List.getElem?_map, hj]
    | some y =>
      have hne : y.r.num ≠ x.r.num := fun en => by
        obtain ⟨hl2, e2⟩ := List.getElem?_eq_some_iff.1 hj
        rw [List.pairwise_map, List.pairwise_iff_getElem] at hs
        rcases Nat.lt_or_gt_of_ne hjk with hlt | hlt
        · have := hs k j hl hl2 hlt; rw [e, e2] at this; omega
        · have := hs j k hl2 hl hlt; rw [e, e2] at this; omega
      rw [sentL_at hj, sentL_at hj]
      congr 1
      simp [hne]
theorem rrel_sent {l : List RR} {told : List Int} {t : St} (h : RRel l told t) (c : Cmd) : RRel (sentL l c.nums) told (t.sent c) := by
  have hrs : (sentL l c.nums).map (·.r) = (t.sent c).rs := by
    unfold sentL St.sent
    simp only [List.map_map, ← h.rs]
    refine List.map_congr_left fun x _ => ?_
    simp only [Function.comp]
    split <;> rfl
  refine ⟨hrs, fun x hx => ?_, ⟨h.told.nodup, fun n => ?_⟩⟩
  · obtain ⟨y, hy, rfl⟩ := List.mem_map.1 hx
    have := h.ok y hy
    split
    · exact ⟨this.data, this.wans, fun h => by simp [sentX, sentR] at h⟩
    · exact this
  · rw [h.told.mem]
    unfold St.sent
    constructor
    · rintro ⟨r, h1, h2, h3⟩
      refine ⟨if r.num ∈ c.nums then sentR r else r, List.mem_map_of_mem h1, ?_, ?_⟩ <;> split <;> assumption
    · rintro ⟨r, h1, h2, h3⟩
      obtain ⟨y, hy, rfl⟩ := List.mem_map.1 h1
      refine ⟨y, hy, ?_, ?_⟩
      · revert h2; split <;> exact id
      · revert h3; split <;> exact id
/-! ### a try ends -/
def landX (now : Int) (disk : List Int) (fault : Bool) (x : RR) : RR := ⟨St.landR now disk fault x.r, x.data, if !fault && !x.r.write then str4 (dget disk x.r.page) else x.answer⟩
theorem landX_ok {x : RR} (h : x.Ok) (ha : x.r.state = 1 ∨ x.r.state = 4) (now : Int) (disk : List Int) (fault : Bool) : (landX now disk fault x).Ok := by
  obtain ⟨_, _, h3, _, _⟩ := landR_num now disk fault x.r
  have hd : (St.landR now disk fault x.r).data = if !fault && !x.r.write then dget disk x.r.page else x.r.data := by
    unfold St.landR; simp only; repeat' split
    all_goals simp_all
  refine ⟨fun hw => ?_, fun hw => ?_, fun h2 hw => ?_⟩
  · have hw' : x.r.write = true := h3.symm.trans hw
    show x.data = str4 (St.landR now disk fault x.r).data
    rw [hd, hw', h.data hw']; simp
  · have hw' : x.r.write = true := h3.symm.trans hw
    show (if !fault && !x.r.write then _ else _) = _
    rw [hw', h.wans hw']; simp
  · have hw' : x.r.write = false := h3.symm.trans hw
    show (if !fault && !x.r.write then str4 (dget disk x.r.page) else x.answer) = str4 (St.landR now disk fault x.r).data
    rw [hd]
    cases hf : fault with
    | false => simp [hw']
    | true =>
      exfalso
      have h2' : (St.landR now disk fault x.r).state = 2 := h2
      unfold St.landR at h2'
      subst hf
      simp only [Bool.not_true, Bool.false_eq_true, if_false, Bool.false_and] at h2'
      rcases ha with ha | ha
      · rw [if_pos ha] at h2'
        split at h2' <;> simp at h2'
      · rw [if_neg (by omega)] at h2'
        simp only at h2'
        omega
theorem rrel_land {l : List RR} {told : List Int} {t : St} (h : RRel l told t) (hs : t.rs.Pairwise (·.num < ·.num)) {k : Nat} {x : RR} (hk : l[k]? = some x) (ha : x.r.state = 1 ∨ x.r.state = 4) (fault : Bool) (ht : x.r.told = false) :
    RRel (l.set k (landX t.now t.disk fault x)) told (t.land fault x.r.num) := by
  have hk' := h.at hk
  obtain ⟨h1, _⟩ := land_at hs hk' fault
  rw [ht] at h1
  simp only [Bool.false_eq_true, if_false] at h1
  obtain ⟨a1, _, _, _, a5⟩ := landR_num t.now t.disk fault x.r
  exact ⟨by rw [rset_map, h.rs, h1]; rfl, rset_ok h.ok (landX_ok (h.ok x (List.mem_of_getElem? hk)) ha _ _ _), by rw [h1]; exact told_set h.told hs hk' a1 a5⟩
theorem rrel_land_told {l : List RR} {told : List Int} {t : St} (h : RRel l told t) (hs : t.rs.Pairwise (·.num < ·.num)) {k : Nat} {x : RR} (hk : l[k]? = some x) (fault : Bool) (ht : x.r.told = true) :
    RRel (l.eraseIdx k) (told.filter fun m => !(m == x.r.num)) (t.land fault x.r.num) := by
  have hk' := h.at hk
  obtain ⟨h1, _⟩ := land_at hs hk' fault
  rw [ht] at h1
  simp only [if_true] at h1
  exact ⟨by rw [erase_map, h.rs, h1], fun y hy => h.ok y (List.mem_of_mem_eraseIdx hy), by rw [h1]; exact told_out h.told hs hk'⟩
theorem rrel_crash {t : St} (f : Nat → Bool) : RRel [] [] (t.crash f) := ⟨rfl, fun _ h => (List.not_mem_nil h).elim, ⟨List.nodup_nil, fun n => by simp [St.crash]⟩⟩
theorem rrel_same {l : List RR} {told : List Int} {t t' : St} (h : RRel l told t) (e : t'.rs = t.rs) : RRel l told t' := ⟨by rw [e]; exact h.rs, h.ok, by rw [e]; exact h.told⟩
/-! ### cells -/
def rrCells (x : RR) : List Value := [.int .i64 x.r.num, .bool x.r.write, .int .i64 x.r.page, .string x.data, .int .i64 x.r.state, .int .i64 x.r.tries, .int .i64 x.r.after, .bool x.r.alone, .bool x.r.inAir, .string x.answer]
theorem rr_len (l : List RR) : (l.flatMap rrCells).length = l.length * 10 := by
  induction l with
  | nil => rfl
  | cons x l ih => simp [ih, rrCells]; omega
theorem rr_at : ∀ {l : List RR} {j : Nat} {x : RR}, l[j]? = some x → ∀ i v, (rrCells x)[i]? = some v → (l.flatMap rrCells)[j * 10 + i]? = some v
  | [], _, _, h => by simp at h
  | y :: l, 0, x, h => by
    intro i v hv
    simp at h
    subst h
    have hi : i < 10 := (List.getElem?_eq_some_iff.1 hv).1
    rw [List.flatMap_cons, List.getElem?_append_left (by simp [rrCells]; omega)]
    simpa using hv
  | y :: l, j + 1, x, h => by
    intro i v hv
    rw [List.flatMap_cons, List.getElem?_append_right (by simp [rrCells]; omega)]
    have := rr_at (by simpa using h) i v hv
    rw [show (j + 1) * 10 + i - (rrCells y).length = j * 10 + i from by simp [rrCells]; omega]
    exact this
theorem rr_same : ∀ (l : List RR) (k : Nat) {x y : RR}, l[k]? = some x → rrCells y = rrCells x → (l.set k y).flatMap rrCells = l.flatMap rrCells
  | [], _, _, _, h, _ => by simp at h
  | z :: l, 0, x, y, h, e => by
    simp at h
    subst h
    simp [e]
  | z :: l, k + 1, x, y, h, e => by
    have := rr_same l k (by simpa using h) e
    simp [this]
theorem rr_tell {l : List RR} {k : Nat} {x : RR} (hk : l[k]? = some x) : (l.set k (tellX x)).flatMap rrCells = l.flatMap rrCells := rr_same l k hk rfl
theorem rr_set1 (i : Nat) (v : Value) (hi : i < 10) : ∀ (l : List RR) (k : Nat) {x y : RR}, l[k]? = some x → rrCells y = (rrCells x).set i v → (l.set k y).flatMap rrCells = (l.flatMap rrCells).set (k * 10 + i) v
  | [], _, _, _, h, _ => by simp at h
  | z :: l, 0, x, y, h, e => by
    simp at h
    subst h
    simp only [List.set_cons_zero, List.flatMap_cons, e]
    rw [List.set_append, if_pos (by simp [rrCells]; omega)]
    simp
  | z :: l, k + 1, x, y, h, e => by
    have ih := rr_set1 i v hi l k (by simpa using h) e
    simp only [List.set_cons_succ, List.flatMap_cons, ih]
    have hl : (rrCells z).length = 10 := rfl
    rw [List.set_append, if_neg (by omega)]
    congr 2
    omega
end Go.Proofs.YticobikhndlejabGreatDoor

/- sched.Next by contract: the next command. -/
namespace Go.Proofs.YticobikhndlejabGreatDoor
open Go.RowKit Go.Shelf Go.Lib

/-- Sixteen rows of the call's own, one a page. -/
structure PagesB (w : World) (pb base : Nat) (vs : List Value) (l : Nat → List Ent) : Prop where
  len : vs.length = 16
  arr : w.heap[pb]? = some (.cells vs.toArray 166 (0, 0))
  low : pb < base
  rows : ∀ k (h : k < vs.length), w.ownsRow base 121 1 (vs[k]'h) (l k).length ((l k).map fun e => ptr e.p)
  apart : ∀ j k (hj : j < vs.length) (hk : k < vs.length), j ≠ k → (vs[j]'hj).ownBlock = none ∨ (vs[j]'hj).ownBlock ≠ (vs[k]'hk).ownBlock
theorem PagesB.cell {w : World} {pb base : Nat} {vs : List Value} {l : Nat → List Ent} (h : PagesB w pb base vs l) (k : Nat) (hk : k < 16) : w.cell? ⟨pb, k, none⟩ = some (vs[k]'(h.len ▸ hk)) :=
  cell_of h.arr (by simp [h.len, hk])
theorem PagesB.kept {w w' : World} {pb base : Nat} {vs : List Value} {l : Nat → List Ent} (h : PagesB w pb base vs l) (hb : Below w.heap.size w w') : PagesB w' pb base vs l :=
  ⟨h.len, (hb.block _ (lt_of_heap h.arr)).trans h.arr, h.low, fun k hk => (h.rows k hk).kept (row := none) ⟨hb.os, hb.tape, hb.output, hb.size, fun i hi _ => hb.block i hi⟩ (by
    rcases hv : (vs[k]'hk).ownBlock with _ | g
    · exact .inl rfl
    · exact .inr (by simp)), h.apart⟩
/-- One more on one page. -/
theorem PagesB.push {w W w1 : World} {pb base : Nat} {vs : List Value} {l : Nat → List Ent} (h : PagesB w pb base vs l) (hW : Below w.heap.size w W) (pg : Nat) (hpg : pg < vs.length) (e : Ent) (g cap : Nat)
    (hown : w1.ownsRow base 121 1 (.slice (some ⟨g, 0, none⟩) ((l pg).length + 1) cap) ((l pg).length + 1) ((l pg).map (fun e => ptr e.p) ++ [ptr e.p]))
    (hgrow : W.grownBy w1 (vs[pg]'hpg).ownBlock) (hat : (vs[pg]'hpg).ownBlock = some g ∨ w.heap.size ≤ g) :
    PagesB (w1.setCell ⟨pb, pg, none⟩ (.slice (some ⟨g, 0, none⟩) ((l pg).length + 1) cap)) pb base (vs.set pg (.slice (some ⟨g, 0, none⟩) ((l pg).length + 1) cap)) (fun k => if k = pg then l pg ++ [e] else l k) := by
  have hpb := lt_of_heap h.arr
  have hpbne : some pb ≠ (vs[pg]'hpg).ownBlock := fun he => by have := ((h.rows pg hpg).lt pb he.symm).1; have := h.low; omega
  have harr1 : w1.heap[pb]? = some (.cells vs.toArray 166 (0, 0)) := (hgrow.block pb (Nat.lt_of_lt_of_le hpb hW.size) hpbne).trans ((hW.block pb hpb).trans h.arr)
  have hset : ∀ v n xs, w1.ownsRow base 121 1 v n xs → (w1.setCell ⟨pb, pg, none⟩ (.slice (some ⟨g, 0, none⟩) ((l pg).length + 1) cap)).ownsRow base 121 1 v n xs := fun v n xs hr =>
    hr.kept (row := some pb) ⟨rfl, rfl, rfl, by simp [World.setCell], fun k _ hk => Below.heap_setCell _ _ _ _ (fun e => hk (by rw [e]))⟩ (by
      rcases hv : v.ownBlock with _ | b
      · exact .inl rfl
      · refine .inr fun he => ?_
        cases he
        have := (hr.lt pb hv).1; have := h.low; omega)
  refine ⟨by simp [h.len], ?_, h.low, fun k hk => ?_, fun j k hj hk hjk => ?_⟩
  · rw [heap_setCell _ harr1]; simp
  · have hk' : k < vs.length := by simpa using hk
    by_cases hkp : k = pg
    · subst hkp
      simp only [List.getElem_set_self, if_true]
      have := hset _ _ _ hown
      simpa using this
    · simp only [List.getElem_set_ne (fun e => hkp e.symm), if_neg hkp]
      refine hset _ _ _ ?_
      have h1 : W.ownsRow base 121 1 (vs[k]'hk') (l k).length ((l k).map fun e => ptr e.p) := (h.kept hW).rows k hk'
      exact h1.kept hgrow (h.apart k pg hk' hpg hkp)
  · have hj' : j < vs.length := by simpa using hj
    have hk' : k < vs.length := by simpa using hk
    have hold : ∀ i (hi : i < vs.length), (vs[i]'hi).ownBlock = none ∨ ∃ b, (vs[i]'hi).ownBlock = some b ∧ b < w.heap.size := fun i hi => by
      rcases hv : (vs[i]'hi).ownBlock with _ | b
      · exact .inl rfl
      · exact .inr ⟨b, rfl, ((h.rows i hi).lt b hv).2⟩
    by_cases hjp : j = pg
    · subst hjp
      simp only [List.getElem_set_self, List.getElem_set_ne hjk]
      refine .inr ?_
      show some g ≠ (vs[k]'hk').ownBlock
      rcases hat with ha | ha
      · rcases h.apart j k hj' hk' hjk with h1 | h1
        · rw [h1] at ha; cases ha
        · rw [← ha]; exact h1
      · rcases hold k hk' with h1 | ⟨b, h1, h2⟩
        · rw [h1]; simp
        · rw [h1]; simp; omega
    · simp only [List.getElem_set_ne (fun e => hjp e.symm)]
      by_cases hkp : k = pg
      · subst hkp
        simp only [List.getElem_set_self]
        show (vs[j]'hj').ownBlock = none ∨ (vs[j]'hj').ownBlock ≠ some g
        rcases hat with ha | ha
        · rcases h.apart j k hj' hk' hjk with h1 | h1
          · exact .inl h1
          · exact .inr (by rw [← ha]; exact h1)
        · rcases hold j hj' with h1 | ⟨b, h1, h2⟩
          · exact .inl h1
          · exact .inr (by rw [h1]; simp; omega)
      · simp only [List.getElem_set_ne (fun e => hkp e.symm)]
        exact h.apart j k hj' hk' hjk

theorem PagesB.slice {w : World} {pb base : Nat} {vs : List Value} {l : Nat → List Ent} (h : PagesB w pb base vs l) (k : Nat) (hk : k < 16) :
    ∃ a c, w.cell? ⟨pb, k, none⟩ = some (.slice a (l k).length c) ∧ w.ownsRow base 121 1 (.slice a (l k).length c) (l k).length ((l k).map fun e => ptr e.p) ∧ ∀ f t, l k = f :: t → ∃ g, a = some ⟨g, 0, none⟩ ∧ w.cell? ⟨g, 0, none⟩ = some (ptr f.p) ∧ base ≤ g ∧ g < w.heap.size := by
  have hk' : k < vs.length := by rw [h.len]; exact hk
  have hr := h.rows k hk'
  have hc := h.cell k hk
  rcases hr.2 with ⟨h1, h2⟩ | ⟨g, c, cur, h1, h2, h3, h4, h5, h6, h7⟩
  · rw [h1] at hc hr
    refine ⟨none, 0, by rw [hc, h2], by rw [h2]; rw [h2] at hr; exact hr, fun f t ht => ?_⟩
    rw [ht] at h2
    simp at h2
  · rw [h1] at hc hr
    refine ⟨some ⟨g, 0, none⟩, c, hc, hr, fun f t ht => ⟨g, rfl, ?_, h2, lt_of_heap h3⟩⟩
    have := row_cell (B := g + 1) (w := w) (wr := w) h3 h7 (Below.refl _ _) (by omega) 0 (by rw [ht]; simp)
    simpa [ht] using this
theorem beginE_of {ne : Nat → Bool} {head p : Nat} (hh : head ≤ 16) (h : beginE ne head = some p) : p < 16 ∧ ne p = true := by
  unfold beginE at h
  refine ⟨?_, List.find?_some h⟩
  have hm := List.mem_of_find?_eq_some h
  rw [List.mem_map] at hm
  obtain ⟨i, hi, rfl⟩ := hm
  exact wrapAt_lt hh (List.mem_range.1 hi)
theorem ownsRow_one {w : World} {b : Nat} {v : Value} (t : TypeId) (hb : b ≤ w.heap.size) : (w.alloc (.cells #[v] t)).ownsRow b t 1 (.slice (some ⟨w.heap.size, 0, none⟩) 1 1) 1 [v] :=
  ⟨rfl, .inr ⟨w.heap.size, 1, #[v], rfl, hb, World.alloc_heap_new w _, Nat.le_refl _, by decide, rfl, rfl⟩⟩

theorem grown_free {w w' : World} {row : Option Nat} (hg : w.grownBy w' row) {a : Addr} {v : Value} (h : w.cell? a = some v) (hf : w.frozen? a = false) (hne : some a.block ≠ row) : w'.frozen? a = false :=
  (World.frozen?_of_block (hg.block a.block (World.block_lt_of_cell? w a h) hne)).trans hf

theorem pages0 (w : World) : PagesB (w.alloc (.cells #[.slice none 0 0, .slice none 0 0, .slice none 0 0, .slice none 0 0, .slice none 0 0, .slice none 0 0, .slice none 0 0, .slice none 0 0, .slice none 0 0, .slice none 0 0, .slice none 0 0, .slice none 0 0, .slice none 0 0, .slice none 0 0, .slice none 0 0, .slice none 0 0] 166)) w.heap.size (w.heap.size + 1) (List.replicate 16 (.slice none 0 0)) (fun _ => []) :=
  ⟨rfl, World.alloc_heap_new w _, by omega, fun k hk => by simp only [List.getElem_replicate]; exact World.ownsRow_nil _ _ _ _, fun j k hj hk _ => .inl (by simp only [List.getElem_replicate]; rfl)⟩

theorem push_rel {wr w : World} {pb : Nat} {vs : List Value} {L : List Ent} {j pg : Nat} {pv : Value} {xs : List Value} {n : Nat} (hlt : j < L.length) (hP : PagesB wr pb (w.heap.size + 1) vs (fun k => pageL (L.take j) k)) (hB : Below w.heap.size w wr) (hpl : pg < vs.length)
    (hpv : vs[pg]'hpl = pv) (hn : (pageL (L.take j) pg).length = n) (hxs : (pageL (L.take j) pg).map (fun e => ptr e.p) = xs) (e : Ent) (he : L[j] = e) (hq : e.r.page = pg) (hpb : w.heap.size ≤ pb) {W w1 : World} {gg cap2 : Nat}
    (hW : Below wr.heap.size wr W)
    (hown : w1.ownsRow (w.heap.size + 1) 121 1 (.slice (some ⟨gg, 0, none⟩) (n + 1) cap2) (n + 1) (xs ++ [ptr e.p])) (hgrow : W.grownBy w1 pv.ownBlock) (hat : pv.ownBlock = some gg ∨ gg = wr.heap.size + 1) :
    PagesB (w1.setCell ⟨pb, pg, none⟩ (.slice (some ⟨gg, 0, none⟩) (n + 1) cap2)) pb (w.heap.size + 1) (vs.set pg (.slice (some ⟨gg, 0, none⟩) (n + 1) cap2)) (fun k => pageL (L.take (j + 1)) k) ∧ Below w.heap.size w (w1.setCell ⟨pb, pg, none⟩ (.slice (some ⟨gg, 0, none⟩) (n + 1) cap2)) := by
  subst hpv hn hxs
  refine ⟨?_, Below.setCell (((hB.trans (hW.mono hB.size)).grown hgrow ?_ ?_)) hpb _⟩
  · have h := hP.push hW pg hpl e gg cap2 hown hgrow (hat.imp id (fun h => by omega))
    refine (funext fun k => ?_ : (fun k => if k = pg then pageL (L.take j) pg ++ [e] else pageL (L.take j) k) = fun k => pageL (L.take (j + 1)) k) ▸ h
    rw [List.take_succ_eq_append_getElem hlt, he]
    unfold pageL
    rw [List.filter_append]
    by_cases hk : k = pg
    · subst hk; simp [hq]
    · simp only [if_neg hk]
      have : (e.r.page == (k : Int)) = false := by rw [hq]; simp; omega
      simp [this]
  · exact Nat.le_trans hB.size hW.size
  · intro k hk
    have := ((hP.rows pg hpl).lt k hk).1
    omega


theorem gather_succ (K : Nat → List Ent) (a j : Nat) : gather K a (j + 1) = gather K a j ++ K (a + j) := by simp [gather, List.range_succ, List.flatMap_append]
theorem gather_len {K : Nat → List Ent} {B : Nat} (hK : ∀ k, (K k).length ≤ B) (a : Nat) : ∀ j, (gather K a j).length ≤ j * B
  | 0 => by simp [gather]
  | j + 1 => by rw [gather_succ, List.length_append, Nat.succ_mul]; exact Nat.add_le_add (gather_len hK a j) (hK _)
theorem runLen_of {K : Nat → List Ent} {a most j : Nat} (h : ∀ i, i < j → K (a + i) ≠ []) (hj : j ≤ most) (hs : j = most ∨ K (a + j) = []) : runLen K a most = j := by
  unfold runLen
  have h1 : List.range most = List.range j ++ List.range' j (most - j) := by
    rw [List.range_eq_range', List.range_eq_range', show List.range' j (most - j) = List.range' (0 + 1 * j) (most - j) from by simp, List.range'_append]
    congr 1; omega
  rw [h1, List.takeWhile_append_of_pos (fun i hi => by simpa using h i (List.mem_range.1 hi))]
  rcases hs with hs | hs
  · subst hs; simp
  · rcases Nat.lt_or_ge j most with hlt | hge
    · rw [show most - j = (most - j - 1) + 1 from by omega, List.range'_succ, List.takeWhile_cons_of_neg (by simp [hs])]
      simp
    · rw [show most - j = 0 from by omega]; simp
theorem ownsRow_low {w : World} {b b' : Nat} {t : TypeId} {v : Value} {n : Nat} {xs : List Value} (h : w.ownsRow b t 1 v n xs) (hb : b' ≤ b) : w.ownsRow b' t 1 v n xs :=
  ⟨h.1, h.2.imp id fun ⟨g, c, cur, h1, h2, h3⟩ => ⟨g, c, cur, h1, Nat.le_trans hb h2, h3⟩⟩

set_option maxRecDepth 100000 in
set_option maxHeartbeats 1000000 in
theorem next_any (v : Value) (base head : Nat) (L : List Ent) (w : World) (hrow : w.ownsRow base 121 1 v L.length (L.map fun e => ptr e.p)) (hlen : L.length ≤ 1000000) (hr : ∀ e ∈ L, ReqB w e.p e.r) (hpg : ∀ e ∈ L, 0 ≤ e.r.page ∧ e.r.page < 16) (hh : head ≤ 16) :
    Calls Tryz.prog 71 #[v, .int .i64 head] w fun e w' =>
      ∃ v' : Value, e = .returned (.tuple #[.int .i64 (nextE L head).1, .int .i64 (nextE L head).2.1, v']) ∧ w'.ownsRow w.heap.size 121 1 v' (nextE L head).2.2.length ((nextE L head).2.2.map fun e => ptr e.p) ∧ Below w.heap.size w w' := by
  obtain ⟨i0, hi, hz0, hz1, hz2⟩ := info_parts Tryz.infoP
  have HR := Lib.hid hr
  have HPG := Lib.hid hpg
  clear hr hpg
  obtain ⟨a, cap, rfl, hA⟩ : ∃ a cap, v = .slice a L.length cap ∧ ∀ wr, Below w.heap.size w wr → ∀ j (hj : j < L.length), ∃ g, a = some ⟨g, 0, none⟩ ∧ wr.cell? ⟨g, j, none⟩ = some (ptr (L[j]'hj).p) := by
    rcases hrow.2 with ⟨rfl, hz⟩ | ⟨g, cap, cur, rfl, hbase, hgb, r1, r2, r3, r4⟩
    · exact ⟨none, 0, by rw [hz], fun wr _ j hj => by omega⟩
    · exact ⟨_, _, rfl, fun wr hb j hj => ⟨g, rfl, row_cell hgb r4 hb (lt_of_heap hgb) j hj⟩⟩
  have HA := Lib.hid hA
  clear hrow hA
  go_enter Tryz.func71, Tryz.ntmps71
  go_wp2_with fail
  go_loopg [18] L.length (fun k i wr => ∃ (j : Nat) (vs : List Value), k = L.length - j ∧ j ≤ L.length ∧ i = .int .i64 j ∧ PagesB wr w.heap.size (w.heap.size + 1) vs (fun k => pageL (L.take j) k) ∧ Below w.heap.size w wr)
  case atStart => exact ⟨0, _, by simp, Nat.zero_le _, rfl, pages0 w, (Below.refl _ _).alloc (Nat.le_refl _) _⟩
  case round =>
    obtain ⟨j, vs, rfl, hj, rfl, hP, hB⟩ := hrel
    by_cases hlt : j < L.length
    · obtain ⟨g, rfl, hcell⟩ := HA.out wr hB j hlt
      obtain ⟨e, he⟩ : ∃ e, L[j] = e := ⟨_, rfl⟩
      rw [he] at hcell
      have hmem : e ∈ L := by rw [← he]; exact List.getElem_mem hlt
      have hR : ReqB wr e.p e.r := (hB.block e.p (lt_of_heap (HR.out e hmem))).trans (HR.out e hmem)
      have c2 := hR.at.c2
      obtain ⟨hp1, hp2⟩ := HPG.out e hmem
      obtain ⟨pg, hpg⟩ : ∃ pg : Nat, e.r.page = pg := ⟨e.r.page.toNat, by omega⟩
      rw [hpg] at c2 hp1 hp2
      have hpl : pg < vs.length := by rw [hP.len]; omega
      have hcp := hP.cell pg (by omega)
      obtain ⟨pv, hpv⟩ : ∃ pv, vs[pg]'hpl = pv := ⟨_, rfl⟩
      rw [hpv] at hcp
      have hrowp := hP.rows pg hpl
      rw [hpv] at hrowp
      have hfp : wr.frozen? ⟨w.heap.size, pg, none⟩ = false := free_of hP.arr
      have hpll : (pageL (L.take j) pg).length ≤ j := Nat.le_trans (List.length_filter_le _ _) (List.length_take_le _ _)
      have hwlt : w.heap.size < wr.heap.size := lt_of_heap hP.arr
      have helt : e.p < wr.heap.size := lt_of_heap hR
      have ag : pv.ownBlock ≠ some w.heap.size := fun h => by have := (hrowp.lt _ h).1; omega
      have ae : pv.ownBlock ≠ some e.p := fun h => by
        have := (hrowp.lt _ h).1
        have := lt_of_heap (HR.out e hmem)
        omega
      obtain ⟨n, hn⟩ : ∃ n, (pageL (L.take j) pg).length = n := ⟨_, rfl⟩
      rw [hn] at hrowp hpll
      obtain ⟨xs, hxs⟩ : ∃ xs, (pageL (L.take j) pg).map (fun e => ptr e.p) = xs := ⟨_, rfl⟩
      rw [hxs] at hrowp
      have HE := Lib.hid he
      have HP := Lib.hid hP
      have HPV := Lib.hid hpv
      have HN := Lib.hid hn
      have HX := Lib.hid hxs
      have HQ := Lib.hid hpg
      clear hP hpv hn hxs hpg hR he
      go_wp2_with fail
      have hnep : (⟨w.heap.size, pg, none⟩ : Addr).block ≠ (⟨e.p, 2, none⟩ : Addr).block := Nat.ne_of_gt (lt_of_heap (HR.out e hmem))
      have n1 := World.new_ne wr _ hcp
      have n2 := World.new_ne wr _ c2
      go_region_law
        ((refine step_append_lies _ (by rfl) _ _ _ (by rfl) (w.heap.size + 1) 121 i0 _ 1 8 Tryz.underlying125 hi hz0 hz1 hz2 rfl (by omega) pv n xs (by rfl) ((hrowp.alloc _).drew)
            ⟨wr.heap.size, 0, none⟩ 1 1 [ptr e.p] (by rfl) (by rfl) (World.news_of_block (cs := #[ptr e.p]) (t := 121) (fr := (0, 0)) (heap_alloc_new wr _)) (by simp [Value.oneCell'])
            (by omega) (by unfold maxLen; omega) (by omega) (by simp; omega) (wr.heap.size + 1) (by simp) ?_; intro gg cap2 w1 hown1 hgrow hat hltg
          have z1 := hgrow.cell (a := ⟨e.p, 2, none⟩) (v := .int .i64 pg) (by go_keep) (fun h => ae h.symm)
          have z2 := hgrow.cell (a := ⟨w.heap.size, pg, none⟩) (v := pv) (by go_keep) (fun h => ag h.symm)
          have z3 := grown_free hgrow (a := ⟨w.heap.size, pg, none⟩) (v := pv) (by go_keep) (by simp [*, frozen?_alloc_cells]) (fun h => ag h.symm)))
      all_goals try go_wp2_with fail
      all_goals go_roundg (L.length - (j + 1))
      all_goals first
        | (show L.length - (j + 1) < L.length - j; omega)
        | exact ⟨j + 1, _, rfl, by omega, by go_num, push_rel hlt HP.out hB hpl HPV.out HN.out HX.out e HE.out HQ.out (Nat.le_refl _) (by go_grown) hown1 hgrow hat⟩
    · have hjl : j = L.length := by omega
      subst hjl
      obtain ⟨W1, rfl⟩ : ∃ x, x = wr := ⟨_, rfl⟩
      rw [List.take_length] at hP
      have hB1 := hP.arr
      go_wp2_with fail
      rw [show min (↑head : Int) 16 = (head : Int) from by omega]
      refine (begin_any w.heap.size head (fun k => (pageL L k).length) W1 hh ?_ ?_).mono ?_
      · exact fun k => Nat.le_trans (List.length_filter_le _ _) hlen
      · exact fun k hk => by obtain ⟨a, c, h, _⟩ := hP.slice k hk; exact ⟨a, c, h⟩
      rintro e w' ⟨rfl, rfl⟩
      cases hb : beginE (fun k => decide (0 < (pageL L k).length)) head with
      | none =>
        have hbI : beginI none = -1 := rfl
        rw [hbI]
        go_wp2
        go_ret3
        have hE : nextE L head = (0, 0, []) := by unfold nextE; rw [hb]
        rw [hE]
        exact ⟨_, rfl, World.ownsRow_nil _ _ _ _, hB⟩
      | some p =>
        obtain ⟨hp16, hne⟩ := beginE_of hh hb
        have hbI : beginI (some p) = (p : Int) := rfl
        rw [hbI]
        obtain ⟨f, t, hft⟩ : ∃ f t, pageL L p = f :: t := by
          cases hpl : pageL L p with
          | nil => simp [hpl] at hne
          | cons f t => exact ⟨f, t, rfl⟩
        obtain ⟨a1, c1, hcp, hrow1, hfirst⟩ := hP.slice p hp16
        obtain ⟨g1, rfl, hf1, hg1, hg2⟩ := hfirst f t hft
        have hfm : f ∈ L := (List.mem_filter.1 (show f ∈ pageL L p from by rw [hft]; simp)).1
        have hR : ReqB W1 f.p f.r := (hB.block f.p (lt_of_heap (HR.out f hfm))).trans (HR.out f hfm)
        have cw := hR.at.c1
        have ca := hR.at.c10
        have hp0 : (0 : Int) ≤ (p : Int) := by omega
        have hp1 : (p : Int) < 16 := by omega
        have hpn : ¬ ((p : Int) < 0) := by omega
        have hl1 : (0 : Int) < ((pageL L p).length : Int) := by rw [hft]; simp
        obtain ⟨m, hm⟩ : ∃ m, (pageL L p).length = m := ⟨_, rfl⟩
        rw [hm] at hcp hrow1 hl1
        have HP := Lib.hid hP
        have HM := Lib.hid hm
        have HFT := Lib.hid hft
        have HB := Lib.hid hb
        have HRf := Lib.hid hR
        have HROW := Lib.hid hrow1
        clear hP hm hft hb hne hfirst hR hrow1
        cases hal : f.r.alone with
        | true =>
          rw [hal] at ca
          go_wp2_with fail
          go_ret3
          have hE : nextE L head = (p, 1, [f]) := by simp only [nextE, HB.out, HFT.out, hal, if_true]
          rw [hE]
          exact ⟨_, rfl, ownsRow_one _ hB.size, hB.alloc hB.size _⟩
        | false =>
          rw [hal] at ca
          go_wp2_with fail
          obtain ⟨M, hM⟩ : ∃ M : Nat, min 4 (16 - p) = M := ⟨_, rfl⟩
          rw [show min (4 : Int) (16 - (p : Int)) = (M : Int) from by omega]
          have HE : ∀ n, runLen (nextK L f.r.write) p M = n → nextE L head = (p, n, gather (nextK L f.r.write) p n) := fun n hn => by
            subst hn hM
            simp only [nextE, HB.out, HFT.out, hal, Bool.false_eq_true, if_false]
          obtain ⟨K, hK⟩ : ∃ K, nextK L f.r.write = K := ⟨_, rfl⟩
          rw [hK] at HE
          have HKL : ∀ k, (K k).length ≤ 1000000 := fun k => by rw [← hK]; exact Nat.le_trans (List.length_filter_le _ _) (Nat.le_trans (List.length_filter_le _ _) hlen)
          have HE := Lib.hid HE
          have HM := Lib.hid hM
          have HK := Lib.hid hK
          have HKL := Lib.hid HKL
          clear hK hM
          go_loopg [12, 13] M (fun k out i wr => ∃ j : Nat, k = M - j ∧ j ≤ M ∧ i = .int .i64 j ∧ wr.ownsRow W1.heap.size 121 1 out (gather K p j).length ((gather K p j).map fun e => ptr e.p) ∧ Hid (∀ i, i < j → K (p + i) ≠ []) ∧ Below W1.heap.size W1 wr)
          case atStart => exact ⟨0, by simp, Nat.zero_le _, rfl, World.ownsRow_nil _ _ _ _, fun i hi => absurd hi (by omega), Below.refl _ _⟩
          case round =>
            obtain ⟨j, rfl, hj, rfl, hout, hall, hB2⟩ := hrel
            have hMM := HM.out
            by_cases hlt : j < M
            · have hpj : p + j < 16 := by omega
              obtain ⟨a2, c2, hcp2, hrow2, _⟩ := HP.out.slice (p + j) hpj
              have hlt2 : (j : Int) < (M : Int) := by omega
              have hfw : ReqB wr f.p f.r := (hB2.block f.p (lt_of_heap HRf.out)).trans HRf.out
              have cw2 := hfw.at.c1
              have hcp3 := (hB2.cell (p := ⟨w.heap.size, p + j, none⟩) (lt_of_heap HP.out.arr)).trans hcp2
              have hrow3 := hrow2.kept (row := none) ⟨hB2.os, hB2.tape, hB2.output, hB2.size, fun i hi _ => hB2.block i hi⟩ (by cases (Value.slice a2 (pageL L (p + j)).length c2).ownBlock <;> simp)
              have HROW3 := Lib.hid hrow3
              clear hfw hrow2 hrow3 hcp2
              go_wp2_with fail
              rw [show (p : Int) + (j : Int) = ((p + j : Nat) : Int) from by omega]
              refine (kind_any w.heap.size (p + j) (w.heap.size + 1) f.r.write _ (pageL L (p + j)) wr hpj hcp3 HROW3.out ?_ ?_).mono ?_
              · exact Nat.le_trans (List.length_filter_le _ _) hlen
              · exact fun e he => (hB2.block e.p (lt_of_heap ((hB.block e.p (lt_of_heap (HR.out e (List.mem_filter.1 he).1))).trans (HR.out e (List.mem_filter.1 he).1)))).trans ((hB.block e.p (lt_of_heap (HR.out e (List.mem_filter.1 he).1))).trans (HR.out e (List.mem_filter.1 he).1))
              rintro e w3 ⟨l, rfl, hl, hB3⟩
              rw [show (pageL L (p + j)).filter (isKind f.r.write) = K (p + j) from by rw [← HK.out]; rfl] at hl
              obtain ⟨nl, hnl⟩ : ∃ nl, (K (p + j)).length = nl := ⟨_, rfl⟩
              obtain ⟨xl, hxl⟩ : ∃ xl, (K (p + j)).map (fun e => ptr e.p) = xl := ⟨_, rfl⟩
              have hnl6 : nl ≤ 1000000 := hnl ▸ HKL.out (p + j)
              rw [hnl, hxl] at hl
              have HNL := Lib.hid hnl
              have HXL := Lib.hid hxl
              clear hnl hxl
              have FIN : K (p + j) = [] → ∃ v' : Value, Ending.returned (Value.tuple #[.int .i64 p, .int .i64 j, u12]) = Ending.returned (Value.tuple #[.int .i64 (nextE L head).1, .int .i64 (nextE L head).2.1, v']) ∧ w3.ownsRow w.heap.size 121 1 v' (nextE L head).2.2.length ((nextE L head).2.2.map fun e => ptr e.p) ∧ Below w.heap.size w w3 := fun h0 => by
                rw [HE.out j (runLen_of hall.out hj (.inr h0))]
                refine ⟨_, rfl, ownsRow_low (hout.kept (row := none) ⟨hB3.os, hB3.tape, hB3.output, hB3.size, fun i hi _ => hB3.block i hi⟩ (by cases u12.ownBlock <;> simp)) hB.size, (hB.trans (hB2.mono hB.size)).trans (hB3.mono (Nat.le_trans hB.size hB2.size))⟩
              rcases hl.2 with ⟨rfl, hz⟩ | ⟨gl, capl, cur, rfl, hgl1, hgl2, hgl3, hgl4, hgl5, hgl6⟩
              · subst hz
                go_wp2_with fail
                go_ret3
                exact FIN (List.length_eq_zero_iff.1 HNL.out)
              · rcases Nat.eq_zero_or_pos nl with hz | hz
                · subst hz
                  go_wp2_with fail
                  go_ret3
                  exact FIN (List.length_eq_zero_iff.1 HNL.out)
                · have hzI : ¬ ((nl : Int) = 0) := by omega
                  obtain ⟨no, hno⟩ : ∃ no, (gather K p j).length = no := ⟨_, rfl⟩
                  obtain ⟨xo, hxo⟩ : ∃ xo, (gather K p j).map (fun e => ptr e.p) = xo := ⟨_, rfl⟩
                  have hno6 : no ≤ j * 1000000 := hno ▸ gather_len HKL.out p j
                  rw [hno, hxo] at hout
                  have hout3 := hout.kept (row := none) ⟨hB3.os, hB3.tape, hB3.output, hB3.size, fun i hi _ => hB3.block i hi⟩ (by cases u12.ownBlock <;> simp)
                  have HNO := Lib.hid hno
                  have HXO := Lib.hid hxo
                  have HF := Lib.hid FIN
                  clear hno hxo FIN
                  have hnews : ∀ j u, xl[j]? = some u → w3.cell? ((⟨gl, 0, none⟩ : Addr).add j) = some u := fun j u hu => World.news_of_block hgl2 j u (by
                    rw [← hgl6, List.getElem?_take] at hu
                    split at hu
                    · exact hu
                    · cases hu)
                  have hone : ∀ u ∈ xl, u.oneCell' = true := by
                    rw [← HXL.out]
                    intro u hu
                    obtain ⟨e, _, rfl⟩ := List.mem_map.1 hu
                    rfl
                  have hxll : xl.length = nl * 1 := hl.1
                  have HNW := Lib.hid hnews
                  have HON := Lib.hid hone
                  have hsz3 : W1.heap.size ≤ w3.heap.size := Nat.le_trans hB2.size hB3.size
                  clear hnews hone
                  go_wp2_with (at_builtin; refine wpList_append_own _ rfl _ _ 125 rfl W1.heap.size 121 i0 (.pointer none) 1 8 Tryz.underlying125 hi hz0 hz1 hz2 rfl (by decide) _ _ _ rfl hout3 ⟨gl, 0, none⟩ nl capl xl rfl hxll HNW.out HON.out ?_ ?_ ?_ ?_)
                  · unfold maxLen; omega
                  · omega
                  · exact hsz3
                  intro v' w4 hown' hgrow _
                  have hB4 : Below W1.heap.size W1 w4 := (hB2.trans (hB3.mono hB2.size)).grown hgrow hsz3 (fun k ek => (hout.lt k ek).1)
                  have hown4 : w4.ownsRow W1.heap.size 121 1 v' (gather K p (j + 1)).length ((gather K p (j + 1)).map fun e => ptr e.p) := by
                    rw [gather_succ, List.length_append, List.map_append, HNO.out, HNL.out, HXO.out, HXL.out]; exact hown'
                  have HO4 := Lib.hid hown4
                  clear hown' hgrow hown4 hout hout3
                  go_wp2
                  go_roundg (M - (j + 1))
                  case measure => omega
                  case rel => exact ⟨j + 1, rfl, by omega, by go_num, HO4.out, fun i hi => by
                    rcases Nat.lt_or_ge i j with h | h
                    · exact hall.out i h
                    · rw [show i = j from by omega]
                      intro h0
                      have := HNL.out
                      rw [h0] at this
                      simp at this; omega, hB4⟩
            · have hjM : j = M := by omega
              subst hjM
              go_wp2_with fail
              go_ret3
              rw [HE.out j (runLen_of hall.out hj (.inl rfl))]
              exact ⟨_, rfl, ownsRow_low hout hB.size, (hB.trans (hB2.mono hB.size))⟩
end Go.Proofs.YticobikhndlejabGreatDoor
