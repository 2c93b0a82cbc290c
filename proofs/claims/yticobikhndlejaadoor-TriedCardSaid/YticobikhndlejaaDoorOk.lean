/- WHAT HOLDS OF EVERY QUEUE, and that each call keeps it. Plain Lean. -/
import Derived.Test.YticobikhndlejaaDoorPure
namespace Go.Proofs.YticobikhndlejaaDoor

def BOk (d : B4) : Prop := (0 ≤ d.a ∧ d.a ≤ 255) ∧ (0 ≤ d.b ∧ d.b ≤ 255) ∧ (0 ≤ d.c ∧ d.c ≤ 255) ∧ (0 ≤ d.d ∧ d.d ≤ 255)
def Req.live (r : Req) : Bool := (r.state == 0) || r.inAir
structure ROk (r : Req) : Prop where
  page : 0 ≤ r.page ∧ r.page < 16
  st : 0 ≤ r.state ∧ r.state ≤ 4
  tries : 0 ≤ r.tries ∧ r.tries ≤ 4
  try3 : r.live = true → r.tries ≤ 3
  air : r.inAir = true → r.state = 1 ∨ r.state = 4
  uair : r.state = 1 → r.inAir = true
  told : r.told = true → r.state = 4 ∧ r.inAir = true
  byte : BOk r.data
structure RsOk (last : Int) (rs : List Req) (air : List Int) : Prop where
  nums : rs.Pairwise (·.num < ·.num)
  num : ∀ r ∈ rs, 1 ≤ r.num ∧ r.num ≤ last
  ok : ∀ r ∈ rs, ROk r
  nodup : air.Nodup
  fly : ∀ n ∈ air, ∃ r ∈ rs, r.num = n ∧ r.inAir = true
  airs : ∀ r ∈ rs, r.inAir = true → r.num ∈ air
  free : ∀ r ∈ rs, r.inAir = true → ∀ o ∈ rs, o.blocks r = false
structure St.OkA (t : St) (air : List Int) : Prop where
  depth : 1 ≤ t.depth ∧ t.depth ≤ 4
  head : t.head ≤ 16
  dlen : t.disk.length = 64
  dbyte : ∀ b ∈ t.disk, 0 ≤ b ∧ b ≤ 255
  last : 0 ≤ t.last
  now : 0 ≤ t.now
  rs : RsOk t.last t.rs air
  held : t.held = ((t.rs.filter fun r => !r.told).length : Int)
  h40 : t.held ≤ 40
structure CmdOk (rs : List Req) (c : Cmd) : Prop where
  count : 1 ≤ c.count ∧ c.count ≤ 4
  page : c.page + c.count ≤ 16
  len : c.count ≤ c.nums.length
  wlen : c.write = true → c.nums.length = c.count
  ins : ∀ n ∈ c.nums, ∃ r ∈ rs, r.num = n ∧ r.write = c.write ∧ (c.page : Int) ≤ r.page ∧ r.page < c.page + c.count
  all : ∀ p : Int, (c.page : Int) ≤ p → p < c.page + c.count → ∃ r ∈ rs, r.num ∈ c.nums ∧ r.page = p
structure St.Ok (t : St) : Prop where
  a : t.OkA (t.cs.flatMap (·.nums))
  len : t.cs.length ≤ t.depth
  cmds : ∀ c ∈ t.cs, CmdOk t.rs c

theorem blocks_live {o r : Req} (h : o.blocks r = true) : o.live = true := by
  simp [Req.blocks] at h; simp [Req.live]; exact h.2.2.2
theorem blocks_eq {o r o' r' : Req} (h1 : o'.num = o.num) (h2 : o'.page = o.page) (h3 : o'.write = o.write) (h4 : r'.num = r.num) (h5 : r'.page = r.page) (h6 : r'.write = r.write) (hl : o'.live = true → o.live = true) (h : o.blocks r = false) : o'.blocks r' = false := by
  cases hb : o'.blocks r' with
  | false => rfl
  | true =>
    have hl' := hl (blocks_live hb)
    have : o.blocks r = true := by
      simp [Req.blocks, h1, h2, h3, h4, h5, h6] at hb
      simp [Req.live] at hl'
      simp [Req.blocks, hb, hl']
    rw [this] at h; exact h
theorem rnum_inj {rs : List Req} (h : rs.Pairwise (·.num < ·.num)) {a b : Req} (ha : a ∈ rs) (hb : b ∈ rs) (he : a.num = b.num) : a = b := by
  induction rs with
  | nil => cases ha
  | cons x l ih =>
    rw [List.pairwise_cons] at h
    rcases List.mem_cons.1 ha with e | ha' <;> rcases List.mem_cons.1 hb with e' | hb'
    · rw [e, e']
    · have := h.1 b hb'; rw [e] at he; omega
    · have := h.1 a ha'; rw [e'] at he; omega
    · exact ih h.2 ha' hb'
theorem find_num {rs : List Req} (h : rs.Pairwise (·.num < ·.num)) {r : Req} (hr : r ∈ rs) : (rs.find? fun x => x.num == r.num) = some r := by
  cases hf : rs.find? fun x => x.num == r.num with
  | none => exact absurd (List.find?_eq_none.1 hf r hr) (by simp)
  | some x =>
    have h1 := List.find?_some hf
    have h2 := List.mem_of_find?_eq_some hf
    simp at h1
    rw [rnum_inj h h2 hr h1]
/-- Requests that are turned one by one. -/
theorem RsOk.map {last : Int} {rs : List Req} {air air' : List Int} (h : RsOk last rs air) (f : Req → Req) (hn : ∀ r, (f r).num = r.num) (hp : ∀ r, (f r).page = r.page) (hw : ∀ r, (f r).write = r.write)
    (hok : ∀ r ∈ rs, ROk (f r)) (hl : ∀ r ∈ rs, (f r).live = true → r.live = true) (hnd : air'.Nodup) (hfly : ∀ n ∈ air', ∃ r ∈ rs, r.num = n ∧ (f r).inAir = true) (hairs : ∀ r ∈ rs, (f r).inAir = true → r.num ∈ air')
    (hfree : ∀ r ∈ rs, (f r).inAir = true → r.inAir = true ∨ ∀ o ∈ rs, o.blocks r = false) : RsOk last (rs.map f) air' := by
  refine ⟨List.pairwise_map.2 (h.nums.imp fun {a b} hab => by rw [hn, hn]; exact hab), fun r hr => ?_, fun r hr => ?_, hnd, fun n hn' => ?_, fun r hr ha => ?_, fun r hr ha o ho => ?_⟩
  · obtain ⟨x, hx, rfl⟩ := List.mem_map.1 hr
    rw [hn]; exact h.num x hx
  · obtain ⟨x, hx, rfl⟩ := List.mem_map.1 hr
    exact hok x hx
  · obtain ⟨r, hr, h1, h2⟩ := hfly n hn'
    exact ⟨f r, List.mem_map_of_mem hr, by rw [hn]; exact h1, h2⟩
  · obtain ⟨x, hx, rfl⟩ := List.mem_map.1 hr
    rw [hn]; exact hairs x hx ha
  · obtain ⟨x, hx, rfl⟩ := List.mem_map.1 hr
    obtain ⟨y, hy, rfl⟩ := List.mem_map.1 ho
    refine blocks_eq (hn y) (hp y) (hw y) (hn x) (hp x) (hw x) (hl y hy) ?_
    rcases hfree x hx ha with h1 | h1
    · exact h.free x hx h1 y hy
    · exact h1 y hy
/-- Requests that are not under way are dropped. -/
theorem RsOk.filter {last : Int} {rs : List Req} {air : List Int} (h : RsOk last rs air) (p : Req → Bool) (hp : ∀ r ∈ rs, r.inAir = true → p r = true) : RsOk last (rs.filter p) air :=
  ⟨h.nums.filter _, fun r hr => h.num r (List.mem_filter.1 hr).1, fun r hr => h.ok r (List.mem_filter.1 hr).1, h.nodup, fun n hn => by
    obtain ⟨r, hr, h1, h2⟩ := h.fly n hn
    exact ⟨r, List.mem_filter.2 ⟨hr, hp r hr h2⟩, h1, h2⟩, fun r hr => h.airs r (List.mem_filter.1 hr).1, fun r hr ha o ho => h.free r (List.mem_filter.1 hr).1 ha o (List.mem_filter.1 ho).1⟩
theorem RsOk.add {last : Int} {rs : List Req} {air : List Int} (h : RsOk last rs air) (hl : 0 ≤ last) (w : Bool) (p : Int) (hp : 0 ≤ p ∧ p < 16) (d : B4) (hd : BOk d) : RsOk (last + 1) (rs ++ [newReq (last + 1) w p d]) air := by
  refine ⟨?_, fun r hr => ?_, fun r hr => ?_, h.nodup, fun n hn => ?_, fun r hr ha => ?_, fun r hr ha o ho => ?_⟩
  · rw [List.pairwise_append]
    refine ⟨h.nums, by simp, fun a ha b hb => ?_⟩
    have := h.num a ha
    rw [List.mem_singleton.1 hb]; show a.num < last + 1; omega
  · rcases List.mem_append.1 hr with hr | hr
    · have := h.num r hr; omega
    · rw [List.mem_singleton.1 hr]; show 1 ≤ last + 1 ∧ last + 1 ≤ last + 1; omega
  · rcases List.mem_append.1 hr with hr | hr
    · exact h.ok r hr
    · rw [List.mem_singleton.1 hr]
      exact ⟨hp, by simp [newReq], by simp [newReq], by simp [newReq], by simp [newReq], by simp [newReq], by simp [newReq], hd⟩
  · obtain ⟨r, hr, h1, h2⟩ := h.fly n hn
    exact ⟨r, List.mem_append_left _ hr, h1, h2⟩
  · rcases List.mem_append.1 hr with hr | hr
    · exact h.airs r hr ha
    · rw [List.mem_singleton.1 hr] at ha; simp [newReq] at ha
  · rcases List.mem_append.1 hr with hr | hr
    · rcases List.mem_append.1 ho with ho | ho
      · exact h.free r hr ha o ho
      · rw [List.mem_singleton.1 ho]
        have := h.num r hr
        have h2 : ¬ (last + 1 < r.num) := by omega
        simp [Req.blocks, newReq, h2]
    · rw [List.mem_singleton.1 hr] at ha; simp [newReq] at ha

/-! ### the calls -/
theorem ok_new {d : Nat} (h : 1 ≤ d ∧ d ≤ 4) : (St.new d).Ok :=
  ⟨⟨h, by simp [St.new], by simp [St.new], fun b hb => by simp [St.new] at hb; omega, by simp [St.new], by simp [St.new], ⟨by simp [St.new], by simp [St.new], by simp [St.new], by simp [St.new], by simp [St.new], by simp [St.new], by simp [St.new]⟩, by simp [St.new], by simp [St.new]⟩, by simp [St.new], by simp [St.new]⟩
theorem CmdOk.mono {rs rs' : List Req} {c : Cmd} (h : CmdOk rs c) (hr : ∀ r ∈ rs, r.num ∈ c.nums → ∃ r' ∈ rs', r'.num = r.num ∧ r'.write = r.write ∧ r'.page = r.page) : CmdOk rs' c := by
  refine ⟨h.count, h.page, h.len, h.wlen, fun n hn => ?_, fun p h1 h2 => ?_⟩
  · obtain ⟨r, hm, e1, e2, e3, e4⟩ := h.ins n hn
    obtain ⟨r', hm', f1, f2, f3⟩ := hr r hm (e1 ▸ hn)
    exact ⟨r', hm', by omega, f2.trans e2, by omega, by omega⟩
  · obtain ⟨r, hm, e1, e2⟩ := h.all p h1 h2
    obtain ⟨r', hm', f1, f2, f3⟩ := hr r hm e1
    exact ⟨r', hm', f1 ▸ e1, by omega⟩
theorem CmdOk.air {t : St} (h : t.Ok) {c : Cmd} (hc : c ∈ t.cs) {n : Int} (hn : n ∈ c.nums) : ∃ r ∈ t.rs, r.num = n ∧ r.inAir = true :=
  h.a.rs.fly n (List.mem_flatMap.2 ⟨c, hc, hn⟩)
theorem ok_add {t : St} (h : t.Ok) (hh : t.held < 40) (w : Bool) (p : Int) (hp : 0 ≤ p ∧ p < 16) (d : B4) (hd : BOk d) : (t.add w p d).Ok := by
  refine ⟨⟨h.a.depth, h.a.head, h.a.dlen, h.a.dbyte, ?_, h.a.now, h.a.rs.add h.a.last w p hp d hd, ?_, ?_⟩, h.len, fun c hc => (h.cmds c hc).mono fun r hr _ => ⟨r, List.mem_append_left _ hr, rfl, rfl, rfl⟩⟩
  · have := h.a.last; simp only [St.add]; omega
  · have := h.a.held
    simp only [St.add, List.filter_append, List.length_append]
    simp [newReq]; omega
  · simp only [St.add]; omega
theorem ok_tick {t : St} (h : t.Ok) : t.tick.Ok :=
  ⟨⟨h.a.depth, h.a.head, h.a.dlen, h.a.dbyte, h.a.last, by have := h.a.now; simp only [St.tick]; omega, h.a.rs, h.a.held, h.a.h40⟩, h.len, h.cmds⟩
theorem find_some {t : St} {n : Int} {r : Req} (h : t.find n = some r) : r ∈ t.rs ∧ r.num = n ∧ r.told = false := by
  have h1 := List.find?_some h
  have h2 := List.mem_of_find?_eq_some h
  simp at h1
  exact ⟨h2, h1.1, h1.2⟩
theorem filter_len_map {rs : List Req} (f : Req → Req) (p : Req → Bool) (hp : ∀ r ∈ rs, p (f r) = p r) : ((rs.map f).filter p).length = (rs.filter p).length := by
  rw [List.filter_map, List.length_map]
  congr 1
  exact List.filter_congr fun r hr => hp r hr
theorem ok_give {t : St} (h : t.Ok) {n : Int} {r : Req} (hf : t.find n = some r) : (t.give n).Ok := by
  obtain ⟨hr, hn, ht⟩ := find_some hf
  have key : ∀ x ∈ t.rs, x.num = n → x = r := fun x hx hxn => rnum_inj h.a.rs.nums hx hr (by omega)
  have hair : ∀ x : Req, (if x.num = n then St.giveR x else x).inAir = x.inAir := fun x => by split <;> rfl
  refine ⟨⟨h.a.depth, h.a.head, h.a.dlen, h.a.dbyte, h.a.last, h.a.now, h.a.rs.map _ (fun x => by split <;> rfl) (fun x => by split <;> rfl) (fun x => by split <;> rfl) (fun x hx => ?_) (fun x hx => ?_) h.a.rs.nodup (fun m hm => ?_) (fun x hx ha => ?_) (fun x hx ha => ?_), ?_, h.a.h40⟩, h.len, fun c hc => (h.cmds c hc).mono fun x hx _ => ⟨_, List.mem_map_of_mem hx, ?_⟩⟩
  · have ho := h.a.rs.ok x hx
    split
    · rename_i hxn
      have hxr := key x hx hxn
      exact ⟨ho.page, by simp [St.giveR], ho.tries, fun hl => ho.try3 (by simp [Req.live, St.giveR] at hl; simp [Req.live, hl]), fun _ => .inr rfl, by simp [St.giveR], fun h => by rw [hxr] at h; simp [St.giveR, ht] at h, ho.byte⟩
    · exact ho
  · split
    · intro hl
      simp [Req.live, St.giveR] at hl
      simp [Req.live, hl]
    · exact id
  · obtain ⟨x, hx, h1, h2⟩ := h.a.rs.fly m hm
    exact ⟨x, hx, h1, by rw [hair]; exact h2⟩
  · rw [hair] at ha; exact h.a.rs.airs x hx ha
  · rw [hair] at ha; exact .inl ha
  · show t.held = _
    rw [h.a.held]
    simp only [St.give]
    rw [filter_len_map]
    intro x _
    split <;> rfl
  · refine ⟨?_, ?_, ?_⟩ <;> (split <;> rfl)
theorem filter_split {rs : List Req} (h : rs.Pairwise (·.num < ·.num)) {r : Req} (hr : r ∈ rs) : ∃ l1 l2, rs = l1 ++ r :: l2 ∧ (∀ x ∈ l1, x.num ≠ r.num) ∧ (∀ x ∈ l2, x.num ≠ r.num) := by
  obtain ⟨l1, l2, rfl⟩ := List.append_of_mem hr
  rw [List.pairwise_append, List.pairwise_cons] at h
  exact ⟨l1, l2, rfl, fun x hx => by have := h.2.2 x hx r (by simp); omega, fun x hx => by have := h.2.1.1 x hx; omega⟩
theorem map_split {l1 l2 : List Req} {r : Req} (f : Req → Req) (h1 : ∀ x ∈ l1, x.num ≠ r.num) (h2 : ∀ x ∈ l2, x.num ≠ r.num) : ((l1 ++ r :: l2).map fun x => if x.num = r.num then f x else x) = l1 ++ f r :: l2 := by
  have g : ∀ l : List Req, (∀ x ∈ l, x.num ≠ r.num) → (l.map fun x => if x.num = r.num then f x else x) = l := fun l hl => by
    conv => rhs; rw [← List.map_id l]
    exact List.map_congr_left fun x hx => if_neg (hl x hx)
  rw [List.map_append, List.map_cons, g l1 h1, g l2 h2, if_pos rfl]
theorem drop_split {l1 l2 : List Req} {r : Req} (hn : ∀ x ∈ l1, x.num ≠ r.num) (hn2 : ∀ x ∈ l2, x.num ≠ r.num) (y : Req) (hy : y.num = r.num) : ((l1 ++ y :: l2).filter fun x => !(x.num == r.num && (x.told && !x.inAir))) = if y.told && !y.inAir then l1 ++ l2 else l1 ++ y :: l2 := by
  have g : ∀ l : List Req, (∀ x ∈ l, x.num ≠ r.num) → (l.filter fun x => !(x.num == r.num && (x.told && !x.inAir))) = l := fun l hl => List.filter_eq_self.2 fun x hx => by simp [hl x hx]
  rw [List.filter_append, g l1 hn]
  cases hc : y.told && !y.inAir with
  | true => rw [List.filter_cons_of_neg (by simp [hy, hc]), g l2 hn2]; rfl
  | false => rw [List.filter_cons_of_pos (by simp [hy, hc]), g l2 hn2]; rfl
theorem ok_tell {t : St} (h : t.Ok) {n : Int} {r : Req} (hf : t.find n = some r) (hs : 2 ≤ r.state) : (t.tell n).Ok := by
  obtain ⟨hr, hn, ht⟩ := find_some hf
  have key : ∀ x ∈ t.rs, x.num = n → x = r := fun x hx hxn => rnum_inj h.a.rs.nums hx hr (by omega)
  have hair : ∀ x : Req, (if x.num = n then tellR x else x).inAir = x.inAir := fun x => by split <;> rfl
  -- dropped first, then marked: the same list
  have hro := h.a.rs.ok r hr
  have hcm : ∀ c ∈ t.cs, CmdOk (St.tellRs t.rs n) c := fun c hc => (h.cmds c hc).mono fun x hx hxc => by
    obtain ⟨y, hy, hyn, hya⟩ := CmdOk.air h hc hxc
    have hxy := rnum_inj h.a.rs.nums hy hx hyn
    refine ⟨if x.num = n then tellR x else x, List.mem_filter.2 ⟨List.mem_map_of_mem hx, ?_⟩, ?_⟩
    · have := hair x
      rw [this, ← hxy, hya]; simp
    · refine ⟨?_, ?_, ?_⟩ <;> (split <;> rfl)
  have hheld : t.held - 1 = (((St.tellRs t.rs n).filter fun r => !r.told).length : Int) := by
    rw [h.a.held]
    obtain ⟨l1, l2, e, h1, h2⟩ := filter_split h.a.rs.nums hr
    unfold St.tellRs
    subst hn
    rw [e, map_split tellR h1 h2, drop_split h1 h2 (tellR r) rfl]
    have ha : (tellR r).told = true := rfl
    rw [List.filter_append, List.filter_cons_of_pos (by simp [ht])]
    split
    · simp [List.filter_append]; omega
    · rw [List.filter_append, List.filter_cons_of_neg (by simp [ha])]; simp; omega
  refine ⟨⟨h.a.depth, h.a.head, h.a.dlen, h.a.dbyte, h.a.last, h.a.now, ?_, hheld, by have := h.a.h40; simp only [St.tell]; omega⟩, h.len, hcm⟩
  show RsOk t.last (St.tellRs t.rs n) _
  by_cases ha : r.inAir = true
  · have hst : r.state = 4 := by rcases hro.air ha with h1 | h1 <;> omega
    refine RsOk.filter (h.a.rs.map _ (fun x => by split <;> rfl) (fun x => by split <;> rfl) (fun x => by split <;> rfl) (fun x hx => ?_) (fun x hx => ?_) h.a.rs.nodup (fun m hm => ?_) (fun x hx ha => ?_) (fun x hx ha => ?_)) _ ?_
    · have ho := h.a.rs.ok x hx
      split
      · rename_i hxn
        have hxr := key x hx hxn
        subst hxr
        exact ⟨ho.page, ho.st, ho.tries, ho.try3, ho.air, ho.uair, fun _ => ⟨hst, ha⟩, ho.byte⟩
      · exact ho
    · split <;> exact id
    · obtain ⟨x, hx, h1, h2⟩ := h.a.rs.fly m hm
      exact ⟨x, hx, h1, by rw [hair]; exact h2⟩
    · rw [hair] at ha; exact h.a.rs.airs x hx ha
    · rw [hair] at ha; exact .inl ha
    · intro x _ hxa
      simp [hxa]
  · have ha' : r.inAir = false := by simpa using ha
    have he : St.tellRs t.rs n = t.rs.filter fun x => x.num != n := by
      obtain ⟨l1, l2, e, h1, h2⟩ := filter_split h.a.rs.nums hr
      unfold St.tellRs
      subst hn
      have g : ∀ l : List Req, (∀ x ∈ l, x.num ≠ r.num) → (l.filter fun x => x.num != r.num) = l := fun l hl => List.filter_eq_self.2 fun x hx => by simpa using hl x hx
      rw [e, map_split tellR h1 h2, drop_split h1 h2 (tellR r) rfl, List.filter_append, g l1 h1, List.filter_cons_of_neg (by simp), g l2 h2]
      simp [tellR, ha']
    rw [he]
    refine h.a.rs.filter _ fun x hx hxa => ?_
    simp only [bne_iff_ne, ne_eq]
    intro hxn
    have := key x hx hxn
    subst this
    exact ha hxa
end Go.Proofs.YticobikhndlejaaDoor
