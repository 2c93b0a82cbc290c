/- Disk by contract. -/
import Derived.Test.YticobikhndlejaaGreatDoorGxH
import Derived.Test.YticobikhndlejaaGreatDoorGxB
namespace Go.Proofs.YticobikhndlejaaGreatDoor
open Go.RowKit Go.Shelf Go.Lib

theorem take4 {α : Type} (l : List α) (d : α) (hl : l.length = 64) {j : Nat} (hj : j < 16) : l.take (4 * (j + 1)) = l.take (4 * j) ++ [l.getD (4 * j) d, l.getD (4 * j + 1) d, l.getD (4 * j + 2) d, l.getD (4 * j + 3) d] := by
  have g : ∀ k, k < 64 → l[k]? = some (l.getD k d) := fun k hk => by
    rw [List.getD_eq_getElem?_getD, List.getElem?_eq_getElem (show k < l.length by omega)]; rfl
  have e : ∀ k (hk : k < l.length), l[k] = l.getD k d := fun k hk => by
    have := g k (by omega)
    rw [List.getElem?_eq_getElem hk] at this
    exact Option.some.inj this
  rw [show 4 * (j + 1) = 4 * j + 1 + 1 + 1 + 1 from by omega, List.take_succ_eq_append_getElem (by omega), List.take_succ_eq_append_getElem (by omega), List.take_succ_eq_append_getElem (by omega), List.take_succ_eq_append_getElem (by omega)]
  rw [e, e, e, e]
  simp [List.append_assoc]

set_option maxRecDepth 100000 in
theorem disk_any (q : Nat) (s : Sta) (F : Nat → Prop) (w : World) (h : QAt w q s F) :
    Calls Tryz.prog 23 #[ptr q] w fun x w' => ∃ v, x = .returned v ∧ w'.ownsRow w.heap.size 5 1 v 64 (s.disk.map fun b => Value.int .u8 b) ∧ Below w.heap.size w w' := by
  obtain ⟨tb, mb, clock, fv, hq, hF⟩ := h
  obtain ⟨l, hl⟩ : ∃ l, (s.disk.map fun b => Value.int .u8 b) = l := ⟨_, rfl⟩
  have hll : l.length = 64 := by rw [← hl, List.length_map]; exact hq.disk
  have hcell : ∀ j v, l.toArray.toList[j]? = some v → w.cell? ⟨q, 5 + j, none⟩ = some v := fun j v hv => hq.disk_cell j v (by rw [hl]; simpa using hv)
  obtain ⟨i0, hi, hz0, hz1, hz2⟩ := info_parts Tryz.infoB
  rw [hl]
  have hx : ∀ k, k < 64 → ∃ x, l.getD k undef = .int .u8 x := fun k hk => by
    rw [← hl, List.getD_eq_getElem?_getD, List.getElem?_map, List.getElem?_eq_getElem (show k < s.disk.length by rw [hq.disk]; exact hk)]
    exact ⟨_, rfl⟩
  have HX := Lib.hid hx
  have HL := Lib.hid hll
  have HC := Lib.hid hcell
  clear hq hF hll hl hcell hx
  go_enter Tryz.func23, Tryz.ntmps23
  go_wp2_with (refine wpList_load_at rfl 87 _ rfl q 5 rfl l.toArray _ HC.out Tryz.underlying87 rfl (by simp only [List.size_toArray, HL.out]; kernel_rfl) ?_)
  go_loopg [3, 10] 16 (fun k out i wr => ∃ j : Nat, k = 16 - j ∧ j ≤ 16 ∧ i = .int .i64 j ∧ wr.ownsRow w.heap.size 5 1 out (4 * j) (l.take (4 * j)) ∧ Below w.heap.size w wr)
  case atStart => exact ⟨0, by simp, by omega, rfl, World.ownsRow_nil _ _ _ _, Below.refl _ _⟩
  case round =>
    obtain ⟨j, rfl, hj, rfl, hrow, hB⟩ := hrel
    by_cases hlt : j < 16
    · have hix := index_disk l HL.out j hlt
      have hT := take4 l undef HL.out hlt
      obtain ⟨b0, hb0⟩ := HX.out (4 * j) (by omega)
      obtain ⟨b1, hb1⟩ := HX.out (4 * j + 1) (by omega)
      obtain ⟨b2, hb2⟩ := HX.out (4 * j + 2) (by omega)
      obtain ⟨b3, hb3⟩ := HX.out (4 * j + 3) (by omega)
      rw [hb0, hb1, hb2, hb3] at hix hT
      have HT := Lib.hid hT
      clear hT
      have hsz := hB.size
      have hltI : (j : Int) < 16 := by omega
      obtain ⟨W0, hW0⟩ : ∃ W0, wr.alloc (.cells #[.int .u8 b0, .int .u8 b1, .int .u8 b2, .int .u8 b3] 86) = W0 := ⟨_, rfl⟩
      have hb0' : Below w.heap.size w W0 := by rw [← hW0]; exact hB.alloc hsz _
      have hr0 : W0.heap[wr.heap.size]? = some (.cells #[.int .u8 b0, .int .u8 b1, .int .u8 b2, .int .u8 b3] 86 (0, 0)) := by rw [← hW0]; exact World.alloc_heap_new wr _
      have hrow0 : W0.ownsRow w.heap.size 5 1 u3 (4 * j) (l.take (4 * j)) := by rw [← hW0]; exact hrow.alloc _
      clear hb0 hb1 hb2 hb3 hrow
      have hs0 : W0.heap.size = wr.heap.size + 1 := by rw [← hW0]; simp
      have HN := Lib.hid (World.news_of_block hr0)
      go_wp2_with (at_builtin; refine wpList_append_own _ rfl _ _ 41 rfl w.heap.size 5 i0 (.int .u8 0) 1 1 Tryz.underlying41 hi hz0 hz1 hz2 rfl (by decide) _ _ _ rfl hrow0 ⟨wr.heap.size, 0, none⟩ 4 4 [.int .u8 b0, .int .u8 b1, .int .u8 b2, .int .u8 b3] rfl rfl HN.out (by simp [Value.oneCell']) ?_ ?_ ?_ ?_)
      · unfold maxLen; omega
      · omega
      · omega
      intro v' w2 hown' hgrow _
      have hB2 : Below w.heap.size w w2 := hb0'.grown hgrow (by omega) (fun k ek => (hrow0.lt k ek).1)
      have hown2 : w2.ownsRow w.heap.size 5 1 v' (4 * (j + 1)) (l.take (4 * (j + 1))) := by
        rw [HT.out]; exact hown'
      have HO2 := Lib.hid hown2
      clear hown' hgrow hown2 hrow0
      go_wp2
      go_roundg (16 - (j + 1))
      case measure => omega
      case rel => exact ⟨j + 1, rfl, by omega, by go_num, HO2.out, hB2⟩
    · obtain rfl : j = 16 := by omega
      have HR := Lib.hid hrow
      clear hrow
      go_wp2
      go_ret
      have h1 := HR.out
      rw [show 4 * 16 = l.length from by rw [HL.out], List.take_length, HL.out] at h1
      exact ⟨_, rfl, h1, hB⟩
end Go.Proofs.YticobikhndlejaaGreatDoor

/- WHAT HOLDS OF EVERY QUEUE, and that each call keeps it. Plain Lean. -/
namespace Go.Proofs.YticobikhndlejaaGreatDoor

def BOk (d : B4) : Prop := (0 ≤ d.a ∧ d.a ≤ 255) ∧ (0 ≤ d.b ∧ d.b ≤ 255) ∧ (0 ≤ d.c ∧ d.c ≤ 255) ∧ (0 ≤ d.d ∧ d.d ≤ 255)
def Req.live (r : Req) : Bool := (r.state == 0) || r.inAir
structure ROk (r : Req) : Prop where
  page : 0 ≤ r.page ∧ r.page < 16
  st : 0 ≤ r.state ∧ r.state ≤ 4
  tries : 0 ≤ r.tries ∧ r.tries ≤ 4
  try3 : r.live = true → r.tries ≤ 3
  air : r.inAir = true → r.state = 1 ∨ r.state = 4
  uair : r.state = 1 → r.inAir = true
  told : r.told = true → r.state = 4 ∧ r.inAir = true
  byte : BOk r.data
structure RsOk (last : Int) (rs : List Req) (air : List Int) : Prop where
  nums : rs.Pairwise (·.num < ·.num)
  num : ∀ r ∈ rs, 1 ≤ r.num ∧ r.num ≤ last
  ok : ∀ r ∈ rs, ROk r
  nodup : air.Nodup
  fly : ∀ n ∈ air, ∃ r ∈ rs, r.num = n ∧ r.inAir = true
  airs : ∀ r ∈ rs, r.inAir = true → r.num ∈ air
  free : ∀ r ∈ rs, r.inAir = true → ∀ o ∈ rs, o.blocks r = false
structure St.OkA (t : St) (air : List Int) : Prop where
  depth : 1 ≤ t.depth ∧ t.depth ≤ 4
  head : t.head ≤ 16
  dlen : t.disk.length = 64
  dbyte : ∀ b ∈ t.disk, 0 ≤ b ∧ b ≤ 255
  last : 0 ≤ t.last
  now : 0 ≤ t.now
  rs : RsOk t.last t.rs air
  held : t.held = ((t.rs.filter fun r => !r.told).length : Int)
  h40 : t.held ≤ 40
structure CmdOk (rs : List Req) (c : Cmd) : Prop where
  count : 1 ≤ c.count ∧ c.count ≤ 4
  page : c.page + c.count ≤ 16
  len : c.count ≤ c.nums.length
  wlen : c.write = true → c.nums.length = c.count
  ins : ∀ n ∈ c.nums, ∃ r ∈ rs, r.num = n ∧ r.write = c.write ∧ (c.page : Int) ≤ r.page ∧ r.page < c.page + c.count
  all : ∀ p : Int, (c.page : Int) ≤ p → p < c.page + c.count → ∃ r ∈ rs, r.num ∈ c.nums ∧ r.page = p
structure St.Ok (t : St) : Prop where
  a : t.OkA (t.cs.flatMap (·.nums))
  len : t.cs.length ≤ t.depth
  cmds : ∀ c ∈ t.cs, CmdOk t.rs c

theorem blocks_live {o r : Req} (h : o.blocks r = true) : o.live = true := by
  simp [Req.blocks] at h; simp [Req.live]; exact h.2.2.2
theorem blocks_eq {o r o' r' : Req} (h1 : o'.num = o.num) (h2 : o'.page = o.page) (h3 : o'.write = o.write) (h4 : r'.num = r.num) (h5 : r'.page = r.page) (h6 : r'.write = r.write) (hl : o'.live = true → o.live = true) (h : o.blocks r = false) : o'.blocks r' = false := by
  cases hb : o'.blocks r' with
  | false => rfl
  | true =>
    have hl' := hl (blocks_live hb)
    have : o.blocks r = true := by
      simp [Req.blocks, h1, h2, h3, h4, h5, h6] at hb
      simp [Req.live] at hl'
      simp [Req.blocks, hb, hl']
    rw [this] at h; exact h
theorem rnum_inj {rs : List Req} (h : rs.Pairwise (·.num < ·.num)) {a b : Req} (ha : a ∈ rs) (hb : b ∈ rs) (he : a.num = b.num) : a = b := by
  induction rs with
  | nil => cases ha
  | cons x l ih =>
    rw [List.pairwise_cons] at h
    rcases List.mem_cons.1 ha with e | ha' <;> rcases List.mem_cons.1 hb with e' | hb'
    · rw [e, e']
    · have := h.1 b hb'; rw [e] at he; omega
    · have := h.1 a ha'; rw [e'] at he; omega
    · exact ih h.2 ha' hb'
theorem find_num {rs : List Req} (h : rs.Pairwise (·.num < ·.num)) {r : Req} (hr : r ∈ rs) : (rs.find? fun x => x.num == r.num) = some r := by
  cases hf : rs.find? fun x => x.num == r.num with
  | none => exact absurd (List.find?_eq_none.1 hf r hr) (by simp)
  | some x =>
    have h1 := List.find?_some hf
    have h2 := List.mem_of_find?_eq_some hf
    simp at h1
    rw [rnum_inj h h2 hr h1]
/-- Requests that are turned one by one. -/
theorem RsOk.map {last : Int} {rs : List Req} {air air' : List Int} (h : RsOk last rs air) (f : Req → Req) (hn : ∀ r, (f r).num = r.num) (hp : ∀ r, (f r).page = r.page) (hw : ∀ r, (f r).write = r.write)
    (hok : ∀ r ∈ rs, ROk (f r)) (hl : ∀ r ∈ rs, (f r).live = true → r.live = true) (hnd : air'.Nodup) (hfly : ∀ n ∈ air', ∃ r ∈ rs, r.num = n ∧ (f r).inAir = true) (hairs : ∀ r ∈ rs, (f r).inAir = true → r.num ∈ air')
    (hfree : ∀ r ∈ rs, (f r).inAir = true → r.inAir = true ∨ ∀ o ∈ rs, o.blocks r = false) : RsOk last (rs.map f) air' := by
  refine ⟨List.pairwise_map.2 (h.nums.imp fun {a b} hab => by rw [hn, hn]; exact hab), fun r hr => ?_, fun r hr => ?_, hnd, fun n hn' => ?_, fun r hr ha => ?_, fun r hr ha o ho => ?_⟩
  · obtain ⟨x, hx, rfl⟩ := List.mem_map.1 hr
    rw [hn]; exact h.num x hx
  · obtain ⟨x, hx, rfl⟩ := List.mem_map.1 hr
    exact hok x hx
  · obtain ⟨r, hr, h1, h2⟩ := hfly n hn'
    exact ⟨f r, List.mem_map_of_mem hr, by rw [hn]; exact h1, h2⟩
  · obtain ⟨x, hx, rfl⟩ := List.mem_map.1 hr
    rw [hn]; exact hairs x hx ha
  · obtain ⟨x, hx, rfl⟩ := List.mem_map.1 hr
    obtain ⟨y, hy, rfl⟩ := List.mem_map.1 ho
    refine blocks_eq (hn y) (hp y) (hw y) (hn x) (hp x) (hw x) (hl y hy) ?_
    rcases hfree x hx ha with h1 | h1
    · exact h.free x hx h1 y hy
    · exact h1 y hy
/-- Requests that are not under way are dropped. -/
theorem RsOk.filter {last : Int} {rs : List Req} {air : List Int} (h : RsOk last rs air) (p : Req → Bool) (hp : ∀ r ∈ rs, r.inAir = true → p r = true) : RsOk last (rs.filter p) air :=
  ⟨h.nums.filter _, fun r hr => h.num r (List.mem_filter.1 hr).1, fun r hr => h.ok r (List.mem_filter.1 hr).1, h.nodup, fun n hn => by
    obtain ⟨r, hr, h1, h2⟩ := h.fly n hn
    exact ⟨r, List.mem_filter.2 ⟨hr, hp r hr h2⟩, h1, h2⟩, fun r hr => h.airs r (List.mem_filter.1 hr).1, fun r hr ha o ho => h.free r (List.mem_filter.1 hr).1 ha o (List.mem_filter.1 ho).1⟩
theorem RsOk.add {last : Int} {rs : List Req} {air : List Int} (h : RsOk last rs air) (hl : 0 ≤ last) (w : Bool) (p : Int) (hp : 0 ≤ p ∧ p < 16) (d : B4) (hd : BOk d) : RsOk (last + 1) (rs ++ [newReq (last + 1) w p d]) air := by
  refine ⟨?_, fun r hr => ?_, fun r hr => ?_, h.nodup, fun n hn => ?_, fun r hr ha => ?_, fun r hr ha o ho => ?_⟩
  · rw [List.pairwise_append]
    refine ⟨h.nums, by simp, fun a ha b hb => ?_⟩
    have := h.num a ha
    rw [List.mem_singleton.1 hb]; show a.num < last + 1; omega
  · rcases List.mem_append.1 hr with hr | hr
    · have := h.num r hr; omega
    · rw [List.mem_singleton.1 hr]; show 1 ≤ last + 1 ∧ last + 1 ≤ last + 1; omega
  · rcases List.mem_append.1 hr with hr | hr
    · exact h.ok r hr
    · rw [List.mem_singleton.1 hr]
      exact ⟨hp, by simp [newReq], by simp [newReq], by simp [newReq], by simp [newReq], by simp [newReq], by simp [newReq], hd⟩
  · obtain ⟨r, hr, h1, h2⟩ := h.fly n hn
    exact ⟨r, List.mem_append_left _ hr, h1, h2⟩
  · rcases List.mem_append.1 hr with hr | hr
    · exact h.airs r hr ha
    · rw [List.mem_singleton.1 hr] at ha; simp [newReq] at ha
  · rcases List.mem_append.1 hr with hr | hr
    · rcases List.mem_append.1 ho with ho | ho
      · exact h.free r hr ha o ho
      · rw [List.mem_singleton.1 ho]
        have := h.num r hr
        have h2 : ¬ (last + 1 < r.num) := by omega
        simp [Req.blocks, newReq, h2]
    · rw [List.mem_singleton.1 hr] at ha; simp [newReq] at ha

/-! ### the calls -/
theorem ok_new {d : Nat} (h : 1 ≤ d ∧ d ≤ 4) : (St.new d).Ok :=
  ⟨⟨h, by simp [St.new], by simp [St.new], fun b hb => by simp [St.new] at hb; omega, by simp [St.new], by simp [St.new], ⟨by simp [St.new], by simp [St.new], by simp [St.new], by simp [St.new], by simp [St.new], by simp [St.new], by simp [St.new]⟩, by simp [St.new], by simp [St.new]⟩, by simp [St.new], by simp [St.new]⟩
theorem CmdOk.mono {rs rs' : List Req} {c : Cmd} (h : CmdOk rs c) (hr : ∀ r ∈ rs, r.num ∈ c.nums → ∃ r' ∈ rs', r'.num = r.num ∧ r'.write = r.write ∧ r'.page = r.page) : CmdOk rs' c := by
  refine ⟨h.count, h.page, h.len, h.wlen, fun n hn => ?_, fun p h1 h2 => ?_⟩
  · obtain ⟨r, hm, e1, e2, e3, e4⟩ := h.ins n hn
    obtain ⟨r', hm', f1, f2, f3⟩ := hr r hm (e1 ▸ hn)
    exact ⟨r', hm', by omega, f2.trans e2, by omega, by omega⟩
  · obtain ⟨r, hm, e1, e2⟩ := h.all p h1 h2
    obtain ⟨r', hm', f1, f2, f3⟩ := hr r hm e1
    exact ⟨r', hm', f1 ▸ e1, by omega⟩
theorem CmdOk.air {t : St} (h : t.Ok) {c : Cmd} (hc : c ∈ t.cs) {n : Int} (hn : n ∈ c.nums) : ∃ r ∈ t.rs, r.num = n ∧ r.inAir = true :=
  h.a.rs.fly n (List.mem_flatMap.2 ⟨c, hc, hn⟩)
theorem ok_add {t : St} (h : t.Ok) (hh : t.held < 40) (w : Bool) (p : Int) (hp : 0 ≤ p ∧ p < 16) (d : B4) (hd : BOk d) : (t.add w p d).Ok := by
  refine ⟨⟨h.a.depth, h.a.head, h.a.dlen, h.a.dbyte, ?_, h.a.now, h.a.rs.add h.a.last w p hp d hd, ?_, ?_⟩, h.len, fun c hc => (h.cmds c hc).mono fun r hr _ => ⟨r, List.mem_append_left _ hr, rfl, rfl, rfl⟩⟩
  · have := h.a.last; simp only [St.add]; omega
  · have := h.a.held
    simp only [St.add, List.filter_append, List.length_append]
    simp [newReq]; omega
  · simp only [St.add]; omega
theorem ok_tick {t : St} (h : t.Ok) : t.tick.Ok :=
  ⟨⟨h.a.depth, h.a.head, h.a.dlen, h.a.dbyte, h.a.last, by have := h.a.now; simp only [St.tick]; omega, h.a.rs, h.a.held, h.a.h40⟩, h.len, h.cmds⟩
theorem find_some {t : St} {n : Int} {r : Req} (h : t.find n = some r) : r ∈ t.rs ∧ r.num = n ∧ r.told = false := by
  have h1 := List.find?_some h
  have h2 := List.mem_of_find?_eq_some h
  simp at h1
  exact ⟨h2, h1.1, h1.2⟩
theorem filter_len_map {rs : List Req} (f : Req → Req) (p : Req → Bool) (hp : ∀ r ∈ rs, p (f r) = p r) : ((rs.map f).filter p).length = (rs.filter p).length := by
  rw [List.filter_map, List.length_map]
  congr 1
  exact List.filter_congr fun r hr => hp r hr
theorem ok_give {t : St} (h : t.Ok) {n : Int} {r : Req} (hf : t.find n = some r) : (t.give n).Ok := by
  obtain ⟨hr, hn, ht⟩ := find_some hf
  have key : ∀ x ∈ t.rs, x.num = n → x = r := fun x hx hxn => rnum_inj h.a.rs.nums hx hr (by omega)
  have hair : ∀ x : Req, (if x.num = n then St.giveR x else x).inAir = x.inAir := fun x => by split <;> rfl
  refine ⟨⟨h.a.depth, h.a.head, h.a.dlen, h.a.dbyte, h.a.last, h.a.now, h.a.rs.map _ (fun x => by split <;> rfl) (fun x => by split <;> rfl) (fun x => by split <;> rfl) (fun x hx => ?_) (fun x hx => ?_) h.a.rs.nodup (fun m hm => ?_) (fun x hx ha => ?_) (fun x hx ha => ?_), ?_, h.a.h40⟩, h.len, fun c hc => (h.cmds c hc).mono fun x hx _ => ⟨_, List.mem_map_of_mem hx, ?_⟩⟩
  · have ho := h.a.rs.ok x hx
    split
    · rename_i hxn
      have hxr := key x hx hxn
      exact ⟨ho.page, by simp [St.giveR], ho.tries, fun hl => ho.try3 (by simp [Req.live, St.giveR] at hl; simp [Req.live, hl]), fun _ => .inr rfl, by simp [St.giveR], fun h => by rw [hxr] at h; simp [St.giveR, ht] at h, ho.byte⟩
    · exact ho
  · split
    · intro hl
      simp [Req.live, St.giveR] at hl
      simp [Req.live, hl]
    · exact id
  · obtain ⟨x, hx, h1, h2⟩ := h.a.rs.fly m hm
    exact ⟨x, hx, h1, by rw [hair]; exact h2⟩
  · rw [hair] at ha; exact h.a.rs.airs x hx ha
  · rw [hair] at ha; exact .inl ha
  · show t.held = _
    rw [h.a.held]
    simp only [St.give]
    rw [filter_len_map]
    intro x _
    split <;> rfl
  · refine ⟨?_, ?_, ?_⟩ <;> (split <;> rfl)
theorem filter_split {rs : List Req} (h : rs.Pairwise (·.num < ·.num)) {r : Req} (hr : r ∈ rs) : ∃ l1 l2, rs = l1 ++ r :: l2 ∧ (∀ x ∈ l1, x.num ≠ r.num) ∧ (∀ x ∈ l2, x.num ≠ r.num) := by
  obtain ⟨l1, l2, rfl⟩ := List.append_of_mem hr
  rw [List.pairwise_append, List.pairwise_cons] at h
  exact ⟨l1, l2, rfl, fun x hx => by have := h.2.2 x hx r (by simp); omega, fun x hx => by have := h.2.1.1 x hx; omega⟩
theorem map_split {l1 l2 : List Req} {r : Req} (f : Req → Req) (h1 : ∀ x ∈ l1, x.num ≠ r.num) (h2 : ∀ x ∈ l2, x.num ≠ r.num) : ((l1 ++ r :: l2).map fun x => if x.num = r.num then f x else x) = l1 ++ f r :: l2 := by
  have g : ∀ l : List Req, (∀ x ∈ l, x.num ≠ r.num) → (l.map fun x => if x.num = r.num then f x else x) = l := fun l hl => by
    conv => rhs; rw [← List.map_id l]
    exact List.map_congr_left fun x hx => if_neg (hl x hx)
  rw [List.map_append, List.map_cons, g l1 h1, g l2 h2, if_pos rfl]
theorem drop_split {l1 l2 : List Req} {r : Req} (hn : ∀ x ∈ l1, x.num ≠ r.num) (hn2 : ∀ x ∈ l2, x.num ≠ r.num) (y : Req) (hy : y.num = r.num) : ((l1 ++ y :: l2).filter fun x => !(x.num == r.num && (x.told && !x.inAir))) = if y.told && !y.inAir then l1 ++ l2 else l1 ++ y :: l2 := by
  have g : ∀ l : List Req, (∀ x ∈ l, x.num ≠ r.num) → (l.filter fun x => !(x.num == r.num && (x.told && !x.inAir))) = l := fun l hl => List.filter_eq_self.2 fun x hx => by simp [hl x hx]
  rw [List.filter_append, g l1 hn]
  cases hc : y.told && !y.inAir with
  | true => rw [List.filter_cons_of_neg (by simp [hy, hc]), g l2 hn2]; rfl
  | false => rw [List.filter_cons_of_pos (by simp [hy, hc]), g l2 hn2]; rfl
theorem ok_tell {t : St} (h : t.Ok) {n : Int} {r : Req} (hf : t.find n = some r) (hs : 2 ≤ r.state) : (t.tell n).Ok := by
  obtain ⟨hr, hn, ht⟩ := find_some hf
  have key : ∀ x ∈ t.rs, x.num = n → x = r := fun x hx hxn => rnum_inj h.a.rs.nums hx hr (by omega)
  have hair : ∀ x : Req, (if x.num = n then tellR x else x).inAir = x.inAir := fun x => by split <;> rfl
  -- dropped first, then marked: the same list
  have hro := h.a.rs.ok r hr
  have hcm : ∀ c ∈ t.cs, CmdOk (St.tellRs t.rs n) c := fun c hc => (h.cmds c hc).mono fun x hx hxc => by
    obtain ⟨y, hy, hyn, hya⟩ := CmdOk.air h hc hxc
    have hxy := rnum_inj h.a.rs.nums hy hx hyn
    refine ⟨if x.num = n then tellR x else x, List.mem_filter.2 ⟨List.mem_map_of_mem hx, ?_⟩, ?_⟩
    · have := hair x
      rw [this, ← hxy, hya]; simp
    · refine ⟨?_, ?_, ?_⟩ <;> (split <;> rfl)
  have hheld : t.held - 1 = (((St.tellRs t.rs n).filter fun r => !r.told).length : Int) := by
    rw [h.a.held]
    obtain ⟨l1, l2, e, h1, h2⟩ := filter_split h.a.rs.nums hr
    unfold St.tellRs
    subst hn
    rw [e, map_split tellR h1 h2, drop_split h1 h2 (tellR r) rfl]
    have ha : (tellR r).told = true := rfl
    rw [List.filter_append, List.filter_cons_of_pos (by simp [ht])]
    split
    · simp [List.filter_append]; omega
    · rw [List.filter_append, List.filter_cons_of_neg (by simp [ha])]; simp; omega
  refine ⟨⟨h.a.depth, h.a.head, h.a.dlen, h.a.dbyte, h.a.last, h.a.now, ?_, hheld, by have := h.a.h40; simp only [St.tell]; omega⟩, h.len, hcm⟩
  show RsOk t.last (St.tellRs t.rs n) _
  by_cases ha : r.inAir = true
  · have hst : r.state = 4 := by rcases hro.air ha with h1 | h1 <;> omega
    refine RsOk.filter (h.a.rs.map _ (fun x => by split <;> rfl) (fun x => by split <;> rfl) (fun x => by split <;> rfl) (fun x hx => ?_) (fun x hx => ?_) h.a.rs.nodup (fun m hm => ?_) (fun x hx ha => ?_) (fun x hx ha => ?_)) _ ?_
    · have ho := h.a.rs.ok x hx
      split
      · rename_i hxn
        have hxr := key x hx hxn
        subst hxr
        exact ⟨ho.page, ho.st, ho.tries, ho.try3, ho.air, ho.uair, fun _ => ⟨hst, ha⟩, ho.byte⟩
      · exact ho
    · split <;> exact id
    · obtain ⟨x, hx, h1, h2⟩ := h.a.rs.fly m hm
      exact ⟨x, hx, h1, by rw [hair]; exact h2⟩
    · rw [hair] at ha; exact h.a.rs.airs x hx ha
    · rw [hair] at ha; exact .inl ha
    · intro x _ hxa
      simp [hxa]
  · have ha' : r.inAir = false := by simpa using ha
    have he : St.tellRs t.rs n = t.rs.filter fun x => x.num != n := by
      obtain ⟨l1, l2, e, h1, h2⟩ := filter_split h.a.rs.nums hr
      unfold St.tellRs
      subst hn
      have g : ∀ l : List Req, (∀ x ∈ l, x.num ≠ r.num) → (l.filter fun x => x.num != r.num) = l := fun l hl => List.filter_eq_self.2 fun x hx => by simpa using hl x hx
      rw [e, map_split tellR h1 h2, drop_split h1 h2 (tellR r) rfl, List.filter_append, g l1 h1, List.filter_cons_of_neg (by simp), g l2 h2]
      simp [tellR, ha']
    rw [he]
    refine h.a.rs.filter _ fun x hx hxa => ?_
    simp only [bne_iff_ne, ne_eq]
    intro hxn
    have := key x hx hxn
    subst this
    exact ha hxa
end Go.Proofs.YticobikhndlejaaGreatDoor

/- The next command: what it is made of; that sending it, and landing it, keep what holds of every queue. -/
namespace Go.Proofs.YticobikhndlejaaGreatDoor

theorem mem_byPageR {l : List Req} {r : Req} : r ∈ byPageR l ↔ r ∈ l ∧ 0 ≤ r.page ∧ r.page < 16 := by
  unfold byPageR
  simp only [List.mem_flatMap, List.mem_range, List.mem_filter, beq_iff_eq]
  constructor
  · rintro ⟨p, hp, hr, he⟩; exact ⟨hr, by omega, by omega⟩
  · rintro ⟨hr, h1, h2⟩; exact ⟨r.page.toNat, by omega, hr, by omega⟩
theorem byPageR_nodup {l : List Req} (h : l.Nodup) : (byPageR l).Nodup := by
  unfold byPageR List.Nodup
  refine List.pairwise_flatMap.2 ⟨fun p _ => h.filter _, (List.pairwise_lt_range (n := 16)).imp fun {p q} hpq x hx y hy e => ?_⟩
  have h2 := (List.mem_filter.1 hx).2
  have h3 := (List.mem_filter.1 hy).2
  subst e
  simp at h2 h3; omega
theorem nodup_of_nums {l : List Req} (h : l.Pairwise (·.num < ·.num)) : l.Nodup := h.imp fun hlt e => by subst e; omega
/-- It is ready: it waits, its time has come, nothing is in its way. -/
theorem mem_readyR {now : Int} {l : List Req} {r : Req} (h : r ∈ readyR now l) : r ∈ l ∧ r.state = 0 ∧ r.after ≤ now ∧ ∀ o ∈ l, o.blocks r = false := by
  have h1 := List.mem_filter.1 h
  have h2 := (mem_byPageR.1 h1.1).1
  have h3 := h1.2
  simp only [isReadyR, Bool.and_eq_true, beq_iff_eq, decide_eq_true_eq, Bool.not_eq_true'] at h3
  refine ⟨h2, h3.1, h3.2.1, fun o ho => ?_⟩
  have := List.any_eq_false.1 h3.2.2 o ho
  simpa using this
theorem ready_mem {now : Int} {l : List Req} {r : Req} (hr : r ∈ l) (hp : 0 ≤ r.page ∧ r.page < 16) (h0 : r.state = 0) (ha : r.after ≤ now) (hb : ∀ o ∈ l, o.blocks r = false) : r ∈ readyR now l := by
  refine List.mem_filter.2 ⟨mem_byPageR.2 ⟨hr, hp⟩, ?_⟩
  have h1 : (l.any fun o => o.blocks r) = false := List.any_eq_false.2 fun o ho => by simp [hb o ho]
  simp [isReadyR, h0, ha, h1]
theorem wrapAt_lt16 {head i : Nat} (h : head ≤ 16) (hi : i < 16) : wrapAt head i < 16 := by unfold wrapAt; split <;> omega
theorem beginE_spec {ne : Nat → Bool} {head p : Nat} (hh : head ≤ 16) (h : beginE ne head = some p) : p < 16 ∧ ne p = true := by
  unfold beginE at h
  have h1 := List.find?_some h
  have h2 := List.mem_of_find?_eq_some h
  obtain ⟨i, hi, rfl⟩ := List.mem_map.1 h2
  exact ⟨wrapAt_lt16 hh (List.mem_range.1 hi), h1⟩
/-- It is the first one from head on, else the first of all. -/
theorem beginE_first {ne : Nat → Bool} {head p : Nat} (hh : head ≤ 16) (h : beginE ne head = some p) : (head ≤ p ∧ ∀ k, head ≤ k → k < p → ne k = false) ∨ (p < head ∧ (∀ k, k < p → ne k = false) ∧ ∀ k, head ≤ k → k < 16 → ne k = false) := by
  unfold beginE at h
  rw [List.find?_eq_some_iff_append] at h
  obtain ⟨h1, la, lb, h2, h3⟩ := h
  have hlen : la.length < 16 := by
    have := congrArg List.length h2; simp at this; omega
  have hp : wrapAt head la.length = p := by
    have := congrArg (fun l => l[la.length]?) h2
    simp [hlen] at this
    exact this
  have hk : ∀ i, i < la.length → ne (wrapAt head i) = false := fun i hi => by
    have := congrArg (fun l => l[i]?) h2
    simp [List.getElem?_append, hi, show i < 16 by omega] at this
    have := h3 (wrapAt head i) (by rw [this]; exact List.getElem_mem hi)
    simpa using this
  by_cases hc : 16 ≤ head + la.length
  · right
    have hp' : p = head + la.length - 16 := by rw [← hp]; unfold wrapAt; rw [if_pos hc]
    refine ⟨by omega, fun k hkp => ?_, fun k hk1 hk2 => ?_⟩
    · have := hk (k + 16 - head) (by omega)
      unfold wrapAt at this
      rw [if_pos (by omega), show head + (k + 16 - head) - 16 = k from by omega] at this
      exact this
    · have := hk (k - head) (by omega)
      unfold wrapAt at this
      rw [if_neg (by omega), show head + (k - head) = k from by omega] at this
      exact this
  · left
    have hp' : p = head + la.length := by rw [← hp]; unfold wrapAt; rw [if_neg hc]
    refine ⟨by omega, fun k hk1 hk2 => ?_⟩
    have := hk (k - head) (by omega)
    unfold wrapAt at this
    rw [if_neg (by omega), show head + (k - head) = k from by omega] at this
    exact this
theorem beginE_no {ne : Nat → Bool} {head : Nat} (hh : head ≤ 16) (h : beginE ne head = none) (k : Nat) (hk : k < 16) : ne k = false := by
  unfold beginE at h
  rw [List.find?_eq_none] at h
  by_cases hc : head ≤ k
  · have := h (wrapAt head (k - head)) (List.mem_map_of_mem (List.mem_range.2 (by omega)))
    unfold wrapAt at this
    rw [if_neg (by omega), show head + (k - head) = k from by omega] at this
    simpa using this
  · have := h (wrapAt head (k + 16 - head)) (List.mem_map_of_mem (List.mem_range.2 (by omega)))
    unfold wrapAt at this
    rw [if_pos (by omega), show head + (k + 16 - head) - 16 = k from by omega] at this
    simpa using this
theorem takeWhile_stop (q : Nat → Bool) : ∀ m, ((List.range m).takeWhile q).length < m → q ((List.range m).takeWhile q).length = false
  | 0, h => by simp at h
  | m + 1, h => by
    rw [List.range_succ, List.takeWhile_append] at h ⊢
    split at h
    · rename_i hc
      rw [if_pos hc]
      have h1 : ((List.range m).takeWhile q).length = m := by simpa using hc
      rw [List.length_append, List.length_range] at h ⊢
      cases hq : q m with
      | true => rw [List.takeWhile_cons_of_pos hq] at h; simp at h
      | false => rw [List.takeWhile_cons_of_neg (by simp [hq])]; simpa using hq
    · rename_i hc
      rw [if_neg hc]
      have h2 : ((List.range m).takeWhile q).length ≤ m := by
        have := (List.takeWhile_sublist (l := List.range m) q).length_le; simpa using this
      have h1 : ((List.range m).takeWhile q).length ≠ m := fun e => hc (by simpa using e)
      exact takeWhile_stop q m (by omega)
theorem runLenR_spec (K : Nat → List Req) (p m : Nat) : runLenR K p m ≤ m ∧ (∀ i, i < runLenR K p m → K (p + i) ≠ []) ∧ (runLenR K p m < m → K (p + runLenR K p m) = []) := by
  unfold runLenR
  generalize hq : (fun i => !(K (p + i)).isEmpty) = q
  obtain ⟨bs, hb⟩ : ∃ bs, (List.range m).takeWhile q ++ bs = List.range m := ⟨_, List.takeWhile_append_dropWhile⟩
  have hle : ((List.range m).takeWhile q).length ≤ m := by
    have := (List.takeWhile_sublist (l := List.range m) q).length_le; simpa using this
  have hget : ∀ i, i < ((List.range m).takeWhile q).length → ((List.range m).takeWhile q)[i]? = some i := fun i hi => by
    have := congrArg (fun l => l[i]?) hb
    simp only [List.getElem?_append_left hi] at this
    rw [this, List.getElem?_range (by omega)]
  refine ⟨hle, fun i hi => ?_, fun hlt => ?_⟩
  · have h1 := hget i hi
    have h2 : i ∈ (List.range m).takeWhile q := List.mem_of_getElem? h1
    have h3 : q i = true := by
      have := List.all_takeWhile (l := List.range m) (p := q)
      exact List.all_eq_true.1 this i h2
    rw [← hq] at h3
    simpa using h3
  · subst hq
    have := takeWhile_stop _ m hlt
    simpa using this
theorem mem_gatherR {K : Nat → List Req} {p n : Nat} {r : Req} : r ∈ gatherR K p n ↔ ∃ i, i < n ∧ r ∈ K (p + i) := by
  unfold gatherR; simp
theorem mem_kindR {L : List Req} {w : Bool} {k : Nat} {r : Req} : r ∈ kindR L w k ↔ r ∈ L ∧ r.page = (k : Int) ∧ r.write = w ∧ r.alone = false := by
  unfold kindR pageR isKindR
  simp only [List.mem_filter, beq_iff_eq, Bool.and_eq_true, Bool.not_eq_true']
  exact ⟨fun ⟨⟨a, b⟩, c, d⟩ => ⟨a, b, c, d⟩, fun ⟨a, b, c, d⟩ => ⟨⟨a, b⟩, c, d⟩⟩
/-- What the next command is made of, whatever is ready. -/
structure Sel (L : List Req) (head p n : Nat) (sel : List Req) : Prop where
  p16 : p < 16
  n1 : 1 ≤ n
  n4 : n ≤ 4
  pn : p + n ≤ 16
  first : beginE (fun k => decide (0 < (pageR L k).length)) head = some p
  mem : ∀ r ∈ sel, r ∈ L ∧ (p : Int) ≤ r.page ∧ r.page < p + n
  all : ∀ k : Nat, k < n → ∃ r ∈ sel, r.page = ((p + k : Nat) : Int)
  form : ∃ f t, pageR L p = f :: t ∧ ((f.alone = true ∧ n = 1 ∧ sel = [f]) ∨ (f.alone = false ∧ sel = gatherR (kindR L f.write) p n ∧ (∀ i, i < n → kindR L f.write (p + i) ≠ []) ∧ (n < 4 → p + n < 16 → kindR L f.write (p + n) = [])))
theorem nextR_spec {L : List Req} {head : Nat} (hh : head ≤ 16) : (nextR L head = (0, 0, []) ∧ ∀ k, k < 16 → pageR L k = []) ∨ ∃ p n f t, nextR L head = (p, n, f :: t) ∧ Sel L head p n (f :: t) := by
  unfold nextR
  cases hb : beginE (fun k => decide (0 < (pageR L k).length)) head with
  | none => exact .inl ⟨rfl, fun k hk => by have := beginE_no hh hb k hk; simpa using this⟩
  | some p =>
    obtain ⟨hp16, hne⟩ := beginE_spec hh hb
    obtain ⟨f, t, hft⟩ : ∃ f t, pageR L p = f :: t := by
      cases hpl : pageR L p with
      | nil => simp [hpl] at hne
      | cons f t => exact ⟨f, t, rfl⟩
    have hfm := List.mem_filter.1 (show f ∈ pageR L p from by rw [hft]; simp)
    have hfp : f.page = (p : Int) := by simpa using hfm.2
    simp only [hft]
    cases hal : f.alone with
    | true => exact .inr ⟨p, 1, f, [], rfl, hp16, by omega, by omega, by omega, hb, fun r hr => by rw [List.mem_singleton.1 hr]; exact ⟨hfm.1, by omega, by omega⟩, fun k hk => ⟨f, by simp, by rw [hfp]; omega⟩, ⟨f, t, hft, .inl ⟨hal, rfl, rfl⟩⟩⟩
    | false =>
      simp only [Bool.false_eq_true, if_false]
      obtain ⟨h1, h2, h3⟩ := runLenR_spec (kindR L f.write) p (min 4 (16 - p))
      obtain ⟨n, hn⟩ : ∃ n, runLenR (kindR L f.write) p (min 4 (16 - p)) = n := ⟨_, rfl⟩
      rw [hn] at h1 h2 h3 ⊢
      have hfk : f ∈ kindR L f.write p := mem_kindR.2 ⟨hfm.1, hfp, rfl, hal⟩
      have hn1 : 1 ≤ n := by
        rcases Nat.eq_zero_or_pos n with h0 | h0
        · subst h0
          have := h3 (by omega)
          rw [show p + 0 = p from rfl] at this
          rw [this] at hfk; cases hfk
        · exact h0
      have hg : ∃ x l, gatherR (kindR L f.write) p n = x :: l := by
        have : f ∈ gatherR (kindR L f.write) p n := mem_gatherR.2 ⟨0, hn1, hfk⟩
        cases hg : gatherR (kindR L f.write) p n with
        | nil => rw [hg] at this; cases this
        | cons x l => exact ⟨x, l, rfl⟩
      obtain ⟨x, l, hxl⟩ := hg
      refine .inr ⟨p, n, x, l, by rw [hxl], ?_⟩
      rw [← hxl]
      refine ⟨hp16, hn1, by omega, by omega, hb, fun r hr => ?_, fun k hk => ?_, ⟨f, t, hft, .inr ⟨hal, rfl, h2, fun a b => h3 (by omega)⟩⟩⟩
      · obtain ⟨i, hi, hm⟩ := mem_gatherR.1 hr
        obtain ⟨m1, m2, _⟩ := mem_kindR.1 hm
        exact ⟨m1, by rw [m2]; omega, by rw [m2]; omega⟩
      · cases hk2 : kindR L f.write (p + k) with
        | nil => exact absurd hk2 (h2 k hk)
        | cons y m =>
          have hy : y ∈ kindR L f.write (p + k) := by rw [hk2]; simp
          exact ⟨y, mem_gatherR.2 ⟨k, hk, hy⟩, (mem_kindR.1 hy).2.1⟩
end Go.Proofs.YticobikhndlejaaGreatDoor
