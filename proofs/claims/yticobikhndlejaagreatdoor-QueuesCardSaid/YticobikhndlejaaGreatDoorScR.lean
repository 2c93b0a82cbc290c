/- The statements' world in plain Lean: what each act makes of a queue and of what was asked of it. -/
import Derived.Test.YticobikhndlejaaGreatDoorScQ
import Derived.Test.YticobikhndlejaaGreatDoorScB
namespace Go.Proofs.YticobikhndlejaaGreatDoor
open Go.RowKit Go.Shelf Go.Lib

structure KW where
  rs : List KReq
  t : St
def bytesOf (d : B4) : ByteArray := strOfNums [d.a, d.b, d.c, d.d]
/-- A request under way or not yet: Step, Complete, as far as they go. -/
def St.step (t : St) : St := match t.cmd with
  | none => t
  | some c => t.sent c
def St.comp (t : St) (k : Nat) (fault : Bool) : St := (t.complete k fault).getD t
def St.flies (t : St) (n : Int) : Bool := t.cs.any fun c => c.nums.any (· == n)
namespace KW
def askR (x : KW) (page : Int) : KW := if 40 ≤ x.t.held then x else ⟨x.rs ++ [newK (x.t.last + 1) false page ⟨#[]⟩], x.t.add false page ⟨0, 0, 0, 0⟩⟩
def askW (x : KW) (page v : Int) : KW := if 40 ≤ x.t.held then x else ⟨x.rs ++ [newK (x.t.last + 1) true page (strOfNums (askL v x.rs.length))], x.t.add true page (askD v x.rs.length)⟩
def pollR (r : KReq) (o : Req) : KReq := if o.state = 2 then { r with how := 1, read := if o.write then ⟨#[]⟩ else bytesOf o.data } else if o.state = 3 then { r with how := 2 } else r
def poll (x : KW) (i : Nat) : KW :=
  match x.rs[i]? with
  | none => x
  | some r => if r.how = 1 ∨ r.how = 2 then x else
    match x.t.find r.num with
    | none => x
    | some o => if o.state < 2 then x else ⟨x.rs.set i (pollR r o), x.t.tell r.num⟩
def cancel (x : KW) (i : Nat) : KW :=
  match x.rs[i]? with
  | none => x
  | some r =>
    match x.t.find r.num with
    | none => x
    | some o => if o.state < 2 then ⟨x.rs.set i { r with how := if x.t.flies r.num then 4 else 3 }, x.t.give r.num⟩ else x
/-- What a byte does. -/
def act (x : KW) (b : Nat) : KW :=
  if b % 12 < 3 then x.askR ((b / 12 % 8 : Nat) : Int)
  else if b % 12 < 6 then x.askW ((b / 12 % 8 : Nat) : Int) (b : Int)
  else if b % 12 < 8 then ⟨x.rs, x.t.step⟩
  else if b % 12 < 10 then ⟨x.rs, x.t.comp (b / 12 % 3) (decide (b / 12 % 5 = 4))⟩
  else if b % 12 = 10 then
    if 0 < x.rs.length ∧ b / 12 % 2 = 0 then (⟨x.rs, x.t.tick⟩ : KW).poll (b / 12 * 7 % x.rs.length) else ⟨x.rs, x.t.tick⟩
  else if 0 < x.rs.length ∧ b / 12 % 3 = 0 then x.cancel (b / 12 * 5 % x.rs.length)
  else if 0 < x.rs.length then x.poll (x.rs.length - 1 - b / 12 % x.rs.length)
  else x
end KW

/-! ### what is known of it -/
structure Tu (o o' : Req) : Prop where
  num : o'.num = o.num
  told : o'.told = o.told
  write : o'.write = o.write
  page : o'.page = o.page
  data : o.write = true → o'.data = o.data
  four : o'.state = 4 ↔ o.state = 4
theorem Tu.refl (o : Req) : Tu o o := ⟨rfl, rfl, rfl, rfl, fun _ => rfl, Iff.rfl⟩
theorem Tu.trans {a b c : Req} (h : Tu a b) (g : Tu b c) : Tu a c :=
  ⟨g.num.trans h.num, g.told.trans h.told, g.write.trans h.write, g.page.trans h.page, fun hw => (g.data (h.write.trans hw)).trans (h.data hw), g.four.trans h.four⟩
/-- A list of requests is turned: nobody comes, who goes was told. -/
structure Tur (l l' : List Req) : Prop where
  back : ∀ o' ∈ l', ∃ o ∈ l, Tu o o'
  on : ∀ o ∈ l, o.told = false → ∃ o' ∈ l', Tu o o'
theorem Tur.refl (l : List Req) : Tur l l := ⟨fun o h => ⟨o, h, .refl o⟩, fun o h _ => ⟨o, h, .refl o⟩⟩
theorem Tur.trans {a b c : List Req} (h : Tur a b) (g : Tur b c) : Tur a c :=
  ⟨fun o ho => by
    obtain ⟨o1, h1, h2⟩ := g.back o ho
    obtain ⟨o2, h3, h4⟩ := h.back o1 h1
    exact ⟨o2, h3, h4.trans h2⟩, fun o ho ht => by
    obtain ⟨o1, h1, h2⟩ := h.on o ho ht
    obtain ⟨o2, h3, h4⟩ := g.on o1 h1 (h2.told.trans ht)
    exact ⟨o2, h3, h2.trans h4⟩⟩
theorem Tur.map {l : List Req} (f : Req → Req) (p : Req → Bool) (hf : ∀ o ∈ l, Tu o (f o)) (hp : ∀ o ∈ l, o.told = false → p (f o) = true) : Tur l ((l.map f).filter p) :=
  ⟨fun o' h => by
    obtain ⟨h1, _⟩ := List.mem_filter.1 h
    obtain ⟨o, ho, rfl⟩ := List.mem_map.1 h1
    exact ⟨o, ho, hf o ho⟩, fun o ho ht => ⟨f o, List.mem_filter.2 ⟨List.mem_map_of_mem ho, hp o ho ht⟩, hf o ho⟩⟩
/-- Tries. -/
def Dn (l : List Req) : Prop := ∀ o ∈ l, (o.state = 2 → 1 ≤ o.tries) ∧ (o.state = 3 → o.tries = 4)

theorem tu_land {now : Int} {disk : List Int} {fault : Bool} {o : Req} : Tu o (St.landR now disk fault o) := by
  obtain ⟨h1, h2, h3, _, h5⟩ := landR_num now disk fault o
  refine ⟨h1, h5, h3, h2, fun hw => ?_, ?_⟩
  · unfold St.landR
    simp only [hw, Bool.not_true, Bool.and_false, Bool.false_eq_true, if_false]
    repeat' split
    all_goals rfl
  · unfold St.landR
    simp only
    split
    · rename_i h
      split
      · simp [h]
      · split <;> simp [h]
    · rfl
theorem tur_land {t : St} (fault : Bool) (n : Int) : Tur t.rs (t.land fault n).rs := by
  unfold St.land
  split
  · exact .refl _
  · simp only
    refine Tur.map _ _ (fun o _ => ?_) fun o _ ht => ?_
    · split
      · exact tu_land
      · exact .refl o
    · split
      · rw [tu_land.told, ht]; simp
      · rw [ht]; simp
theorem dn_land {t : St} {n : Int} {air : List Int} (h : t.OkA (n :: air)) (hd : Dn t.rs) (fault : Bool) : Dn (t.land fault n).rs := by
  unfold St.land
  split
  · exact hd
  · intro o' ho'
    simp only at ho'
    obtain ⟨h1, _⟩ := List.mem_filter.1 ho'
    obtain ⟨o, ho, rfl⟩ := List.mem_map.1 h1
    have hk := h.rs.ok o ho
    have hdo := hd o ho
    split
    · unfold St.landR
      simp only
      split
      · rename_i h1'
        have h3 := hk.try3 (by simp [Req.live, hk.uair h1'])
        have h4 := hk.tries
        split
        · simp; omega
        · split
          · simp; omega
          · simp
      · rename_i h1'
        simp only
        have h4 := hk.tries
        constructor
        · intro h2; have := hdo.1 h2; omega
        · intro h2
          exfalso
          -- a failed one is not under way
          rename_i hn
          obtain ⟨r, hr, hrn, hra⟩ := h.rs.fly n (by simp)
          have : r = o := rnum_inj h.rs.nums hr ho (by omega)
          subst this
          have := hk.air hra
          omega
    · exact hdo
theorem lands_turn (fault : Bool) : ∀ (ns : List Int) (t : St) (air : List Int), t.OkA (ns ++ air) → Dn t.rs → Tur t.rs (ns.foldl (St.land fault) t).rs ∧ Dn (ns.foldl (St.land fault) t).rs
  | [], _, _, _, hd => ⟨.refl _, hd⟩
  | n :: ns, t, air, h, hd => by
    obtain ⟨h1, h2⟩ := lands_turn fault ns (t.land fault n) air (okA_land (air := ns ++ air) h fault) (dn_land (air := ns ++ air) h hd fault)
    exact ⟨(tur_land fault n).trans h1, h2⟩
theorem okA_erase {t : St} (h : t.Ok) {k : Nat} {c : Cmd} (hck : t.cs[k]? = some c) : ({ t with cs := t.cs.eraseIdx k } : St).OkA (c.nums ++ ((t.cs.eraseIdx k).flatMap (·.nums))) := by
  obtain ⟨hlt, hck3⟩ := List.getElem?_eq_some_iff.1 hck
  have hperm : (t.cs.flatMap (·.nums)).Perm (c.nums ++ (t.cs.eraseIdx k).flatMap (·.nums)) := by
    have := (perm_erase hlt hck3).flatMap_right (·.nums)
    simpa using this
  exact ⟨h.a.depth, h.a.head, h.a.dlen, h.a.dbyte, h.a.last, h.a.now, ⟨h.a.rs.nums, h.a.rs.num, h.a.rs.ok, hperm.nodup_iff.1 h.a.rs.nodup, fun n hn => h.a.rs.fly n (hperm.mem_iff.2 hn), fun r hr ha => hperm.mem_iff.1 (h.a.rs.airs r hr ha), h.a.rs.free⟩, h.a.held, h.a.h40⟩
theorem complete_turn {t t' : St} (h : t.Ok) (hd : Dn t.rs) {k : Nat} {fault : Bool} (hc : t.complete k fault = some t') : Tur t.rs t'.rs ∧ Dn t'.rs := by
  unfold St.complete at hc
  cases hck : t.cs[k]? with
  | none => rw [hck] at hc; cases hc
  | some c =>
    rw [hck] at hc
    simp only [Option.some.injEq] at hc
    subst hc
    exact lands_turn fault c.nums _ _ (okA_erase h hck) hd
theorem sent_turn {t : St} (h : t.Ok) (hd : Dn t.rs) {c : Cmd} (hc : t.cmd = some c) : Tur t.rs (t.sent c).rs ∧ Dn (t.sent c).rs := by
  obtain ⟨_, f, l, hsel, _, hnums⟩ := cmd_some h.a.head hc
  have hz : ∀ o ∈ t.rs, o.num ∈ c.nums → o.state = 0 := fun o ho hn => by
    rw [hnums] at hn
    have := Sel.numsIn h.a.rs.nums hsel ho hn
    exact (mem_readyR (hsel.mem o this).1).2.1
  have hm : (t.sent c).rs = t.rs.map fun r => if r.num ∈ c.nums then sentR r else r := rfl
  constructor
  · have hfil : (t.sent c).rs = (t.rs.map fun r => if r.num ∈ c.nums then sentR r else r).filter fun _ => true := hm.trans (List.filter_eq_self.2 fun _ _ => rfl).symm
    rw [hfil]
    refine Tur.map _ _ (fun o ho => ?_) fun _ _ _ => rfl
    split
    · rename_i hn
      have := hz o ho hn
      exact ⟨rfl, rfl, rfl, rfl, fun _ => rfl, by simp [sentR, this]⟩
    · exact .refl o
  · rw [hm]
    intro o' ho'
    obtain ⟨o, ho, rfl⟩ := List.mem_map.1 ho'
    split
    · simp [sentR]
    · exact hd o ho
/-- What is known of the statements' world. -/
structure KInv (x : KW) : Prop where
  ok : x.t.Ok
  last : x.t.last = x.rs.length
  num : ∀ (i : Nat) r, x.rs[i]? = some r → r.num = (i : Int) + 1
  how : ∀ r ∈ x.rs, 0 ≤ r.how ∧ r.how ≤ 4
  page : ∀ r ∈ x.rs, 0 ≤ r.page ∧ r.page < 16
  live : ∀ r ∈ x.rs, ∀ o ∈ x.t.rs, o.num = r.num → o.told = false → r.how ≠ 1 ∧ r.how ≠ 2 ∧ (r.how = 0 ↔ o.state ≠ 4)
  left : ∀ r ∈ x.rs, r.how = 0 → ∃ o ∈ x.t.rs, o.num = r.num ∧ o.told = false
  same : ∀ r ∈ x.rs, ∀ o ∈ x.t.rs, o.num = r.num → o.write = r.write ∧ o.page = r.page ∧ (o.write = true → r.data = bytesOf o.data)
  done : Dn x.t.rs
theorem kinv_new {d : Nat} (h : 1 ≤ d ∧ d ≤ 4) : KInv ⟨[], St.new d⟩ := by
  refine ⟨ok_new h, rfl, fun i r h => ?_, ?_, ?_, ?_, ?_, ?_, ?_⟩
  · simp at h
  all_goals exact fun _ h => (List.not_mem_nil h).elim
theorem KInv.turn {x : KW} (h : KInv x) {t' : St} (hok : t'.Ok) (hl : t'.last = x.t.last) (ht : Tur x.t.rs t'.rs) (hd : Dn t'.rs) : KInv ⟨x.rs, t'⟩ := by
  refine ⟨hok, hl.trans h.last, h.num, h.how, h.page, fun r hr o' ho' hn htold => ?_, fun r hr h0 => ?_, fun r hr o' ho' hn => ?_, hd⟩
  · obtain ⟨o, ho, e⟩ := ht.back o' ho'
    have := h.live r hr o ho (e.num.symm.trans hn) (e.told.symm.trans htold)
    refine ⟨this.1, this.2.1, this.2.2.trans (not_congr e.four.symm)⟩
  · obtain ⟨o, ho, hon, hot⟩ := h.left r hr h0
    obtain ⟨o', ho', e⟩ := ht.on o ho hot
    exact ⟨o', ho', e.num.trans hon, e.told.trans hot⟩
  · obtain ⟨o, ho, e⟩ := ht.back o' ho'
    obtain ⟨s1, s2, s3⟩ := h.same r hr o ho (e.num.symm.trans hn)
    exact ⟨e.write.trans s1, e.page.trans s2, fun hw => by have hw' := e.write.symm.trans hw; rw [s3 hw', e.data hw']⟩
theorem KInv.step {x : KW} (h : KInv x) : KInv ⟨x.rs, x.t.step⟩ := by
  unfold St.step
  split
  · exact h
  · rename_i c hc
    obtain ⟨h1, h2⟩ := sent_turn h.ok h.done hc
    exact h.turn (ok_sent h.ok hc) rfl h1 h2
theorem KInv.comp {x : KW} (h : KInv x) (k : Nat) (fault : Bool) : KInv ⟨x.rs, x.t.comp k fault⟩ := by
  unfold St.comp
  cases hc : x.t.complete k fault with
  | none => exact h
  | some t' =>
    obtain ⟨h1, h2⟩ := complete_turn h.ok h.done hc
    exact h.turn (ok_complete h.ok hc) (complete_same hc).1 h1 h2
theorem KInv.tick {x : KW} (h : KInv x) : KInv ⟨x.rs, x.t.tick⟩ := h.turn (ok_tick h.ok) rfl (.refl _) h.done
theorem KInv.mem_num {x : KW} (h : KInv x) {i : Nat} {r : KReq} (hi : x.rs[i]? = some r) : r ∈ x.rs ∧ r.num = (i : Int) + 1 := ⟨List.mem_of_getElem? hi, h.num i r hi⟩
theorem KInv.num_le {x : KW} (h : KInv x) {r : KReq} (hr : r ∈ x.rs) : 1 ≤ r.num ∧ r.num ≤ x.t.last := by
  obtain ⟨i, hi⟩ := List.getElem?_of_mem hr
  have h1 := (List.getElem?_eq_some_iff.1 hi).1
  have := h.num i r hi
  rw [h.last]; omega
/-- One more. -/
theorem KInv.push {x : KW} (h : KInv x) (hh : x.t.held < 40) (w : Bool) (p : Int) (hp : 0 ≤ p ∧ p < 16) (d : B4) (hd : BOk d) (dat : ByteArray) (hdat : w = true → dat = bytesOf d) : KInv ⟨x.rs ++ [newK (x.t.last + 1) w p dat], x.t.add w p d⟩ := by
  have hlast := h.last
  refine ⟨ok_add h.ok hh w p hp d hd, by simp [St.add]; omega, fun i r hi => ?_, fun r hr => ?_, fun r hr => ?_, fun r hr o ho hn ht => ?_, fun r hr h0 => ?_, fun r hr o ho hn => ?_, fun o ho => ?_⟩
  · by_cases hlt : i < x.rs.length
    · rw [List.getElem?_append_left hlt] at hi; exact h.num i r hi
    · rw [List.getElem?_append_right (by omega)] at hi
      have h0 : i - x.rs.length = 0 := by
        have := (List.getElem?_eq_some_iff.1 hi).1
        simp at this; omega
      rw [h0] at hi
      simp at hi
      subst hi
      simp only [newK]; omega
  · rcases List.mem_append.1 hr with hr | hr
    · exact h.how r hr
    · simp at hr; subst hr; simp [newK]
  · rcases List.mem_append.1 hr with hr | hr
    · exact h.page r hr
    · simp at hr; subst hr; simpa [newK] using hp
  · simp only [St.add] at ho
    rcases List.mem_append.1 hr with hr | hr <;> rcases List.mem_append.1 ho with ho | ho
    · exact h.live r hr o ho hn ht
    · simp at ho; subst ho
      have := h.num_le hr
      simp [newReq] at hn; omega
    · simp at hr; subst hr
      have := h.ok.a.rs.num o ho
      simp [newK] at hn; omega
    · simp at hr ho; subst hr ho
      simp [newK, newReq]
  · rcases List.mem_append.1 hr with hr | hr
    · obtain ⟨o, ho, h1, h2⟩ := h.left r hr h0
      exact ⟨o, List.mem_append_left _ ho, h1, h2⟩
    · simp at hr; subst hr
      exact ⟨newReq (x.t.last + 1) w p d, List.mem_append_right _ (by simp), rfl, rfl⟩
  · simp only [St.add] at ho
    rcases List.mem_append.1 hr with hr | hr <;> rcases List.mem_append.1 ho with ho | ho
    · exact h.same r hr o ho hn
    · simp at ho; subst ho
      have := h.num_le hr
      simp [newReq] at hn; omega
    · simp at hr; subst hr
      have := h.ok.a.rs.num o ho
      simp [newK] at hn; omega
    · simp at hr ho; subst hr ho
      exact ⟨rfl, rfl, fun hw => hdat hw⟩
  · simp only [St.add] at ho
    rcases List.mem_append.1 ho with ho | ho
    · exact h.done o ho
    · simp at ho; subst ho; simp [newReq]
theorem KInv.askR {x : KW} (h : KInv x) (p : Int) (hp : 0 ≤ p ∧ p < 16) : KInv (x.askR p) := by
  unfold KW.askR
  split
  · exact h
  · exact h.push (by omega) false p hp _ b0_ok _ (by simp)
theorem KInv.askW {x : KW} (h : KInv x) (p v : Int) (hp : 0 ≤ p ∧ p < 16) (hv : 0 ≤ v ∧ v ≤ 255) : KInv (x.askW p v) := by
  unfold KW.askW
  split
  · exact h
  · exact h.push (by omega) true p hp _ (askD_ok hv _) _ fun _ => rfl
/-- One is turned on both sides: request i of the statements', those of its number in the queue. -/
theorem KInv.one {x : KW} (h : KInv x) {i : Nat} {r r' : KReq} (hi : x.rs[i]? = some r) {t' : St} (hok : t'.Ok) (hl : t'.last = x.t.last) (hn' : r'.num = r.num) (hh : 0 ≤ r'.how ∧ r'.how ≤ 4) (hp : r'.page = r.page) (hw : r'.write = r.write) (hd : r'.data = r.data)
    (hoth : ∀ o, o.num ≠ r.num → (o ∈ t'.rs ↔ o ∈ x.t.rs)) (hdn : Dn t'.rs)
    (hlive : ∀ o ∈ t'.rs, o.num = r.num → o.told = false → r'.how ≠ 1 ∧ r'.how ≠ 2 ∧ (r'.how = 0 ↔ o.state ≠ 4)) (hleft : r'.how = 0 → ∃ o ∈ t'.rs, o.num = r.num ∧ o.told = false)
    (hsame : ∀ o ∈ t'.rs, o.num = r.num → ∃ o0 ∈ x.t.rs, o0.num = r.num ∧ o.write = o0.write ∧ o.page = o0.page ∧ o.data = o0.data) : KInv ⟨x.rs.set i r', t'⟩ := by
  have hnum := h.mem_num hi
  have hil := (List.getElem?_eq_some_iff.1 hi).1
  have hcase : ∀ y ∈ x.rs.set i r', y = r' ∨ (y ∈ x.rs ∧ y.num ≠ r.num) := fun y hy => by
    obtain ⟨j, hj⟩ := List.getElem?_of_mem hy
    by_cases hij : i = j
    · subst hij
      rw [List.getElem?_set_self hil] at hj
      left; simpa using hj.symm
    · rw [List.getElem?_set_ne hij] at hj
      right
      refine ⟨List.mem_of_getElem? hj, ?_⟩
      have := h.num j y hj
      omega
  refine ⟨hok, ?_, fun j y hj => ?_, fun y hy => ?_, fun y hy => ?_, fun y hy o ho hn ht => ?_, fun y hy h0 => ?_, fun y hy o ho hn => ?_, hdn⟩
  · simp only [List.length_set]; rw [hl, h.last]
  · by_cases hij : i = j
    · subst hij
      rw [List.getElem?_set_self hil] at hj
      simp at hj; subst hj; rw [hn', hnum.2]
    · rw [List.getElem?_set_ne hij] at hj
      exact h.num j y hj
  · rcases hcase y hy with rfl | ⟨hy, _⟩
    · exact hh
    · exact h.how y hy
  · rcases hcase y hy with rfl | ⟨hy, _⟩
    · rw [hp]; exact h.page r hnum.1
    · exact h.page y hy
  · rcases hcase y hy with rfl | ⟨hy, hne⟩
    · exact hlive o ho (hn.trans hn') ht
    · exact h.live y hy o ((hoth o (by omega)).1 ho) hn ht
  · rcases hcase y hy with rfl | ⟨hy, hne⟩
    · obtain ⟨o, ho, h1, h2⟩ := hleft h0
      exact ⟨o, ho, h1.trans hn'.symm, h2⟩
    · obtain ⟨o, ho, h1, h2⟩ := h.left y hy h0
      exact ⟨o, (hoth o (by omega)).2 ho, h1, h2⟩
  · rcases hcase y hy with rfl | ⟨hy, hne⟩
    · obtain ⟨o0, ho0, e1, e2, e3, e4⟩ := hsame o ho (hn.trans hn')
      obtain ⟨s1, s2, s3⟩ := h.same r hnum.1 o0 ho0 e1
      exact ⟨by rw [e2, s1, hw], by rw [e3, s2, hp], fun hw2 => by rw [hd, e4]; exact s3 (by rw [← e2]; exact hw2)⟩
    · exact h.same y hy o ((hoth o (by omega)).1 ho) hn
theorem mem_tell {t : St} {n : Int} {o : Req} : o ∈ (t.tell n).rs ↔ (o.num ≠ n ∧ o ∈ t.rs) ∨ (o.num = n ∧ o.inAir = true ∧ ∃ o0 ∈ t.rs, o0.num = n ∧ o = tellR o0) := by
  unfold St.tell St.tellRs
  simp only [List.mem_filter, List.mem_map]
  constructor
  · rintro ⟨⟨o0, h0, h1⟩, h2⟩
    by_cases hn : o0.num = n
    · rw [if_pos hn] at h1
      subst h1
      right
      refine ⟨hn, ?_, o0, h0, hn, rfl⟩
      simpa [tellR, hn] using h2
    · rw [if_neg hn] at h1
      subst h1
      exact .inl ⟨hn, h0⟩
  · rintro (⟨h1, h2⟩ | ⟨h1, h2, o0, h3, h4, rfl⟩)
    · exact ⟨⟨o, h2, by rw [if_neg h1]⟩, by simp [h1]⟩
    · exact ⟨⟨o0, h3, by rw [if_pos h4]⟩, by simp [h2]⟩
theorem KInv.tell {x : KW} (h : KInv x) {i : Nat} {r r' : KReq} (hi : x.rs[i]? = some r) {o : Req} (ho : x.t.find r.num = some o) (hs : 2 ≤ o.state) (hn' : r'.num = r.num) (hh : 1 ≤ r'.how ∧ r'.how ≤ 4) (hp : r'.page = r.page) (hw : r'.write = r.write) (hd : r'.data = r.data) : KInv ⟨x.rs.set i r', x.t.tell r.num⟩ := by
  refine h.one hi (ok_tell h.ok ho hs) rfl hn' ⟨by omega, hh.2⟩ hp hw hd (fun y hy => ?_) (fun y hy => ?_) (fun y hy hn ht => ?_) (fun h0 => by omega) (fun y hy hn => ?_)
  · rw [mem_tell]; simp [hy]
  · rcases mem_tell.1 hy with ⟨_, hy⟩ | ⟨_, _, o0, h0, _, rfl⟩
    · exact h.done y hy
    · exact h.done o0 h0
  · rcases mem_tell.1 hy with ⟨hne, _⟩ | ⟨_, _, o0, h0, _, rfl⟩
    · exact absurd hn hne
    · simp [tellR] at ht
  · rcases mem_tell.1 hy with ⟨hne, _⟩ | ⟨_, _, o0, h0, h1, rfl⟩
    · exact absurd hn hne
    · exact ⟨o0, h0, h1, rfl, rfl, rfl⟩
theorem mem_give {t : St} {n : Int} {o : Req} : o ∈ (t.give n).rs ↔ (o.num ≠ n ∧ o ∈ t.rs) ∨ (o.num = n ∧ ∃ o0 ∈ t.rs, o0.num = n ∧ o = St.giveR o0) := by
  unfold St.give
  simp only [List.mem_map]
  constructor
  · rintro ⟨o0, h0, h1⟩
    by_cases hn : o0.num = n
    · rw [if_pos hn] at h1
      subst h1
      exact .inr ⟨hn, o0, h0, hn, rfl⟩
    · rw [if_neg hn] at h1
      subst h1
      exact .inl ⟨hn, h0⟩
  · rintro (⟨h1, h2⟩ | ⟨h1, o0, h3, h4, rfl⟩)
    · exact ⟨o, h2, by rw [if_neg h1]⟩
    · exact ⟨o0, h3, by rw [if_pos h4]⟩
theorem KInv.give {x : KW} (h : KInv x) {i : Nat} {r r' : KReq} (hi : x.rs[i]? = some r) {o : Req} (ho : x.t.find r.num = some o) (hn' : r'.num = r.num) (hh : 3 ≤ r'.how ∧ r'.how ≤ 4) (hp : r'.page = r.page) (hw : r'.write = r.write) (hd : r'.data = r.data) : KInv ⟨x.rs.set i r', x.t.give r.num⟩ := by
  refine h.one hi (ok_give h.ok ho) rfl hn' ⟨by omega, hh.2⟩ hp hw hd (fun y hy => ?_) (fun y hy => ?_) (fun y hy hn ht => ?_) (fun h0 => by omega) (fun y hy hn => ?_)
  · rw [mem_give]; simp [hy]
  · rcases mem_give.1 hy with ⟨_, hy⟩ | ⟨_, o0, h0, _, rfl⟩
    · exact h.done y hy
    · simp [St.giveR]
  · rcases mem_give.1 hy with ⟨hne, _⟩ | ⟨_, o0, h0, _, rfl⟩
    · exact absurd hn hne
    · refine ⟨by omega, by omega, ?_⟩
      simp [St.giveR]; omega
  · rcases mem_give.1 hy with ⟨hne, _⟩ | ⟨_, o0, h0, h1, rfl⟩
    · exact absurd hn hne
    · exact ⟨o0, h0, h1, rfl, rfl, rfl⟩
theorem KInv.find {x : KW} (h : KInv x) {r : KReq} (hr : r ∈ x.rs) {o : Req} (ho : x.t.find r.num = some o) : r.how ≠ 1 ∧ r.how ≠ 2 ∧ (r.how = 0 ↔ o.state ≠ 4) ∧ o.write = r.write ∧ o.page = r.page := by
  obtain ⟨h1, h2, h3⟩ := find_some ho
  obtain ⟨a, b, c⟩ := h.live r hr o h1 h2 h3
  obtain ⟨d, e, _⟩ := h.same r hr o h1 h2
  exact ⟨a, b, c, d, e⟩
theorem find_none_mem {t : St} {n : Int} (h : t.find n = none) : ∀ o ∈ t.rs, o.num = n → o.told = true := fun o ho hn => by
  unfold St.find at h
  have := List.find?_eq_none.1 h o ho
  simpa [hn] using this
theorem KInv.gone {x : KW} (h : KInv x) {r : KReq} (hr : r ∈ x.rs) (hf : x.t.find r.num = none) : r.how ≠ 0 := fun h0 => by
  obtain ⟨o, ho, h1, h2⟩ := h.left r hr h0
  have := find_none_mem hf o ho h1
  rw [h2] at this; cases this
theorem KInv.poll {x : KW} (h : KInv x) (i : Nat) : KInv (x.poll i) := by
  unfold KW.poll
  split
  · exact h
  · rename_i r hi
    split
    · exact h
    · rename_i hn
      split
      · exact h
      · rename_i o ho
        split
        · exact h
        · rename_i hs
          have hr := (h.mem_num hi).1
          obtain ⟨_, _, h3, _, _⟩ := h.find hr ho
          have h4 := h.how r hr
          have h5 := (h.ok.a.rs.ok o (find_some ho).1).st
          refine h.tell hi ho (by omega) ?_ ?_ ?_ ?_ ?_
          all_goals unfold KW.pollR
          · split
            · rfl
            · split <;> rfl
          · split
            · simp
            · split
              · simp
              · omega
          · split
            · rfl
            · split <;> rfl
          · split
            · rfl
            · split <;> rfl
          · split
            · rfl
            · split <;> rfl
theorem KInv.cancel {x : KW} (h : KInv x) (i : Nat) : KInv (x.cancel i) := by
  unfold KW.cancel
  split
  · exact h
  · rename_i r hi
    split
    · exact h
    · rename_i o ho
      split
      · refine h.give hi ho rfl ?_ rfl rfl rfl
        simp only
        split <;> omega
      · exact h
theorem KInv.act {x : KW} (h : KInv x) (b : Nat) (hb : b ≤ 255) : KInv (x.act b) := by
  unfold KW.act
  repeat' split
  · exact h.askR _ (by omega)
  · exact h.askW _ _ (by omega) (by omega)
  · exact h.step
  · exact h.comp _ _
  · exact h.tick.poll _
  · exact h.tick
  · exact h.cancel _
  · exact h.poll _
  · exact h
end Go.Proofs.YticobikhndlejaaGreatDoor

/- Kept in plain Lean: the power fails; a read behind it. -/
namespace Go.Proofs.YticobikhndlejaaGreatDoor
open Go.RowKit Go.Shelf Go.Lib

theorem dput_split {l : List Int} (hl : l.length = 64) {p : Nat} (hp : p < 16) (d : B4) : dput l (p : Int) d = l.take (4 * p) ++ ([d.a, d.b, d.c, d.d] ++ l.drop (4 * p + 4)) := by
  have e1 : l = l.take (4 * p) ++ l.drop (4 * p) := (List.take_append_drop _ _).symm
  have hlen : (l.take (4 * p)).length = 4 * p := by rw [List.length_take]; omega
  have hdl : (l.drop (4 * p)).length = 64 - 4 * p := by rw [List.length_drop, hl]
  have e2 : l.drop (4 * p + 4) = (l.drop (4 * p)).drop 4 := by rw [List.drop_drop]
  rw [e2]
  generalize hA : l.take (4 * p) = A at *
  generalize hB : l.drop (4 * p) = B at *
  rw [e1]
  unfold dput
  simp only [Int.toNat_natCast]
  match B, hdl with
  | [], h => simp at h; omega
  | [_], h => simp at h; omega
  | [_, _], h => simp at h; omega
  | [_, _, _], h => simp at h; omega
  | b0 :: b1 :: b2 :: b3 :: B, _ =>
    rw [List.set_append_right _ _ (by omega), List.set_append_right _ _ (by omega), List.set_append_right _ _ (by omega), List.set_append_right _ _ (by omega), hlen]
    simp only [Nat.sub_self, Nat.add_sub_cancel_left]
    rfl
/-- The next command behind a crash and a read. -/
theorem crash_read {t : St} (h : t.Ok) (f : Nat → Bool) : ∃ t2, ((t.crash f).add false 3 ⟨0, 0, 0, 0⟩).cmd = some ⟨false, 3, 1, [t.last + 1]⟩ ∧ (((t.crash f).add false 3 ⟨0, 0, 0, 0⟩).sent ⟨false, 3, 1, [t.last + 1]⟩).complete 0 false = some t2 ∧
    ∃ r, t2.find (t.last + 1) = some r ∧ r.state = 2 ∧ r.write = false ∧ r.data = dget (t.crash f).disk 3 := by
  have hnow := h.a.now
  have hd := h.a.depth
  have hrs : ((t.crash f).add false 3 ⟨0, 0, 0, 0⟩).rs = [newReq (t.last + 1) false 3 ⟨0, 0, 0, 0⟩] := rfl
  have hrdy : readyR t.now [newReq (t.last + 1) false 3 ⟨0, 0, 0, 0⟩] = [newReq (t.last + 1) false 3 ⟨0, 0, 0, 0⟩] := by
    have h1 : isReadyR t.now [newReq (t.last + 1) false 3 ⟨0, 0, 0, 0⟩] (newReq (t.last + 1) false 3 ⟨0, 0, 0, 0⟩) = true := by
      simp [isReadyR, newReq, Req.blocks, hnow]
    have h2 : byPageR [newReq (t.last + 1) false 3 ⟨0, 0, 0, 0⟩] = [newReq (t.last + 1) false 3 ⟨0, 0, 0, 0⟩] := rfl
    unfold readyR
    rw [h2, List.filter_cons, h1]
    rfl
  have hcmd : ((t.crash f).add false 3 ⟨0, 0, 0, 0⟩).cmd = some ⟨false, 3, 1, [t.last + 1]⟩ := by
    have hn : ¬ ((t.crash f).add false 3 ⟨0, 0, 0, 0⟩).depth ≤ ((t.crash f).add false 3 ⟨0, 0, 0, 0⟩).cs.length := by
      show ¬ t.depth ≤ 0
      omega
    have hnx : nextR (readyR ((t.crash f).add false 3 ⟨0, 0, 0, 0⟩).now ((t.crash f).add false 3 ⟨0, 0, 0, 0⟩).rs) ((t.crash f).add false 3 ⟨0, 0, 0, 0⟩).head = (3, 1, [newReq (t.last + 1) false 3 ⟨0, 0, 0, 0⟩]) := by
      show nextR (readyR t.now [newReq (t.last + 1) false 3 ⟨0, 0, 0, 0⟩]) 0 = _
      rw [hrdy]
      rfl
    unfold St.cmd
    rw [if_neg hn, hnx]
    rfl
  have hcomp : ∃ t2, (((t.crash f).add false 3 ⟨0, 0, 0, 0⟩).sent ⟨false, 3, 1, [t.last + 1]⟩).complete 0 false = some t2 := by
    unfold St.complete
    exact ⟨_, rfl⟩
  obtain ⟨t2, h2⟩ := hcomp
  refine ⟨t2, hcmd, h2, ?_⟩
  have h3 : t2 = St.land false { ((t.crash f).add false 3 ⟨0, 0, 0, 0⟩).sent ⟨false, 3, 1, [t.last + 1]⟩ with cs := [] } (t.last + 1) := by
    unfold St.complete at h2
    exact (Option.some.inj h2).symm
  have hs : ({ ((t.crash f).add false 3 ⟨0, 0, 0, 0⟩).sent ⟨false, 3, 1, [t.last + 1]⟩ with cs := [] } : St).rs = [sentR (newReq (t.last + 1) false 3 ⟨0, 0, 0, 0⟩)] := by
    show [newReq (t.last + 1) false 3 ⟨0, 0, 0, 0⟩].map (fun r => if r.num ∈ [t.last + 1] then sentR r else r) = _
    simp [newReq]
  subst h3
  unfold St.land
  rw [hs]
  have hf : ([sentR (newReq (t.last + 1) false 3 ⟨0, 0, 0, 0⟩)].find? fun r => r.num == t.last + 1) = some (sentR (newReq (t.last + 1) false 3 ⟨0, 0, 0, 0⟩)) := by
    simp [sentR, newReq]
  rw [hf]
  simp only [St.find, sentR, newReq, List.map_cons, List.map_nil, if_true, St.landR]
  simp
  rfl
end Go.Proofs.YticobikhndlejaaGreatDoor
