/- Swept in plain Lean: commands go up from the head, then from the first page on. -/
import Derived.Test.YticobikhndlejaaDoorJoinP
namespace Go.Proofs.YticobikhndlejaaDoor

/-- Reads alone, nothing under way; each waits or is done. -/
structure Rd (t : St) : Prop where
  cs : t.cs = []
  depth : t.depth = 1
  rq : ∀ r ∈ t.rs, r.write = false ∧ r.alone = false ∧ r.inAir = false ∧ r.told = false ∧ ((r.state = 0 ∧ r.after ≤ t.now) ∨ r.state = 2)
def waitL (t : St) : List Req := t.rs.filter fun r => r.state == 0
theorem mem_waitL {t : St} {r : Req} : r ∈ waitL t ↔ r ∈ t.rs ∧ r.state = 0 := by simp [waitL]
theorem rd_ready {t : St} (hk : t.Ok) (h : Rd t) {r : Req} : r ∈ readyR t.now t.rs ↔ r ∈ t.rs ∧ r.state = 0 := by
  refine ⟨fun hr => ⟨(mem_readyR hr).1, (mem_readyR hr).2.1⟩, fun ⟨hr, h0⟩ => ?_⟩
  obtain ⟨a1, a2, a3, a4, a5⟩ := h.rq r hr
  refine ready_mem hr (hk.a.rs.ok r hr).page h0 (by omega) fun o ho => ?_
  have := (h.rq o ho).1
  simp [Req.blocks, a1, this]
/-- What the next command is, of reads alone. -/
structure RdCmd (t : St) (c : Cmd) : Prop where
  write : c.write = false
  page : c.page < 16
  count : 1 ≤ c.count
  fits : c.page + c.count ≤ 16
  nums : ∀ r ∈ t.rs, r.num ∈ c.nums ↔ (r.state = 0 ∧ (c.page : Int) ≤ r.page ∧ r.page < c.page + c.count)
  sub : ∀ n ∈ c.nums, ∃ r ∈ t.rs, r.num = n
  nodup : c.nums.Nodup
  some_ : c.nums ≠ []
  first : (t.head ≤ c.page ∧ ∀ r ∈ t.rs, r.state = 0 → ¬ ((t.head : Int) ≤ r.page ∧ r.page < c.page)) ∨ (c.page < t.head ∧ (∀ r ∈ t.rs, r.state = 0 → ¬ r.page < c.page) ∧ ∀ r ∈ t.rs, r.state = 0 → ¬ (t.head : Int) ≤ r.page)
theorem rd_cmd {t : St} (hk : t.Ok) (h : Rd t) {c : Cmd} (hc : t.cmd = some c) : RdCmd t c := by
  obtain ⟨_, f, l, hS, hw, hn⟩ := cmd_some hk.a.head hc
  have hs := hk.a.rs.nums
  have hfm : f ∈ readyR t.now t.rs := (hS.mem f (by simp)).1
  have hfr := (rd_ready hk h).1 hfm
  have hempty : ∀ (k : Nat), decide (0 < (pageR (readyR t.now t.rs) k).length) = false → ∀ r ∈ t.rs, r.state = 0 → r.page ≠ (k : Int) := fun k hk0 r hr h0 hp => by
    have : r ∈ pageR (readyR t.now t.rs) k := List.mem_filter.2 ⟨(rd_ready hk h).2 ⟨hr, h0⟩, by simp [hp]⟩
    have hl : 0 < (pageR (readyR t.now t.rs) k).length := List.length_pos_of_mem this
    simp [hl] at hk0
  have hsel : ∀ r ∈ t.rs, r.num ∈ c.nums ↔ (r.state = 0 ∧ (c.page : Int) ≤ r.page ∧ r.page < c.page + c.count) := fun r hr => by
    rw [hn]
    constructor
    · intro hm
      have hm2 := hS.numsIn hs hr hm
      obtain ⟨m1, m2, m3⟩ := hS.mem r hm2
      exact ⟨((rd_ready hk h).1 m1).2, m2, m3⟩
    · rintro ⟨h0, h1, h2⟩
      refine List.mem_map_of_mem ?_
      obtain ⟨g, m, hg, ⟨e0, e1, e2⟩ | ⟨e0, e1, e2, e3⟩⟩ := hS.form
      · have hgr : g ∈ readyR t.now t.rs := (List.mem_filter.1 (show g ∈ pageR (readyR t.now t.rs) c.page from by rw [hg]; simp)).1
        have := (h.rq g ((rd_ready hk h).1 hgr).1).2.1
        rw [e0] at this; cases this
      · rw [e1]
        refine mem_gatherR.2 ⟨(r.page - c.page).toNat, by omega, mem_kindR.2 ⟨(rd_ready hk h).2 ⟨hr, h0⟩, by omega, ?_, (h.rq r hr).2.1⟩⟩
        have hgr : g ∈ readyR t.now t.rs := (List.mem_filter.1 (show g ∈ pageR (readyR t.now t.rs) c.page from by rw [hg]; simp)).1
        rw [(h.rq r hr).1, (h.rq g ((rd_ready hk h).1 hgr).1).1]
  refine ⟨hw.trans (h.rq f hfr.1).1, hS.p16, hS.n1, hS.pn, hsel, fun n hn' => ?_, hn ▸ hS.nodup hs, by rw [hn]; simp, ?_⟩
  · rw [hn] at hn'
    obtain ⟨r, hr, e⟩ := List.mem_map.1 hn'
    exact ⟨r, ((rd_ready hk h).1 (hS.mem r hr).1).1, e⟩
  · rcases beginE_first hk.a.head hS.first with ⟨b1, b2⟩ | ⟨b1, b2, b3⟩
    · refine .inl ⟨b1, fun r hr h0 ⟨x1, x2⟩ => ?_⟩
      exact hempty r.page.toNat (b2 _ (by omega) (by omega)) r hr h0 (by omega)
    · have hpg := fun r hr => (hk.a.rs.ok r hr).page
      refine .inr ⟨b1, fun r hr h0 x1 => ?_, fun r hr h0 x1 => ?_⟩
      · have := hpg r hr
        exact hempty r.page.toNat (b2 _ (by omega)) r hr h0 (by omega)
      · have := hpg r hr
        exact hempty r.page.toNat (b3 _ (by omega) (by omega)) r hr h0 (by omega)
theorem rd_none {t : St} (hk : t.Ok) (h : Rd t) (hc : t.cmd = none) : waitL t = [] := by
  rcases cmd_none hk.a.head hc with hd | hd
  · rw [h.cs, h.depth] at hd; simp at hd
  · refine List.eq_nil_iff_forall_not_mem.2 fun r hr => ?_
    obtain ⟨h1, h2⟩ := mem_waitL.1 hr
    have hp := (hk.a.rs.ok r h1).page
    have : r ∈ pageR (readyR t.now t.rs) r.page.toNat := List.mem_filter.2 ⟨(rd_ready hk h).2 ⟨h1, h2⟩, by simp; omega⟩
    rw [hd _ (by omega)] at this; cases this
/-- Landing reads, none of them told. -/
theorem lands_reads (t : St) : ∀ (ns : List Int) (rs : List Req), (∀ r ∈ rs, r.write = false ∧ r.told = false) → rs.Pairwise (·.num < ·.num) → ns.Nodup → (∀ n ∈ ns, ∃ r ∈ rs, r.num = n) →
    ns.foldl (St.land false) { t with rs := rs } = { t with rs := rs.map fun r => if r.num ∈ ns then St.landR t.now t.disk false r else r }
  | [], rs, _, _, _, _ => by simp
  | n :: ns, rs, hr, hp, hnd, hs => by
    rw [List.nodup_cons] at hnd
    obtain ⟨r0, hr0, e0⟩ := hs n (by simp)
    subst e0
    have hf := find_num hp hr0
    have hland : St.land false { t with rs := rs } r0.num = { t with rs := rs.map fun x => if x.num = r0.num then St.landR t.now t.disk false x else x } := by
      unfold St.land
      simp only [hf]
      have hd : St.landD t.disk false r0 = t.disk := by simp [St.landD, (hr r0 hr0).1]
      rw [hd]
      congr 1
      rw [List.filter_eq_self]
      intro x hx
      obtain ⟨y, hy, rfl⟩ := List.mem_map.1 hx
      by_cases hyn : y.num = r0.num
      · rw [if_pos hyn, (landR_num ..).2.2.2.2, (hr y hy).2]; simp
      · rw [if_neg hyn]; simp [hyn]
    show ns.foldl (St.land false) (St.land false { t with rs := rs } r0.num) = _
    rw [hland, lands_reads t ns _ ?_ ?_ hnd.2 ?_]
    · congr 1
      rw [List.map_map]
      refine List.map_congr_left fun x hx => ?_
      simp only [Function.comp]
      by_cases hx0 : x.num = r0.num
      · have h1 : (St.landR t.now t.disk false x).num = r0.num := (landR_num ..).1.trans hx0
        simp only [hx0, if_true, List.mem_cons, true_or, h1]
        rw [if_neg hnd.1]
      · simp only [hx0, if_false, List.mem_cons, false_or]
    · intro x hx
      obtain ⟨y, hy, rfl⟩ := List.mem_map.1 hx
      split
      · rw [(landR_num ..).2.2.1, (landR_num ..).2.2.2.2]; exact hr y hy
      · exact hr y hy
    · refine List.pairwise_map.2 (hp.imp fun {a b} hab => ?_)
      have g : ∀ x : Req, (if x.num = r0.num then St.landR t.now t.disk false x else x).num = x.num := fun x => by split; exact (landR_num ..).1; rfl
      rw [g, g]; exact hab
    · intro m hm
      obtain ⟨x, hx, e⟩ := hs m (by simp [hm])
      exact ⟨_, List.mem_map_of_mem hx, by split; exact (landR_num ..).1.trans e; exact e⟩
theorem perm_filter_partsR (l : List Req) (q : Req → Bool) : l.Perm (l.filter q ++ l.filter (fun e => !q e)) := (List.filter_append_perm q l).symm
/-- The next command, sent and completed: those of its requests are done, the others are as they were. -/
theorem rd_step {t : St} (hk : t.Ok) (h : Rd t) {c : Cmd} (hc : RdCmd t c) : ∃ t', (t.sent c).complete 0 false = some t' ∧ Rd t' ∧ t'.head = c.page + c.count ∧ (∀ r ∈ t'.rs, r.state = 0 → r ∈ t.rs ∧ r.num ∉ c.nums) ∧ (waitL t').length + c.nums.length = (waitL t).length := by
  have hs := hk.a.rs.nums
  have hcs : (t.sent c).cs = [c] := by simp [St.sent, h.cs]
  have hcomp : (t.sent c).complete 0 false = some (c.nums.foldl (St.land false) { t.sent c with cs := [] }) := by
    unfold St.complete
    rw [hcs]; rfl
  have hl := lands_reads { t.sent c with cs := [] } c.nums (t.sent c).rs (fun r hr => by
      obtain ⟨y, hy, rfl⟩ := List.mem_map.1 hr
      have := h.rq y hy
      split <;> exact ⟨this.1, this.2.2.2.1⟩) (List.pairwise_map.2 (hs.imp fun {a b} hab => by
      have g : ∀ x : Req, (if x.num ∈ c.nums then sentR x else x).num = x.num := fun x => by split <;> rfl
      rw [g, g]; exact hab)) hc.nodup (fun n hn => by
      obtain ⟨r, hr, e⟩ := hc.sub n hn
      exact ⟨_, List.mem_map_of_mem hr, by split <;> exact e⟩)
  have hrs : ((t.sent c).rs.map fun r => if r.num ∈ c.nums then St.landR t.now t.disk false r else r) = t.rs.map fun r => if r.num ∈ c.nums then { r with state := 2, inAir := false, tries := r.tries + 1, data := dget t.disk r.page } else r := by
    unfold St.sent
    simp only [List.map_map]
    refine List.map_congr_left fun x hx => ?_
    simp only [Function.comp]
    have hxw := (h.rq x hx).1
    by_cases hm : x.num ∈ c.nums
    · simp only [hm, if_true]
      have h1 : (sentR x).num = x.num := rfl
      rw [h1, if_pos hm]
      simp [St.landR, sentR, hxw]
    · simp only [hm, if_false]
  obtain ⟨t', ht'⟩ : ∃ t', c.nums.foldl (St.land false) { t.sent c with cs := [] } = t' := ⟨_, rfl⟩
  have hrs' : t'.rs = t.rs.map fun r => if r.num ∈ c.nums then { r with state := 2, inAir := false, tries := r.tries + 1, data := dget t.disk r.page } else r := by
    rw [← ht', ← hrs]
    exact congrArg St.rs hl
  have hst' : t'.cs = [] ∧ t'.depth = t.depth ∧ t'.now = t.now ∧ t'.head = c.page + c.count := by
    obtain ⟨a1, a2, a3, a4, _⟩ := lands_same false c.nums { t.sent c with cs := [] }
    rw [ht'] at a1 a2 a3 a4
    exact ⟨a2, a1, a4, a3⟩
  refine ⟨t', by rw [hcomp, ht'], ⟨hst'.1, hst'.2.1.trans h.depth, fun r hr => ?_⟩, hst'.2.2.2, fun r hr h0 => ?_, ?_⟩
  · rw [hrs'] at hr
    obtain ⟨y, hy, rfl⟩ := List.mem_map.1 hr
    have := h.rq y hy
    rw [hst'.2.2.1]
    split
    · exact ⟨this.1, this.2.1, rfl, this.2.2.2.1, .inr rfl⟩
    · exact this
  · rw [hrs'] at hr
    obtain ⟨y, hy, rfl⟩ := List.mem_map.1 hr
    split at h0
    · simp at h0
    · rename_i hm
      rw [if_neg hm]
      exact ⟨hy, hm⟩
  · have hw' : waitL t' = (waitL t).filter fun r => decide (r.num ∉ c.nums) := by
      unfold waitL
      rw [hrs', List.filter_map, List.filter_filter]
      have e : (t.rs.filter ((fun r : Req => r.state == 0) ∘ fun r => if r.num ∈ c.nums then { r with state := 2, inAir := false, tries := r.tries + 1, data := dget t.disk r.page } else r)) = t.rs.filter fun r => decide (r.num ∉ c.nums) && r.state == 0 := by
        refine List.filter_congr fun x _ => ?_
        simp only [Function.comp]
        by_cases hm : x.num ∈ c.nums <;> simp [hm]
      rw [e]
      conv => rhs; rw [← List.map_id (t.rs.filter fun r => decide (r.num ∉ c.nums) && r.state == 0)]
      refine List.map_congr_left fun x hx => ?_
      have := (List.mem_filter.1 hx).2
      simp at this
      rw [if_neg this.1]; rfl
    have hin : ((waitL t).filter fun r => decide (r.num ∈ c.nums)).length = c.nums.length := by
      have h1 : (((waitL t).filter fun r => decide (r.num ∈ c.nums)).map (·.num)).Nodup := by
        refine List.pairwise_map.2 (((hs.filter _).filter _).imp fun {a b} hab e => by omega)
      have h2 : ∀ n, n ∈ ((waitL t).filter fun r => decide (r.num ∈ c.nums)).map (·.num) ↔ n ∈ c.nums := fun n => by
        simp only [List.mem_map, List.mem_filter, decide_eq_true_eq, mem_waitL]
        constructor
        · rintro ⟨r, ⟨⟨_, _⟩, hm⟩, rfl⟩; exact hm
        · intro hn
          obtain ⟨r, hr, rfl⟩ := hc.sub n hn
          exact ⟨r, ⟨⟨hr, ((hc.nums r hr).1 hn).1⟩, hn⟩, rfl⟩
      have h3 := ((List.perm_ext_iff_of_nodup h1 hc.nodup).2 h2).length_eq
      rw [List.length_map] at h3
      exact h3
    have hsum := (perm_filter_partsR (waitL t) fun r => decide (r.num ∈ c.nums)).length_eq
    rw [List.length_append, hin] at hsum
    rw [hw']
    have e2 : ((waitL t).filter fun r => !decide (r.num ∈ c.nums)) = (waitL t).filter fun r => decide (r.num ∉ c.nums) := List.filter_congr fun x _ => by simp
    rw [e2] at hsum
    omega
/-- How a sweep stands: h where it began, last the last page that was read, turned: has it gone round. -/
structure Sw (h last : Int) (turned : Bool) (t : St) : Prop where
  ok : t.Ok
  rd : Rd t
  head : (t.head : Int) = last + 1
  wait : ∀ r ∈ t.rs, r.state = 0 → if turned then last < r.page ∧ r.page ≤ h else last < r.page ∨ r.page ≤ h
/-- What the law asks of a command; how it stands behind it. -/
theorem sw_step {h last : Int} {turned : Bool} {t : St} (hs : Sw h last turned t) {c : Cmd} (hc : t.cmd = some c) :
    c.write = false ∧ 1 ≤ c.nums.length ∧ ∃ t', (t.sent c).complete 0 false = some t' ∧ (waitL t').length + c.nums.length = (waitL t).length ∧
    (((c.page : Int) ≤ last → turned = false ∧ (c.page : Int) ≤ h ∧ Sw h (c.page + c.count - 1) true t') ∧ (last < (c.page : Int) → (turned = true → (c.page : Int) ≤ h) ∧ Sw h (c.page + c.count - 1) turned t')) := by
  have hC := rd_cmd hs.ok hs.rd hc
  obtain ⟨t', h1, h2, h3, h4, h5⟩ := rd_step hs.ok hs.rd hC
  have hok := ok_complete (ok_sent hs.ok hc) h1
  obtain ⟨r0, hr0, hr0n⟩ : ∃ r ∈ t.rs, r.num ∈ c.nums := by
    obtain ⟨n, hn⟩ := List.exists_mem_of_ne_nil _ hC.some_
    obtain ⟨r, hr, e⟩ := hC.sub n hn
    exact ⟨r, hr, e ▸ hn⟩
  -- one of its requests is to its first page: no waiting request lies ahead of it there
  have hlen : 1 ≤ c.nums.length := List.length_pos_iff.2 hC.some_
  have hcount := hC.count
  have hhead' : (t'.head : Int) = ((c.page : Int) + c.count - 1) + 1 := by rw [h3]; omega
  have hleft : ∀ r ∈ t'.rs, r.state = 0 → r ∈ t.rs ∧ ¬ ((c.page : Int) ≤ r.page ∧ r.page < c.page + c.count) := fun r hr h0 => by
    obtain ⟨m1, m2⟩ := h4 r hr h0
    exact ⟨m1, fun hx => m2 ((hC.nums r m1).2 ⟨h0, hx⟩)⟩
  -- a waiting request to the command's own first page
  obtain ⟨_, f, l, hS, _, hn⟩ := cmd_some hs.ok.a.head hc
  obtain ⟨x, hx, hxp⟩ := hS.all 0 (by have := hS.n1; omega)
  have hxr := (rd_ready hs.ok hs.rd).1 (hS.mem x hx).1
  have hxp' : x.page = (c.page : Int) := by rw [hxp]; simp
  have hxw := hs.wait x hxr.1 hxr.2
  have hhd := hs.head
  refine ⟨hC.write, hlen, t', h1, h5, fun hle => ?_, fun hlt => ?_⟩
  · -- it has gone round
    have htf : turned = false := by
      cases turned with
      | false => rfl
      | true => simp only [if_true] at hxw; omega
    subst htf
    simp only [Bool.false_eq_true, if_false] at hxw
    have hph : (c.page : Int) ≤ h := by omega
    refine ⟨rfl, hph, hok, h2, hhead', fun r hr h0 => ?_⟩
    obtain ⟨m1, m2⟩ := hleft r hr h0
    simp only [if_true]
    rcases hC.first with ⟨b1, b2⟩ | ⟨b1, b2, b3⟩
    · omega
    · have := b2 r m1 h0
      have := b3 r m1 h0
      have hw := hs.wait r m1 h0
      simp only [Bool.false_eq_true, if_false] at hw
      omega
  · have hge : t.head ≤ c.page := by omega
    refine ⟨fun ht => by subst ht; simp only [if_true] at hxw; omega, hok, h2, hhead', fun r hr h0 => ?_⟩
    obtain ⟨m1, m2⟩ := hleft r hr h0
    rcases hC.first with ⟨b1, b2⟩ | ⟨b1, b2, b3⟩
    · have := b2 r m1 h0
      have hw := hs.wait r m1 h0
      cases turned with
      | true => simp only [if_true] at hw ⊢; omega
      | false => simp only [Bool.false_eq_true, if_false] at hw ⊢; omega
    · omega
theorem rd_add {t : St} (h : Rd t) (p : Int) (hn : 0 ≤ t.now) : Rd (t.add false p ⟨0, 0, 0, 0⟩) :=
  ⟨h.cs, h.depth, fun r hr => by
    rcases List.mem_append.1 hr with hr | hr
    · exact h.rq r hr
    · rw [List.mem_singleton.1 hr]; exact ⟨rfl, rfl, rfl, rfl, .inl ⟨rfl, hn⟩⟩⟩
theorem waitL_add (t : St) (p : Int) : (waitL (t.add false p ⟨0, 0, 0, 0⟩)).length = (waitL t).length + 1 := by
  unfold waitL St.add
  rw [List.filter_append, List.length_append]
  rfl
theorem sw_ask {h : Int} {t : St} (hs : Sw h h false t) (hh : t.held < 40) {p : Int} (hp : 0 ≤ p ∧ p < 16) : Sw h h false (t.add false p ⟨0, 0, 0, 0⟩) := by
  refine ⟨ok_add hs.ok hh false p hp _ b0_ok, rd_add hs.rd p hs.ok.a.now, hs.head, fun r hr h0 => ?_⟩
  rcases List.mem_append.1 hr with hr | hr
  · exact hs.wait r hr h0
  · simp only [Bool.false_eq_true, if_false]; omega
/-- The first read: the head comes to stand behind its page. -/
theorem sw_begin {h : Int} (hh : 0 ≤ h ∧ h < 16) : ∃ c t', ((St.new 1).add false h ⟨0, 0, 0, 0⟩).cmd = some c ∧ (((St.new 1).add false h ⟨0, 0, 0, 0⟩).sent c).complete 0 false = some t' ∧ Sw h h false t' ∧ (waitL t').length = 0 := by
  obtain ⟨t0, ht0⟩ : ∃ t0, (St.new 1).add false h ⟨0, 0, 0, 0⟩ = t0 := ⟨_, rfl⟩
  have hok : t0.Ok := by rw [← ht0]; exact ok_add (ok_new (by omega)) (by simp [St.new]) false h hh _ b0_ok
  have hrd : Rd t0 := by rw [← ht0]; exact rd_add ⟨rfl, rfl, fun r hr => by cases hr⟩ h (by simp [St.new])
  have hrs : t0.rs = [newReq 1 false h ⟨0, 0, 0, 0⟩] := by rw [← ht0]; rfl
  have hw1 : (waitL t0).length = 1 := by unfold waitL; rw [hrs]; rfl
  rw [ht0]
  cases hc : t0.cmd with
  | none =>
    have := rd_none hok hrd hc
    rw [this] at hw1; simp at hw1
  | some c =>
    have hC := rd_cmd hok hrd hc
    obtain ⟨t', h1, h2, h3, h4, h5⟩ := rd_step hok hrd hC
    obtain ⟨_, f, l, hS, _, hn⟩ := cmd_some hok.a.head hc
    have hpg : ∀ k : Nat, k < c.count → h = ((c.page + k : Nat) : Int) := fun k hk => by
      obtain ⟨x, hx, hxp⟩ := hS.all k hk
      have hxr := (rd_ready hok hrd).1 (hS.mem x hx).1
      rw [hrs] at hxr
      rw [List.mem_singleton.1 hxr.1] at hxp
      exact hxp
    have hn1 := hS.n1
    have hc1 : c.count = 1 := by
      have e0 := hpg 0 (by omega)
      rcases Nat.lt_or_ge 1 c.count with h' | h'
      · have e1 := hpg 1 h'
        omega
      · omega
    have e0 := hpg 0 (by omega)
    have hlen : 1 ≤ c.nums.length := List.length_pos_iff.2 hC.some_
    refine ⟨c, t', rfl, h1, ⟨ok_complete (ok_sent hok hc) h1, h2, by rw [h3, hc1]; omega, fun r hr h0 => ?_⟩, by omega⟩
    have : r ∈ waitL t' := mem_waitL.2 ⟨hr, h0⟩
    have hl := List.length_pos_of_mem this
    omega
end Go.Proofs.YticobikhndlejaaDoor
