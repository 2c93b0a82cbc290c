/- Drive in plain Lean: its rounds, that they come to an end, what the end is. -/
import Derived.Test.YticobikhndlejaaGreatDoorScB
import Derived.Test.YticobikhndlejaaGreatDoorScV
import Derived.Test.YticobikhndlejaaGreatDoorScU
namespace Go.Proofs.YticobikhndlejaaGreatDoor

/-- A round of Drive: how many commands were completed, the queue. -/
def St.dnext (f : Nat → Bool) (n : Nat) (t : St) : Option (Nat × St) :=
  match t.cmd with
  | some c => some (n, t.sent c)
  | none =>
    match t.cs with
    | _ :: _ => (t.complete 0 (f n)).map fun t' => (n + 1, t')
    | [] => if t.waiting = [] then none else some (n, t.tick)
/-- How much is still to be done of a request. -/
def mR (now : Int) (r : Req) : Nat := if r.inAir then (4 - r.tries).toNat * 20 + 9 else if r.state = 0 then (4 - r.tries).toNat * 20 + 10 + (r.after - now).toNat else 0
def St.mu (t : St) : Nat := (t.rs.map (mR t.now)).sum
/-- Nobody waits long. -/
def St.Soon (t : St) : Prop := ∀ r ∈ t.rs, r.after ≤ t.now + 8

theorem sum_map_le (g h : Req → Nat) : ∀ (l : List Req), (∀ r ∈ l, g r ≤ h r) → (l.map g).sum ≤ (l.map h).sum
  | [], _ => Nat.le_refl _
  | r :: l, hl => by
    have h1 := hl r (by simp)
    have h2 := sum_map_le g h l fun x hx => hl x (by simp [hx])
    simp only [List.map_cons, List.sum_cons]; omega
theorem sum_map_lt (g h : Req → Nat) : ∀ (l : List Req), (∀ r ∈ l, g r ≤ h r) → (∃ r ∈ l, g r < h r) → (l.map g).sum < (l.map h).sum
  | [], _, ⟨r, hr, _⟩ => by cases hr
  | r :: l, hl, ⟨x, hx, hlt⟩ => by
    have h1 := hl r (by simp)
    have h2 := sum_map_le g h l fun x hx => hl x (by simp [hx])
    simp only [List.map_cons, List.sum_cons]
    rcases List.mem_cons.1 hx with rfl | hx
    · omega
    · have h3 := sum_map_lt g h l (fun x hx => hl x (by simp [hx])) ⟨x, hx, hlt⟩
      omega
theorem sum_filter_le (g : Req → Nat) (p : Req → Bool) : ∀ (l : List Req), ((l.filter p).map g).sum ≤ (l.map g).sum
  | [] => Nat.le_refl _
  | r :: l => by
    have h := sum_filter_le g p l
    rw [List.filter_cons]
    split
    · simp only [List.map_cons, List.sum_cons]; omega
    · simp only [List.map_cons, List.sum_cons]; omega
theorem sum_le_mul (g : Req → Nat) (b : Nat) : ∀ (l : List Req), (∀ r ∈ l, g r ≤ b) → (l.map g).sum ≤ l.length * b
  | [], _ => by simp
  | r :: l, hl => by
    have h1 := hl r (by simp)
    have h2 := sum_le_mul g b l fun x hx => hl x (by simp [hx])
    simp only [List.map_cons, List.sum_cons, List.length_cons, Nat.add_mul]; omega
theorem mu_le {t : St} (h : t.Ok) (hs : t.Soon) : t.mu ≤ t.rs.length * 98 := by
  refine sum_le_mul _ _ _ fun r hr => ?_
  have h1 := (h.a.rs.ok r hr).tries
  have h2 := hs r hr
  unfold mR
  split
  · omega
  · split <;> omega
/-! ### a command is sent -/
theorem sent_mu {t : St} (h : t.Ok) {c : Cmd} (hc : t.cmd = some c) : (t.sent c).mu < t.mu := by
  obtain ⟨hlt, f, l, hsel, hw, hn⟩ := cmd_some h.a.head hc
  have hs := h.a.rs.nums
  have hin : ∀ r ∈ t.rs, r.num ∈ c.nums → mR t.now (sentR r) < mR t.now r := fun r hr hm => by
    rw [hn] at hm
    have hx := hsel.numsIn hs hr hm
    obtain ⟨h1, h2, h3, h4⟩ := mem_readyR (hsel.mem r hx).1
    have hk := h.a.rs.ok r hr
    have hair : r.inAir = false := by
      cases ha : r.inAir with
      | false => rfl
      | true => have := hk.air ha; omega
    have h5 := hk.tries
    unfold mR sentR
    simp only [hair, h2, if_true, Bool.false_eq_true, if_false]
    omega
  show (((t.rs.map fun r => if r.num ∈ c.nums then sentR r else r)).map (mR t.now)).sum < (t.rs.map (mR t.now)).sum
  rw [List.map_map]
  refine sum_map_lt _ _ _ (fun r hr => ?_) ?_
  · simp only [Function.comp]
    split
    · rename_i hm; exact Nat.le_of_lt (hin r hr hm)
    · exact Nat.le_refl _
  · have hfm : f ∈ f :: l := by simp
    have hfr := (mem_readyR (hsel.mem f hfm).1).1
    have hfn : f.num ∈ c.nums := by rw [hn]; simp
    refine ⟨f, hfr, ?_⟩
    simp only [Function.comp, if_pos hfn]
    exact hin f hfr hfn
theorem sent_soon {t : St} (h : t.Soon) (c : Cmd) : (t.sent c).Soon := fun r hr => by
  obtain ⟨x, hx, rfl⟩ := List.mem_map.1 hr
  have := h x hx
  show (if x.num ∈ c.nums then sentR x else x).after ≤ t.now + 8
  split
  · exact this
  · exact this
/-! ### a try ends -/
theorem landR_mu {r : Req} (hk : ROk r) (ha : r.inAir = true) (now : Int) (disk : List Int) (fault : Bool) : mR now (St.landR now disk fault r) < mR now r := by
  have h1 := hk.try3 (by simp [Req.live, ha])
  have h2 := hk.tries
  have h3 := hk.air ha
  have hm : mR now r = (4 - r.tries).toNat * 20 + 9 := by unfold mR; rw [if_pos ha]
  have hf := (landR_num now disk fault r).2.2.2.1
  rw [hm]
  unfold mR
  rw [hf]
  simp only [Bool.false_eq_true, if_false]
  unfold St.landR
  simp only
  split
  · split
    · simp only [show ¬ ((2 : Int) = 0) by decide, if_false]; omega
    · split
      · simp only [show ¬ ((3 : Int) = 0) by decide, if_false]; omega
      · simp only [if_true]; omega
  · simp only
    have : ¬ r.state = 0 := by omega
    rw [if_neg this]; omega
theorem landR_soon {r : Req} (now : Int) (h : r.after ≤ now + 8) (disk : List Int) (fault : Bool) : (St.landR now disk fault r).after ≤ now + 8 := by
  unfold St.landR
  simp only
  split
  · split
    · exact h
    · split
      · exact h
      · simp only; omega
  · exact h
theorem land_mu {t : St} {n : Int} {air : List Int} (h : t.OkA (n :: air)) (fault : Bool) : (t.land fault n).mu < t.mu := by
  obtain ⟨r, hr, hn, ha⟩ := h.rs.fly n (by simp)
  subst hn
  have hf := find_num h.rs.nums hr
  unfold St.land
  rw [hf]
  show ((((t.rs.map fun x => if x.num = r.num then St.landR t.now t.disk fault x else x).filter _)).map (mR t.now)).sum < (t.rs.map (mR t.now)).sum
  refine Nat.lt_of_le_of_lt (sum_filter_le _ _ _) ?_
  rw [List.map_map]
  have hlt := landR_mu (h.rs.ok r hr) ha t.now t.disk fault
  refine sum_map_lt _ _ _ (fun x hx => ?_) ⟨r, hr, by simp only [Function.comp, if_true]; exact hlt⟩
  simp only [Function.comp]
  split
  · rename_i hh
    obtain rfl := rnum_inj h.rs.nums hx hr hh
    exact Nat.le_of_lt hlt
  · exact Nat.le_refl _
theorem land_soon {t : St} (h : t.Soon) (fault : Bool) (n : Int) : (t.land fault n).Soon := by
  unfold St.land
  split
  · exact h
  · intro r hr
    obtain ⟨h1, _⟩ := List.mem_filter.1 hr
    obtain ⟨x, hx, rfl⟩ := List.mem_map.1 h1
    have := h x hx
    show (if _ then _ else _ : Req).after ≤ t.now + 8
    split
    · exact landR_soon t.now this t.disk fault
    · exact this
theorem lands_mu (fault : Bool) : ∀ (ns : List Int) (t : St) (air : List Int), t.OkA (ns ++ air) → (ns.foldl (St.land fault) t).mu ≤ t.mu ∧ (ns ≠ [] → (ns.foldl (St.land fault) t).mu < t.mu)
  | [], _, _, _ => ⟨Nat.le_refl _, fun h => absurd rfl h⟩
  | n :: ns, t, air, h => by
    have h1 := land_mu (t := t) (n := n) (air := ns ++ air) h fault
    have h2 := (lands_mu fault ns (t.land fault n) air (okA_land h fault)).1
    simp only [List.foldl_cons]
    exact ⟨by omega, fun _ => by omega⟩
theorem lands_soon (fault : Bool) : ∀ (ns : List Int) (t : St), t.Soon → (ns.foldl (St.land fault) t).Soon
  | [], _, h => h
  | n :: ns, t, h => lands_soon fault ns (t.land fault n) (land_soon h fault n)
theorem okA_cut {t : St} (h : t.Ok) {k : Nat} {c : Cmd} (hck : t.cs[k]? = some c) : ({ t with cs := t.cs.eraseIdx k } : St).OkA (c.nums ++ ((t.cs.eraseIdx k).flatMap (·.nums))) := by
  obtain ⟨hl, e⟩ := List.getElem?_eq_some_iff.1 hck
  have hp : (t.cs.flatMap (·.nums)).Perm (c.nums ++ (t.cs.eraseIdx k).flatMap (·.nums)) := by
    have := (perm_erase hl e).flatMap_right (·.nums)
    simpa using this
  refine ⟨h.a.depth, h.a.head, h.a.dlen, h.a.dbyte, h.a.last, h.a.now, ⟨h.a.rs.nums, h.a.rs.num, h.a.rs.ok, hp.nodup h.a.rs.nodup, fun n hn => h.a.rs.fly n (hp.mem_iff.2 hn), fun r hr ha => hp.mem_iff.1 (h.a.rs.airs r hr ha), h.a.rs.free⟩, h.a.held, h.a.h40⟩
theorem complete_mu {t t' : St} (h : t.Ok) {k : Nat} {fault : Bool} (hc : t.complete k fault = some t') : t'.mu < t.mu := by
  unfold St.complete at hc
  cases hk : t.cs[k]? with
  | none => rw [hk] at hc; cases hc
  | some c =>
    rw [hk] at hc
    simp only [Option.some.injEq] at hc
    subst hc
    have hok := h.cmds c (List.mem_of_getElem? hk)
    have := (lands_mu fault c.nums _ _ (okA_cut h hk)).2 (fun e => by have := hok.len; have := hok.count; rw [e] at *; simp at *; omega)
    exact this
theorem complete_soon {t t' : St} (h : t.Soon) {k : Nat} {fault : Bool} (hc : t.complete k fault = some t') : t'.Soon := by
  unfold St.complete at hc
  split at hc
  · cases hc
  · simp only [Option.some.injEq] at hc
    subst hc
    exact lands_soon fault _ _ h
/-! ### a tick -/
theorem waiting_min : ∀ (l : List Req), (l.filter fun r => r.state == 0) ≠ [] → l.Pairwise (·.num < ·.num) → ∃ r ∈ l, r.state = 0 ∧ ∀ o ∈ l, o.state = 0 → r.num ≤ o.num
  | [], h, _ => absurd rfl h
  | r :: l, h, hs => by
    rw [List.pairwise_cons] at hs
    by_cases h0 : r.state = 0
    · refine ⟨r, by simp, h0, fun o ho _ => ?_⟩
      rcases List.mem_cons.1 ho with rfl | ho
      · exact Int.le_refl _
      · have := hs.1 o ho; omega
    · rw [List.filter_cons_of_neg (by simpa using h0)] at h
      obtain ⟨x, h1, h2, h3⟩ := waiting_min l h hs.2
      refine ⟨x, by simp [h1], h2, fun o ho hz => ?_⟩
      rcases List.mem_cons.1 ho with rfl | ho
      · exact absurd hz h0
      · exact h3 o ho hz
theorem idle_later {t : St} (h : t.Ok) (hc : t.cmd = none) (hcs : t.cs = []) (hw : t.waiting ≠ []) : ∃ r ∈ t.rs, r.state = 0 ∧ r.inAir = false ∧ t.now < r.after := by
  have hne : (t.rs.filter fun r => r.state == 0) ≠ [] := fun e => hw (by unfold St.waiting; rw [e]; rfl)
  obtain ⟨r, hr, h0, hmin⟩ := waiting_min t.rs hne h.a.rs.nums
  have hair : ∀ o ∈ t.rs, o.inAir = false := fun o ho => by
    cases ha : o.inAir with
    | false => rfl
    | true =>
      have := h.a.rs.airs o ho ha
      rw [hcs] at this
      simp at this
  refine ⟨r, hr, h0, hair r hr, ?_⟩
  rcases cmd_none h.a.head hc with hd | hp
  · have := h.a.depth
    rw [hcs] at hd
    simp at hd; omega
  · have hpg := (h.a.rs.ok r hr).page
    refine Int.not_le.1 fun hle => ?_
    have hmem := ready_mem (now := t.now) hr hpg h0 hle fun o ho => by
      cases hb : o.blocks r with
      | false => rfl
      | true =>
        have hl := blocks_live hb
        have ho0 : o.state = 0 := by simpa [Req.live, hair o ho] using hl
        have := hmin o ho ho0
        unfold Req.blocks at hb
        simp only [Bool.and_eq_true, decide_eq_true_eq] at hb
        omega
    have := hp r.page.toNat (by omega)
    have hin : r ∈ pageR (readyR t.now t.rs) r.page.toNat := List.mem_filter.2 ⟨hmem, by simp; omega⟩
    rw [this] at hin
    cases hin
theorem tick_mu {t : St} (h : t.Ok) (hc : t.cmd = none) (hcs : t.cs = []) (hw : t.waiting ≠ []) : t.tick.mu < t.mu := by
  obtain ⟨r, hr, h0, ha, hlt⟩ := idle_later h hc hcs hw
  show (t.rs.map (mR (t.now + 1))).sum < (t.rs.map (mR t.now)).sum
  refine sum_map_lt _ _ _ (fun x _ => ?_) ⟨r, hr, ?_⟩
  · unfold mR
    split
    · exact Nat.le_refl _
    · split
      · omega
      · exact Nat.le_refl _
  · unfold mR
    rw [if_neg (by rw [ha]; simp), if_pos h0, if_neg (by rw [ha]; simp), if_pos h0]
    omega
theorem tick_soon {t : St} (h : t.Soon) : t.tick.Soon := fun r hr => by
  have := h r hr
  show r.after ≤ t.now + 1 + 8
  omega
/-! ### rounds -/
theorem dnext_cases {f : Nat → Bool} {n : Nat} {t : St} {n' : Nat} {t' : St} (h : t.dnext f n = some (n', t')) :
    (∃ c, t.cmd = some c ∧ n' = n ∧ t' = t.sent c) ∨ (t.cmd = none ∧ 0 < t.cs.length ∧ n' = n + 1 ∧ t.complete 0 (f n) = some t') ∨ (t.cmd = none ∧ t.cs = [] ∧ t.waiting ≠ [] ∧ n' = n ∧ t' = t.tick) := by
  unfold St.dnext at h
  cases hc : t.cmd with
  | some c =>
    rw [hc] at h
    simp only [Option.some.injEq, Prod.mk.injEq] at h
    exact .inl ⟨c, rfl, h.1.symm, h.2.symm⟩
  | none =>
    rw [hc] at h
    cases hcs : t.cs with
    | cons c l =>
      rw [hcs] at h
      simp only [Option.map_eq_some_iff, Prod.mk.injEq] at h
      obtain ⟨x, h1, h2, h3⟩ := h
      subst h3
      exact .inr (.inl ⟨rfl, by simp, h2.symm, h1⟩)
    | nil =>
      rw [hcs] at h
      simp only at h
      split at h
      · cases h
      · rename_i hw
        simp only [Option.some.injEq, Prod.mk.injEq] at h
        exact .inr (.inr ⟨rfl, rfl, hw, h.1.symm, h.2.symm⟩)
theorem dnext_none {f : Nat → Bool} {n : Nat} {t : St} (h : t.dnext f n = none) : t.cmd = none ∧ t.cs = [] ∧ t.waiting = [] := by
  unfold St.dnext at h
  cases hc : t.cmd with
  | some c => rw [hc] at h; cases h
  | none =>
    rw [hc] at h
    cases hcs : t.cs with
    | cons c l =>
      rw [hcs] at h
      simp [St.complete, hcs] at h
    | nil =>
      rw [hcs] at h
      simp only at h
      split at h
      · rename_i hw; exact ⟨rfl, rfl, hw⟩
      · cases h
structure DStep (n : Nat) (t : St) (n' : Nat) (t' : St) : Prop where
  ok : t'.Ok
  soon : t'.Soon
  mu : t'.mu < t.mu
  last : t'.last = t.last
  depth : t'.depth = t.depth
  held : t'.held = t.held
  now : t.now ≤ t'.now ∧ t'.now ≤ t.now + 1
  cnt : n ≤ n' ∧ n' ≤ n + 1
theorem dnext_step {f : Nat → Bool} {n : Nat} {t : St} {n' : Nat} {t' : St} (hk : t.Ok) (hs : t.Soon) (h : t.dnext f n = some (n', t')) : DStep n t n' t' := by
  rcases dnext_cases h with ⟨c, hc, rfl, rfl⟩ | ⟨hc, hcs, rfl, hco⟩ | ⟨hc, hcs, hw, rfl, rfl⟩
  · exact ⟨ok_sent hk hc, sent_soon hs c, sent_mu hk hc, rfl, rfl, rfl, ⟨Int.le_refl _, by show t.now ≤ t.now + 1; omega⟩, by omega⟩
  · obtain ⟨a1, a2, a3⟩ := complete_same hco
    refine ⟨ok_complete hk hco, complete_soon hs hco, complete_mu hk hco, a1, ?_, a3, by omega, by omega⟩
    unfold St.complete at hco
    split at hco
    · cases hco
    · simp only [Option.some.injEq] at hco
      rw [← hco]
      exact (lands_same (f n) _ _).1
  · exact ⟨ok_tick hk, tick_soon hs, tick_mu hk hc hcs hw, rfl, rfl, rfl, by simp only [St.tick]; omega, by omega⟩
/-- Drive with so many rounds at most. -/
def St.driveN (f : Nat → Bool) : Nat → Nat → St → Nat × St
  | 0, n, t => (n, t)
  | k + 1, n, t => match t.dnext f n with
    | none => (n, t)
    | some (n', t') => St.driveN f k n' t'
theorem driveN_more {f : Nat → Bool} : ∀ (k : Nat) (n : Nat) (t : St), t.Ok → t.Soon → t.mu < k → ∀ j, k ≤ j → St.driveN f j n t = St.driveN f k n t
  | 0, _, _, _, _, h, _, _ => absurd h (Nat.not_lt_zero _)
  | k + 1, n, t, hk, hs, h, j, hj => by
    cases j with
    | zero => omega
    | succ j =>
      unfold St.driveN
      cases hd : t.dnext f n with
      | none => rfl
      | some x =>
        obtain ⟨n', t'⟩ := x
        have hst := dnext_step hk hs hd
        simp only
        have := hst.mu
        exact driveN_more k n' t' hst.ok hst.soon (by omega) j (by omega)
/-- Drive. -/
def St.drive (f : Nat → Bool) (n : Nat) (t : St) : Nat × St := St.driveN f (t.mu + 1) n t
theorem drive_end {f : Nat → Bool} {n : Nat} {t : St} (h : t.dnext f n = none) : t.drive f n = (n, t) := by
  unfold St.drive St.driveN
  rw [h]
theorem drive_step {f : Nat → Bool} {n : Nat} {t : St} {n' : Nat} {t' : St} (hk : t.Ok) (hs : t.Soon) (h : t.dnext f n = some (n', t')) : t.drive f n = t'.drive f n' := by
  have hst := dnext_step hk hs h
  have := hst.mu
  unfold St.drive
  conv => lhs; unfold St.driveN
  rw [h]
  simp only
  exact driveN_more (t'.mu + 1) n' t' hst.ok hst.soon (by omega) t.mu (by omega)
theorem drive_ind (P : Nat → St → Prop) {f : Nat → Bool} (hP : ∀ n t n' t', t.Ok → t.Soon → t.dnext f n = some (n', t') → P n t → P n' t') : ∀ (k : Nat) (n : Nat) (t : St), t.mu < k → t.Ok → t.Soon → P n t → P (t.drive f n).1 (t.drive f n).2 ∧ (t.drive f n).2.dnext f (t.drive f n).1 = none ∧ (t.drive f n).2.Ok ∧ (t.drive f n).2.Soon
  | 0, _, _, h, _, _, _ => absurd h (Nat.not_lt_zero _)
  | k + 1, n, t, h, hk, hs, hp => by
    cases hd : t.dnext f n with
    | none => rw [drive_end hd]; exact ⟨hp, hd, hk, hs⟩
    | some x =>
      obtain ⟨n', t'⟩ := x
      have hst := dnext_step hk hs hd
      have := hst.mu
      rw [drive_step hk hs hd]
      exact drive_ind P hP k n' t' (by omega) hst.ok hst.soon (hP n t n' t' hk hs hd hp)
structure DriveEnd (t t' : St) : Prop where
  ok : t'.Ok
  soon : t'.Soon
  cmd : t'.cmd = none
  cs : t'.cs = []
  waiting : t'.waiting = []
  last : t'.last = t.last
  depth : t'.depth = t.depth
  held : t'.held = t.held
  now : t.now ≤ t'.now ∧ t'.now ≤ t.now + t.mu
theorem drive_spec {f : Nat → Bool} {n : Nat} {t : St} (hk : t.Ok) (hs : t.Soon) : DriveEnd t (t.drive f n).2 ∧ n ≤ (t.drive f n).1 ∧ (t.drive f n).1 ≤ n + t.mu := by
  obtain ⟨⟨h1, h2, h3, h4, h5, h6, h7⟩, hd, hok, hso⟩ := drive_ind (f := f) (fun n' t' => t'.last = t.last ∧ t'.depth = t.depth ∧ t'.held = t.held ∧ t.now ≤ t'.now ∧ t'.now + t'.mu ≤ t.now + t.mu ∧ n ≤ n' ∧ n' + t'.mu ≤ n + t.mu)
    (fun n1 t1 n2 t2 hk1 hs1 hd ⟨a1, a2, a3, a4, a5, a6, a7⟩ => by
      have hst := dnext_step hk1 hs1 hd
      have b1 := hst.last; have b2 := hst.depth; have b3 := hst.held; have b4 := hst.now; have b5 := hst.cnt; have b6 := hst.mu
      refine ⟨by omega, by omega, by omega, by omega, by omega, by omega, by omega⟩)
    (t.mu + 1) n t (by omega) hk hs ⟨rfl, rfl, rfl, Int.le_refl _, Int.le_refl _, Nat.le_refl _, Nat.le_refl _⟩
  obtain ⟨e1, e2, e3⟩ := dnext_none hd
  exact ⟨⟨hok, hso, e1, e2, e3, h1, h2, h3, by omega⟩, h6, by omega⟩
/-! ### nobody waits long -/
theorem soon_new (d : Nat) : (St.new d).Soon := fun _ h => by cases h
theorem soon_add {t : St} (h : t.Soon) (hn : 0 ≤ t.now) (w : Bool) (p : Int) (d : B4) : (t.add w p d).Soon := fun r hr => by
  rcases List.mem_append.1 hr with hr | hr
  · exact h r hr
  · obtain rfl := List.mem_singleton.1 hr
    show (0 : Int) ≤ t.now + 8
    omega
theorem soon_tell {t : St} (h : t.Soon) (n : Int) : (t.tell n).Soon := fun r hr => by
  obtain ⟨h1, _⟩ := List.mem_filter.1 (show r ∈ St.tellRs t.rs n from hr)
  obtain ⟨x, hx, rfl⟩ := List.mem_map.1 h1
  have := h x hx
  show (if _ then _ else _ : Req).after ≤ t.now + 8
  split
  · exact this
  · exact this
theorem soon_give {t : St} (h : t.Soon) (n : Int) : (t.give n).Soon := fun r hr => by
  obtain ⟨x, hx, rfl⟩ := List.mem_map.1 (show r ∈ t.rs.map _ from hr)
  have := h x hx
  show (if _ then _ else _ : Req).after ≤ t.now + 8
  split
  · exact this
  · exact this
theorem soon_crash (t : St) (f : Nat → Bool) : (t.crash f).Soon := fun _ h => by cases h
/-- Nobody waits, nobody is under way: what is not told is done, has failed or was given up. -/
theorem settled {t : St} (h : t.Ok) (hcs : t.cs = []) (hw : t.waiting = []) : ∀ r ∈ t.rs, 2 ≤ r.state ∧ r.inAir = false := fun r hr => by
  have hair : r.inAir = false := by
    cases ha : r.inAir with
    | false => rfl
    | true =>
      have := h.a.rs.airs r hr ha
      rw [hcs] at this
      simp at this
  have hk := h.a.rs.ok r hr
  refine ⟨?_, hair⟩
  have h0 : r.state ≠ 0 := fun h0 => by
    have : r.num ∈ t.waiting := List.mem_map_of_mem (List.mem_filter.2 ⟨hr, by simp [h0]⟩)
    rw [hw] at this
    cases this
  have h1 : r.state ≠ 1 := fun h1 => by have := hk.uair h1; rw [hair] at this; cases this
  have := hk.st
  omega
end Go.Proofs.YticobikhndlejaaGreatDoor

/- The document's queue: Complete by contract. -/
namespace Go.Proofs.YticobikhndlejaaGreatDoor
open Go.RowKit Go.Shelf Go.Lib

set_option maxRecDepth 100000 in
theorem complete_no_r (w : World) {q : Nat} {t : St} {G : Nat → Prop} (h : RT w q t G) (k : Int) (fault : Bool) (hk : k < 0 ∨ (t.cs.length : Int) ≤ k) :
    Calls Tryz.prog 55 #[ptr q, .int .i64 k, .bool fault] w fun y w' => y = .returned (.bool false) ∧ w = w' := by
  obtain ⟨l, told, fs, rv, tv, fv, dv, h1, h2, h3⟩ := h
  obtain ⟨fa, fc, rfl⟩ := own_slice h1.fls.row
  have c3 := h1.c3
  have hfl : fs.length = t.cs.length := by rw [← h1.fcs, List.length_map]
  obtain ⟨nf, hnf⟩ : ∃ nf, fs.length = nf := ⟨_, rfl⟩
  rw [hnf] at c3 hfl
  clear h1 h2 h3 hnf
  by_cases h0 : k < 0
  · go_enter Tryz.func55, Tryz.ntmps55
    go_wp2_with fail
    go_ret
    exact ⟨rfl, rfl⟩
  · have h4 : k ≥ (nf : Int) := by omega
    go_enter Tryz.func55, Tryz.ntmps55
    go_wp2_with fail
    go_ret
    exact ⟨rfl, rfl⟩
theorem foldl_take_succ {α β : Type} (f : β → α → β) (b : β) {l : List α} {j : Nat} {a : α} (h : l[j]? = some a) : (l.take (j + 1)).foldl f b = f ((l.take j).foldl f b) a := by
  obtain ⟨hl, e⟩ := List.getElem?_eq_some_iff.1 h
  rw [List.take_succ_eq_append_getElem hl, List.foldl_append, e]; rfl
theorem okA_take {t : St} (fault : Bool) {ns air : List Int} (h : t.OkA (ns ++ air)) {j : Nat} {n : Int} (hj : ns[j]? = some n) : ∃ air', ((ns.take j).foldl (St.land fault) t).OkA (n :: air') := by
  obtain ⟨hl, e⟩ := List.getElem?_eq_some_iff.1 hj
  have : ns ++ air = ns.take j ++ (n :: (ns.drop (j + 1) ++ air)) := by
    conv => lhs; rw [← List.take_append_drop j ns, List.drop_eq_getElem_cons hl, e]
    simp
  rw [this] at h
  exact ⟨_, okA_lands fault _ _ _ h⟩
theorem rlen_okA {t : St} {air : List Int} (h : t.OkA air) {l : List RR} {told : List Int} (h2 : RRel l told t) (hl : t.last < 900000) : l.length ≤ 1000000 ∧ told.length ≤ 1000000 := by
  have h1 := nums_len (last := t.last) 0 h.rs.nums (fun r hr => by have := h.rs.num r hr; omega) h.last
  have h3 := h2.len
  have h4 := h2.told.len h.rs.nums
  have h5 := List.length_filter_le (fun r : Req => r.told) t.rs
  omega
theorem erase_pairwise {α : Type} {R : α → α → Prop} {l : List α} (h : l.Pairwise R) (k : Nat) : (l.eraseIdx k).Pairwise R := h.sublist (List.eraseIdx_sublist l k)
/-- One of the rest is not the one that was taken out. -/
theorem erase_apart {l : List (Cmd × Value)} (h : l.Pairwise fun a b => ∀ k, a.2.ownBlock = some k → b.2.ownBlock ≠ some k) {k : Nat} {c : Cmd × Value} (hk : l[k]? = some c) : ∀ x ∈ l.eraseIdx k, ∀ g, c.2.ownBlock = some g → x.2.ownBlock ≠ some g := by
  obtain ⟨hl, e⟩ := List.getElem?_eq_some_iff.1 hk
  rw [← List.take_append_drop k l, List.drop_eq_getElem_cons hl, e, List.pairwise_append, List.pairwise_cons] at h
  intro x hx g hg
  rw [List.eraseIdx_eq_take_drop_succ] at hx
  rcases List.mem_append.1 hx with hx | hx
  · exact fun hg2 => h.2.2 x hx c (by simp) g hg2 hg
  · exact h.2.1.1 x hx g hg
set_option maxRecDepth 100000 in
set_option maxHeartbeats 4000000 in
theorem complete_r (w : World) {q : Nat} {t : St} {G : Nat → Prop} (h : RT w q t G) (hk : t.Ok) (hsm : t.Small) (k : Nat) (fault : Bool) (t' : St) (hc : t.complete k fault = some t') :
    Calls Tryz.prog 55 #[ptr q, .int .i64 k, .bool fault] w fun y w' => ∃ G', y = .returned (.bool true) ∧ RT w' q t' G' ∧ (∀ k, G' k → G k ∨ w.heap.size ≤ k) ∧ Chg G w w' := by
  obtain ⟨l, told, fs, rv, tv, fv, dv, h1, h2, h3⟩ := h
  have hcs : ∃ c cv, t.cs[k]? = some c ∧ fs[k]? = some (c, cv) ∧ t' = c.nums.foldl (St.land fault) { t with cs := t.cs.eraseIdx k } := by
    unfold St.complete at hc
    cases hck : t.cs[k]? with
    | none => rw [hck] at hc; cases hc
    | some c =>
      rw [hck] at hc
      simp only [Option.some.injEq] at hc
      rw [← h1.fcs, List.getElem?_map] at hck
      obtain ⟨⟨c', cv⟩, e1, e2⟩ := Option.map_eq_some_iff.1 hck
      obtain rfl : c' = c := e2
      exact ⟨c', cv, rfl, e1, hc.symm⟩
  obtain ⟨c, cv, hck, hfk, rfl⟩ := hcs
  clear hc
  have hokA := okA_cut hk hck
  obtain ⟨t1, ht1⟩ : ∃ t1 : St, { t with cs := t.cs.eraseIdx k } = t1 := ⟨_, rfl⟩
  have hla := hsm.last
  have hnw := hsm.now
  have hcl : t.cs.length ≤ 4 := by have := hk.len; have := hk.a.depth; omega
  have hfl : fs.length = t.cs.length := by rw [← h1.fcs, List.length_map]
  have hr2 : RRel l told t1 := rrel_same h2 (by rw [← ht1])
  rw [ht1] at hokA ⊢
  have hcv : w.ownsRow 0 3 1 cv c.nums.length (c.nums.map fun n => Value.int .i64 n) := h1.fls.rows _ (List.mem_of_getElem? hfk)
  obtain ⟨N, hN⟩ : ∃ N, c.nums.length = N := ⟨_, rfl⟩
  have hN6 : N ≤ 1000000 := by
    have hnd : c.nums.Nodup := by
      have := hokA.rs.nodup
      rw [List.nodup_append] at this
      exact this.1
    have h5 : (c.nums.length : Nat) ≤ (t1.rs.map (·.num)).length := len_sub c.nums hnd _ fun a ha => by
      obtain ⟨r, hr, hrn, _⟩ := hokA.rs.fly a (by simp [ha])
      rw [← hrn]
      exact List.mem_map_of_mem hr
    rw [List.length_map, ← hr2.len] at h5
    have := rlen_okA hokA hr2 (by rw [← ht1]; exact hla)
    omega
  obtain ⟨nf, hnf⟩ : ∃ nf, fs.length = nf := ⟨_, rfl⟩
  have hkf : k < nf := by have := (List.getElem?_eq_some_iff.1 hfk).1; omega
  have hnf4 : nf ≤ 4 := by omega
  have hkI : (k : Int) < (nf : Int) := by omega
  have hk0 : (0 : Int) ≤ (k : Int) := by omega
  have hkn : ¬ (k : Int) < 0 := by omega
  have hkg : ¬ (k : Int) ≥ (nf : Int) := by omega
  obtain ⟨fa, fc, rfl⟩ := own_slice h1.fls.row
  obtain ⟨gf, capf, ef, _, hglf, hcellf⟩ := cmd_cells h1.fls.row hfk
  obtain ⟨va, vc, rfl⟩ := own_slice hcv
  simp only [Value.slice.injEq] at ef
  obtain ⟨rfl, hdrop, rfl⟩ := ef
  clear hdrop
  have c3 := h1.c3
  rw [hnf] at c3
  have a0 : w.cell? ⟨gf, k * 4, none⟩ = some (.bool c.write) := hcellf 0 _ rfl
  have a1 : w.cell? ⟨gf, k * 4 + 1, none⟩ = some (.int .i64 c.page) := hcellf 1 _ rfl
  have a2 : w.cell? ⟨gf, k * 4 + 2, none⟩ = some (.int .i64 c.count) := hcellf 2 _ rfl
  have a3 : w.cell? ⟨gf, k * 4 + 3, none⟩ = some (.slice va c.nums.length vc) := hcellf 3 _ rfl
  rw [hN] at a3 hcv
  have hql := lt_of_heap h1.que
  obtain ⟨W2, hW2⟩ : ∃ W2, w.alloc (.cells #[.bool c.write, .int .i64 c.page, .int .i64 c.count, .slice va N vc] 48) = W2 := ⟨_, rfl⟩
  have hcb : W2.heap[w.heap.size]? = some (.cells #[.bool c.write, .int .i64 c.page, .int .i64 c.count, .slice va N vc] 48 (0, 0)) := by rw [← hW2]; exact World.alloc_heap_new _ _
  have hb2 : Below w.heap.size w W2 := by rw [← hW2]; exact (Below.refl _ _).alloc (Nat.le_refl _) _
  have HR := Lib.hid h1
  have H2 := Lib.hid hr2
  have H3 := Lib.hid h3
  have HOK := Lib.hid hokA
  have HT1 := Lib.hid ht1
  have HFK := Lib.hid hfk
  have HCV := Lib.hid hcv
  have HNL := Lib.hid hN
  have HNF := Lib.hid hnf
  have HW2 := Lib.hid hW2
  have HCB := Lib.hid hcb
  have HB2 := Lib.hid hb2
  have HCK := Lib.hid hck
  obtain ⟨i4, hi4, hz40, hz41, hz42⟩ := info_parts Tryz.infoC
  clear h1 h2 h3 hk hsm hck hfk hokA ht1 hr2 hcv hN hnf hfl hcl hW2 hcb hb2 hcellf
  go_enter Tryz.func55, Tryz.ntmps55
  go_wp2_with fail
  rw [HW2.out]
  go_loopg [8, 9] nf (fun kk out i wx => ∃ j, kk = nf - j ∧ j ≤ nf ∧ i = .int .i64 j ∧ wx.ownsRow W2.heap.size 48 4 out ((fs.take j).eraseIdx k).length (((fs.take j).eraseIdx k).flatMap cmdCells) ∧ Below W2.heap.size W2 wx)
  case atStart => exact ⟨0, by simp, by omega, rfl, by simpa using World.ownsRow_nil _ _ _ _, Below.refl _ _⟩
  case round =>
    obtain ⟨j, rfl, hj, rfl, hrow, hBj⟩ := hrel
    have hBw := HB2.out.trans (hBj.mono HB2.out.size)
    have hR := HR.out.below hBw
    have d3 := hR.c3
    rw [HNF.out] at d3
    by_cases hlt : j < nf
    · have hltI : (j : Int) < (nf : Int) := by omega
      have hj0 : (0 : Int) ≤ (j : Int) := by omega
      by_cases hjk : j = k
      · subst hjk
        have HRW := Lib.hid hrow
        clear hR hrow
        go_wp2_with fail
        go_roundg (nf - (j + 1))
        case measure => omega
        case rel => exact ⟨j + 1, rfl, by omega, by go_num, by rw [erase_take_eq]; exact HRW.out, hBj⟩
      · have hjkI : ¬ (j : Int) = (k : Int) := by omega
        obtain ⟨⟨y, yv⟩, hy⟩ : ∃ y, fs[j]? = some y := ⟨_, List.getElem?_eq_getElem (by have := HNF.out; omega)⟩
        have hyv : wr.ownsRow 0 3 1 yv y.nums.length (y.nums.map fun n => Value.int .i64 n) := hR.fls.rows _ (List.mem_of_getElem? hy)
        obtain ⟨ya, yc, rfl⟩ := own_slice hyv
        obtain ⟨g2, cap2, e2, _, _, hcell⟩ := cmd_cells hR.fls.row hy
        simp only [Value.slice.injEq, Option.some.injEq, Addr.mk.injEq] at e2
        obtain ⟨⟨rfl, _⟩, hdrop, rfl⟩ := e2
        clear hdrop
        obtain ⟨Ny, hNy⟩ : ∃ Ny, y.nums.length = Ny := ⟨_, rfl⟩
        have p0 : wr.cell? ⟨gf, j * 4, none⟩ = some (.bool y.write) := hcell 0 _ rfl
        have p1 : wr.cell? ⟨gf, j * 4 + 1, none⟩ = some (.int .i64 y.page) := hcell 1 _ rfl
        have p2 : wr.cell? ⟨gf, j * 4 + 2, none⟩ = some (.int .i64 y.count) := hcell 2 _ rfl
        have p3 : wr.cell? ⟨gf, j * 4 + 3, none⟩ = some (.slice ya y.nums.length yc) := hcell 3 _ rfl
        rw [hNy] at p3
        have hel := erase_take_len fs k j
        obtain ⟨mm, hmm⟩ : ∃ mm, ((fs.take j).eraseIdx k).length = mm := ⟨_, rfl⟩
        rw [hmm] at hrow hel
        have HMM := Lib.hid hmm
        have HY := Lib.hid hy
        have HNY := Lib.hid hNy
        have hsz := hBj.size
        clear hR hcell hmm hy hyv hNy
        go_wp2_with (at_builtin; refine wpList_append_own _ rfl _ _ 55 rfl W2.heap.size 48 i4 _ 4 48 Tryz.underlying55 hi4 hz40 hz41 hz42 rfl (by decide) _ _ _ rfl (hrow.alloc _) ⟨wr.heap.size, 0, none⟩ 1 1 [.bool y.write, .int .i64 y.page, .int .i64 y.count, .slice ya Ny yc] rfl rfl (World.news_of_block (World.alloc_heap_new wr _)) (by simp [Value.oneCell']) ?_ ?_ ?_ ?_)
        · unfold maxLen; omega
        · omega
        · first | omega | (simp; omega)
        intro v' w3 hown' hgrow _
        have hB3 : Below W2.heap.size W2 w3 := (hBj.alloc hBj.size _).grown hgrow (by simp; omega) (fun k ek => (hrow.lt k ek).1)
        have HO := Lib.hid hown'
        clear hown' hgrow hrow
        go_wp2
        go_roundg (nf - (j + 1))
        case measure => omega
        case rel => exact ⟨j + 1, rfl, by omega, by go_num, by rw [erase_take_ne HY.out hjk, List.length_append, List.flatMap_append, HMM.out]; have := HO.out; rw [← HNY.out] at this; exact this, hB3⟩
    · obtain rfl : j = nf := by omega
      have hall : fs.take j = fs := List.take_of_length_le (by have := HNF.out; omega)
      rw [hall] at hrow
      obtain ⟨oa, oc, rfl⟩ := own_slice hrow
      obtain ⟨Wa, rfl⟩ : ∃ z, z = wr := ⟨_, rfl⟩
      have hfq := hR.free
      have hB0 := hBw
      have hcm : CmdsAt Wa 0 (.slice oa (fs.eraseIdx k).length oc) (fs.eraseIdx k) := ⟨ownsRow_lowS hrow (Nat.zero_le _), fun x hx => hR.fls.rows x (List.mem_of_mem_eraseIdx hx), erase_pairwise hR.fls.apart k⟩
      obtain ⟨f1, f2⟩ := HR.out.setF (W := Wa) (v' := .slice oa (fs.eraseIdx k).length oc) (chgB hBw _) hcm (fun k' hk' => .inr (Nat.le_trans HB2.out.size (hrow.lt k' hk').1)) (fun x hx => .inl (List.mem_of_mem_eraseIdx hx)) (t' := t1) (by rw [← HT1.out, map_erase, HR.out.fcs]) (by rw [← HT1.out]) (by rw [← HT1.out]) (by rw [← HT1.out]) (by rw [← HT1.out]) (by rw [← HT1.out])
      have hcbA := (hBj.block _ (lt_of_heap HCB.out)).trans HCB.out
      have hvA := ownsRow_chg HCV.out (chgB hBw fun _ => False) fun _ _ z => z
      have hcs3 : Chg (fun k => k = q) Wa (Wa.setCell ⟨q, 3, none⟩ (.slice oa (fs.eraseIdx k).length oc)) := Chg.setCell (S := fun k => k = q) (p := ⟨q, 3, none⟩) (Chg.refl _ Wa) (.inl rfl) _
      have hcbL := (hcs3.block _ (lt_of_heap hcbA) (fun e => by omega)).trans hcbA
      have hneC := fun g (hg : (Value.slice va c.nums.length vc).ownBlock = some g) => HR.out.ne_cv (List.mem_of_getElem? HFK.out) hg
      have hvL := ownsRow_chg hvA hcs3 fun k' hk' e => (hneC _ (by rw [HNL.out]; exact hk')).1 e
      obtain ⟨WL, hWL⟩ : ∃ WL, Wa.setCell ⟨q, 3, none⟩ (.slice oa (fs.eraseIdx k).length oc) = WL := ⟨_, rfl⟩
      have hvnew : ∀ g, (Value.slice oa (fs.eraseIdx k).length oc).ownBlock = some g → W2.heap.size ≤ g := fun g hg => (hrow.lt g hg).1
      have hszw : W2.heap.size = w.heap.size + 1 := by rw [← HW2.out]; simp
      have hnoc : ∀ g, ((Value.slice va N vc).ownBlock = some g ∨ g = w.heap.size) → ¬ RFoot q rv tv (.slice oa (fs.eraseIdx k).length oc) dv (fs.eraseIdx k) g := fun g hg hf => by
        have hap := erase_apart HR.out.fls.apart HFK.out
        rcases hg with hg | rfl
        · obtain ⟨b1, b2, b3, b4, b5⟩ := hneC g (by rw [HNL.out]; exact hg)
          rcases hf with e | e | e | e | e | ⟨x, hx, e⟩
          · exact b1 e
          · exact b2 e
          · exact b3 e
          · have h7 := hvnew g e
            obtain ⟨cur, hcur⟩ := own_heap HCV.out hg
            have := lt_of_heap hcur; omega
          · exact b5 e
          · exact hap x hx g (by rw [HNL.out]; exact hg) e
        · have hlt2 : ∀ k', RFoot q rv tv (.slice (some ⟨gf, 0, none⟩) fs.length fc) dv fs k' → k' < w.heap.size := fun k' hk' => HR.out.lt hk'
          rcases hf with e | e | e | e | e | ⟨x, hx, e⟩
          · have := hlt2 _ (.inl e); omega
          · have := hlt2 _ (.inr (.inl e)); omega
          · have := hlt2 _ (.inr (.inr (.inl e))); omega
          · have := hvnew _ e; omega
          · have := hlt2 _ (.inr (.inr (.inr (.inr (.inl e))))); omega
          · have := hlt2 _ (.inr (.inr (.inr (.inr (.inr ⟨x, List.mem_of_mem_eraseIdx hx, e⟩))))); omega
      rw [hWL] at f1 f2 hcbL hvL
      have F1 := Lib.hid f1
      have F2 := Lib.hid f2
      have HCBL := Lib.hid hcbL
      have HVL := Lib.hid hvL
      have HNOC := Lib.hid hnoc
      have HVN := Lib.hid hvnew
      have HWL := Lib.hid hWL
      have hbwl := Nat.le_trans HB2.out.size (Nat.le_trans hBj.size hcs3.size)
      rw [hWL] at hbwl
      have hsame : ∀ ns : List Int, (ns.foldl (St.land fault) t1).now = t1.now ∧ (ns.foldl (St.land fault) t1).last = t1.last := fun ns => ⟨(lands_same fault ns t1).2.2.2.1, (lands_same fault ns t1).2.2.2.2.1⟩
      have HSM := Lib.hid hsame
      have hnw1 : t1.now < 2 ^ 59 := by rw [← HT1.out]; exact hnw
      have hla1 : t1.last < 900000 := by rw [← HT1.out]; exact hla
      clear hR hrow hall hcm f1 f2 hcbA hvA hcs3 hcbL hneC hvL hvnew hnoc hWL hsame hB0
      go_wp2_with fail
      rw [HWL.out]
      go_loopg [10] N (fun kk i wx => ∃ (j : Nat) (l' : List RR) (told' : List Int) (rv' tv' : Value), kk = N - j ∧ j ≤ N ∧ i = .int .i64 j ∧ RB wx q ((c.nums.take j).foldl (St.land fault) t1) l' told' (fs.eraseIdx k) rv' tv' (.slice oa (fs.eraseIdx k).length oc) dv ∧ Hid (RRel l' told' ((c.nums.take j).foldl (St.land fault) t1)) ∧ Hid (∀ k', RFoot q rv' tv' (.slice oa (fs.eraseIdx k).length oc) dv (fs.eraseIdx k) k' → RFoot q rv tv (.slice oa (fs.eraseIdx k).length oc) dv (fs.eraseIdx k) k' ∨ WL.heap.size ≤ k') ∧ Chg (RFoot q rv tv (.slice oa (fs.eraseIdx k).length oc) dv (fs.eraseIdx k)) WL wx)
      case atStart => exact ⟨0, l, told, rv, tv, by simp, by omega, rfl, F1.out, H2, Lib.hid (fun k' hk' => .inl hk'), Chg.refl _ _⟩
      case round =>
        obtain ⟨j2, l', told', rv', tv', rfl, hj2, rfl, hR', hRR', hF', hC'⟩ := hrel
        have hcb' := (hC'.block _ (lt_of_heap HCBL.out) (HNOC.out _ (.inr rfl))).trans HCBL.out
        have hv' := ownsRow_chg HVL.out hC' fun k' hk' e => HNOC.out _ (.inl hk') e
        have b3 : wr.cell? ⟨w.heap.size, 3, none⟩ = some (.slice va N vc) := cell_of hcb' rfl
        by_cases hlt2 : j2 < N
        · have hltI2 : (j2 : Int) < (N : Int) := by omega
          have hj20 : (0 : Int) ≤ (j2 : Int) := by omega
          obtain ⟨n, hn⟩ : ∃ n, c.nums[j2]? = some n := ⟨_, List.getElem?_eq_getElem (by have := HNL.out; omega)⟩
          obtain ⟨gv, rfl, _, _, hcvj⟩ := row_at hv' (j := j2) (x := .int .i64 n) (by rw [List.getElem?_map, hn]; rfl) (by rw [List.length_map, HNL.out])
          obtain ⟨air', hok'⟩ := okA_take fault HOK.out hn
          obtain ⟨s1, s2⟩ := HSM.out (c.nums.take j2)
          have hll' := rlen_okA hok' hRR'.out (by rw [s2]; exact hla1)
          have HTR := Lib.hid (tried_r n fault wr hR' hRR'.out hok' (by rw [s1]; exact hnw1) hll'.1 hll'.2)
          have HN2 := Lib.hid hn
          have HR' := Lib.hid hR'
          clear hcb' hv' hn hok' s1 s2 hll' hR'
          go_wp2_with fail
          refine HTR.out.mono ?_
          rintro yy w9 ⟨l2, told2, rv2, tv2, rfl, hR2, hRR2, hF2, hC2⟩
          have HL := Lib.hid (And.intro hR2 (And.intro hRR2 (And.intro hF2 hC2)))
          clear hR2 hRR2 hF2 hC2
          go_wp2_with fail
          go_roundg (N - (j2 + 1))
          case measure => omega
          case rel =>
            obtain ⟨hR2, hRR2, hF2, hC2⟩ := HL.out
            refine ⟨j2 + 1, l2, told2, rv2, tv2, rfl, by omega, by go_num, by rw [foldl_take_succ _ _ HN2.out]; exact hR2, Lib.hid (by rw [foldl_take_succ _ _ HN2.out]; exact hRR2), Lib.hid fun k' hk' => ?_, hC'.trans (hC2.mono fun k' _ hk' => hF'.out k' hk')⟩
            rcases hF2 k' hk' with e | e
            · exact hF'.out k' e
            · exact .inr (Nat.le_trans hC'.size e)
        · obtain rfl : j2 = N := by omega
          have hall2 : c.nums.take j2 = c.nums := List.take_of_length_le (Nat.le_of_eq HNL.out)
          rw [hall2] at hR' hRR'
          have HR' := Lib.hid hR'
          clear hR' hcb' hv' hall2
          go_wp2_with fail
          go_ret
          have hb0 : ∀ k', RFoot q rv tv (.slice oa (fs.eraseIdx k).length oc) dv (fs.eraseIdx k) k' → G k' ∨ w.heap.size ≤ k' := fun k' hf => by
            rcases hf with e | e | e | e | e | ⟨x, hx, e⟩
            · exact .inl (H3.out _ (.inl e))
            · exact .inl (H3.out _ (.inr (.inl e)))
            · exact .inl (H3.out _ (.inr (.inr (.inl e))))
            · exact .inr (by have := HVN.out _ e; omega)
            · exact .inl (H3.out _ (.inr (.inr (.inr (.inr (.inl e))))))
            · exact .inl (H3.out _ (.inr (.inr (.inr (.inr (.inr ⟨x, List.mem_of_mem_eraseIdx hx, e⟩))))))
          refine ⟨fun k' => G k' ∨ w.heap.size ≤ k', rfl, ⟨l', told', _, rv', tv', _, dv, HR'.out, hRR'.out, fun k' hk' => ?_⟩, fun k' hk' => hk', ?_⟩
          · rcases hF'.out k' hk' with e | e
            · exact hb0 k' e
            · exact .inr (Nat.le_trans hbwl e)
          · exact (F2.out.mono fun k' _ hk' => H3.out k' (hk'.elim (fun e => .inl e) fun e => .inr (.inr (.inr (.inl e))))).trans (hC'.mono fun k' _ hk' => hb0 k' hk')
end Go.Proofs.YticobikhndlejaaGreatDoor

/- Rows of numbers joined; rows of commands in a later world. -/
namespace Go.Proofs.YticobikhndlejaaGreatDoor
open Go.RowKit Go.Shelf Go.Lib

theorem CmdsAt.later {w W : World} {base : Nat} {v : Value} {cs : List (Cmd × Value)} (h : CmdsAt w base v cs) (hb : Below w.heap.size w W) : CmdsAt W base v cs :=
  ⟨ownsRow_chg h.row (chgB hb fun _ => False) fun _ _ x => x, fun c hc => ownsRow_chg (h.rows c hc) (chgB hb fun _ => False) fun _ _ x => x, h.apart⟩
theorem run_append_none {P : Program} {w : World} (t ty e : TypeId) (i : TypeInfo) (ht : P.underlying t = some (.slice e)) (hi : P.info? e = some i) (a : Option Addr) (n c : Nat) (hn : n ≤ c) :
    (Builtin.append_ #[t, t] ty #[.slice a n c, .slice none 0 0]).run P w = .ok (.slice a n c) w := by
  have hs : (sizeOf e).run P w = .ok i.size w := by simp [sizeOf, run_typeInfo (P := P) w hi]
  cases a with
  | none => simp [Builtin.append_, run_underlying ht, hs, Builtin.lenOf, Builtin.firstCells, hn]
  | some a => simp [Builtin.append_, run_underlying ht, hs, Builtin.lenOf, Builtin.firstCells, hn, storeCells]
theorem own_cap {w : World} {base n : Nat} {t : TypeId} {v : Value} {xs : List Value} (h : w.ownsRow base t 1 v n xs) : ∃ a c, v = .slice a n c ∧ n ≤ c := by
  rcases h.2 with ⟨rfl, rfl⟩ | ⟨g, c, cur, rfl, h2, h3, h4, h5, h6, h7⟩
  · exact ⟨_, _, rfl, Nat.le_refl _⟩
  · exact ⟨_, _, rfl, h4⟩
theorem wpList_append_ints {w : World} {ops : Array Oper} {rest : List Oper} {o : Oper} {a : Act} {Q : Exit → Act → World → Prop} (hgd : o.guard = none) (s x : Operand)
    (ho : o.op = .call { callee := .builtin .append, args := #[s, x], argTypes := #[24, 24] }) (base b2 : Nat) (v v2 : Value) (n m : Nat) (xs ys : List Value)
    (hs : a.eval s = v) (hx : a.eval x = v2) (hown : w.ownsRow base 3 1 v n xs) (hsrc : w.ownsRow b2 3 1 v2 m ys) (hone : ∀ u ∈ ys, u.oneCell' = true) (hlen : n + m ≤ 1000000) (hbase : base ≤ w.heap.size)
    (h : ∀ v' w', w'.ownsRow base 3 1 v' (n + m) (xs ++ ys) → Below base w w' → wpList Tryz.prog ops Q rest (a.put o.dst v') w') : wpList Tryz.prog ops Q (o :: rest) a w := by
  obtain ⟨i0, hi, hz0, hz1, hz2⟩ := info_parts Tryz.infoI2
  rcases hsrc.2 with ⟨rfl, rfl⟩ | ⟨g, c, cur, rfl, h2, h3, h4, h5, h6, h7⟩
  · have hy : ys = [] := by simpa using hsrc.1
    subst hy
    obtain ⟨va, vc, rfl, hc⟩ := own_cap hown
    refine wpList_plain hgd fun K hK => ?_
    have hr := run_append_none (P := Tryz.prog) (w := w) 24 o.type 3 i0 Tryz.underlying24 hi va n vc hc
    unfold Oper.wp execOp
    simp only [ho, resolve, invoke, builtin, Sem.run_bind, Sem.run_pure, Result.andThen_ok, List.map_toArray, List.map_cons, List.map_nil, hs, hx, hr]
    exact hK _ _ (h _ _ (by simpa using hown) (Below.refl _ _))
  · have hyl : ys.length = m := by simpa using hsrc.1
    refine wpList_append_own _ hgd s x 24 ho base 3 i0 (.int .i64 0) 1 8 Tryz.underlying24 hi hz0 hz1 hz2 rfl (by decide) v n xs hs hown ⟨g, 0, none⟩ m c ys hx (by omega) (fun j u hu => World.news_of_block h3 j u (by
      rw [← h7, List.getElem?_take] at hu
      split at hu
      · exact hu
      · cases hu)) hone (by unfold maxLen; omega) (by omega) hbase fun v' w' e1 e2 _ => h v' w' e1 ((Below.refl base w).grown e2 hbase fun k ek => (hown.lt k ek).1)
end Go.Proofs.YticobikhndlejaaGreatDoor
