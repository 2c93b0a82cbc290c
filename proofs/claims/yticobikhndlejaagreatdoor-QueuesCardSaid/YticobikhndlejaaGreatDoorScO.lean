/- The calls by contract, in plain states. -/
import Derived.Test.YticobikhndlejaaGreatDoorScN
import Derived.Test.YticobikhndlejaaGreatDoorScK
import Derived.StillTailTactics
import Derived.BigQuiet
import Derived.Deep.RegionLaw
import Derived.Deep.AppendLies
namespace Go.Proofs.YticobikhndlejaaGreatDoor
open Go.RowKit Go.Shelf Go.Lib

theorem len_sub : ∀ (l : List Int), l.Nodup → ∀ (m : List Int), (∀ a ∈ l, a ∈ m) → l.length ≤ m.length
  | [], _, _, _ => Nat.zero_le _
  | a :: l, hn, m, h => by
    rw [List.nodup_cons] at hn
    have ha := h a (by simp)
    have := len_sub l hn.2 (m.erase a) fun b hb => (List.mem_erase_of_ne (fun e => hn.1 (by rw [← e]; exact hb))).2 (h b (by simp [hb]))
    rw [List.length_erase_of_mem ha] at this
    have hp := List.length_pos_of_mem ha
    simp; omega
theorem map_erase {α β : Type} (f : α → β) (l : List α) (k : Nat) : (l.eraseIdx k).map f = (l.map f).eraseIdx k := by
  simp [List.eraseIdx_eq_take_drop_succ, List.map_take, List.map_drop]
section
variable {q : Nat} {t : St} {F : Nat → Prop} {w : World}
theorem new_c (d : Nat) (w : World) (hd : 1 ≤ d ∧ d ≤ 4) : Calls Tryz.prog 59 #[.int .i64 d] w fun e w' => ∃ q, e = .returned (.tuple #[ptr q, .nilIface]) ∧ QT w' q (St.new d) (fun k => w.heap.size ≤ k) ∧ w.heap.size ≤ q ∧ Below w.heap.size w w' :=
  (new_any d w hd).mono fun _ _ ⟨q, h1, h2, h3, h4⟩ => ⟨q, h1, ⟨sta0 d, h2, rfl⟩, h3, h4⟩
theorem tick_c (h : QT w q t F) (hk : t.Ok) (hs : t.Small) : Calls Tryz.prog 42 #[ptr q] w fun e w' => e = .returned (.tuple #[]) ∧ QT w' q t.tick F ∧ Chg F w w' := by
  obtain ⟨s, h1, rfl⟩ := h
  have hq := (QT.qlt ⟨s, h1, rfl⟩).2
  refine (tick_any q s F w h1 ⟨hk.a.now, Int.lt_trans hs.now (by decide)⟩).mono fun e w' ⟨e1, e2, e3⟩ => ⟨e1, ⟨_, e2, rfl⟩, e3.mono fun k _ hk => by rw [hk]; exact hq⟩
theorem er_num {s : Sta} (h : s.er.Ok) : ∀ e ∈ s.es, e.r.num ≤ s.last := fun e he => (h.a.rs.num e.r (List.mem_map_of_mem he)).2
theorem er_len {s : Sta} (h : s.er.Ok) (hs : s.er.Small) : s.es.length < 1000000 := by
  have h1 := ok_len h
  have h2 := hs.last
  have h3 : s.er.rs.length = s.es.length := by simp [Sta.er]
  omega
theorem read_c (h : QT w q t F) (hk : t.Ok) (hs : t.Small) (hh : t.held < 40) (page : Int) (hp : 0 ≤ page ∧ page < 16) :
    Calls Tryz.prog 46 #[ptr q, .int .i64 page] w fun x w' => x = .returned (.tuple #[.int .i64 (t.last + 1), .nilIface]) ∧ QT w' q (t.add false page ⟨0, 0, 0, 0⟩) (fun k => F k ∨ w.heap.size ≤ k) ∧ Chg F w w' := by
  obtain ⟨s, h1, rfl⟩ := h
  have hl : s.last < 900000 := hs.last
  refine (read_any q s F w page h1 hp ⟨by rw [show s.held = s.er.held from rfl, hk.a.held]; omega, hh⟩ ⟨hk.a.last, by omega⟩ (er_num hk) (er_len hk hs)).mono fun e w' ⟨b, clock, e1, e2, e3⟩ => ⟨e1, ⟨_, e2, ?_⟩, e3⟩
  simp [Sta.er, addS, St.add]
theorem read_full_c (h : QT w q t F) (hh : 40 ≤ t.held) (page : Int) (hp : 0 ≤ page ∧ page < 16) :
    Calls Tryz.prog 46 #[ptr q, .int .i64 page] w fun x w' => x = .returned (.tuple #[.int .i64 0, errK 4]) ∧ w' = w := by
  obtain ⟨s, h1, rfl⟩ := h
  exact read_full q s F w page h1 hp hh
theorem write_c (h : QT w q t F) (hk : t.Ok) (hs : t.Small) (hh : t.held < 40) (page : Int) (hp : 0 ≤ page ∧ page < 16) (v : Value) (d : B4) (cap : Nat) (a : Option Addr) (hv : v = .slice a 4 cap) (hd : DatV w v d) :
    Calls Tryz.prog 60 #[ptr q, .int .i64 page, v] w fun x w' => x = .returned (.tuple #[.int .i64 (t.last + 1), .nilIface]) ∧ QT w' q (t.add true page d) (fun k => F k ∨ w.heap.size ≤ k) ∧ Chg F w w' := by
  obtain ⟨s, h1, rfl⟩ := h
  have hl : s.last < 900000 := hs.last
  refine (write_any q s F w page v d cap a hv hd h1 hp ⟨by rw [show s.held = s.er.held from rfl, hk.a.held]; omega, hh⟩ ⟨hk.a.last, by omega⟩ (er_num hk) (er_len hk hs)).mono fun e w' ⟨b, clock, e1, e2, e3⟩ => ⟨e1, ⟨_, e2, ?_⟩, e3⟩
  simp [Sta.er, addS, St.add]
theorem write_full_c (h : QT w q t F) (hh : 40 ≤ t.held) (page : Int) (hp : 0 ≤ page ∧ page < 16) (cap : Nat) (a : Option Addr) :
    Calls Tryz.prog 60 #[ptr q, .int .i64 page, .slice a 4 cap] w fun x w' => x = .returned (.tuple #[.int .i64 0, errK 4]) ∧ w' = w := by
  obtain ⟨s, h1, rfl⟩ := h
  exact write_full q s F w page cap a h1 hp hh
theorem poll_none_c (h : QT w q t F) (n : Int) (hf : t.find n = none) :
    Calls Tryz.prog 36 #[ptr q, .int .i64 n] w fun x w' => x = .returned (.tuple #[noAns, errK 5]) ∧ Below w.heap.size w w' := by
  obtain ⟨s, h1, rfl⟩ := h
  exact poll_none q s F w n h1 (er_find_none hf)
theorem poll_pend_c (h : QT w q t F) (n : Int) (r : Req) (hf : t.find n = some r) (hs : r.state = 0 ∨ r.state = 1) :
    Calls Tryz.prog 36 #[ptr q, .int .i64 n] w fun x w' => ∃ b, x = .returned (.tuple #[noAns, errR b]) ∧ ReqErr w' b n r.tries 6 ∧ w.heap.size ≤ b ∧ Below w.heap.size w w' := by
  obtain ⟨s, h1, rfl⟩ := h
  obtain ⟨e, he, rfl⟩ := er_find_some hf
  exact poll_pend q s F w n e h1 he hs
theorem held_ok {s : Sta} (h : s.er.Ok) : 0 ≤ s.held ∧ s.held ≤ 2 ^ 60 := by
  have h1 := h.a.held
  have h2 := h.a.h40
  have h3 : s.er.held = s.held := rfl
  omega
theorem poll_bad_c (h : QT w q t F) (hk : t.Ok) (hsm : t.Small) (n : Int) (r : Req) (k : Int) (hf : t.find n = some r) (hs : (r.state = 3 ∧ k = 7) ∨ (r.state = 4 ∧ k = 8)) :
    Calls Tryz.prog 36 #[ptr q, .int .i64 n] w fun x w' => ∃ b, x = .returned (.tuple #[noAns, errR b]) ∧ ReqErr w' b n r.tries k ∧ w.heap.size ≤ b ∧ QT w' q (t.tell n) F ∧ Chg F w w' := by
  obtain ⟨s, h1, rfl⟩ := h
  obtain ⟨e, he, rfl⟩ := er_find_some hf
  obtain ⟨hem, hen, _⟩ := findE_some he
  exact (poll_bad q s F w n e k h1 he hs (held_ok hk)).mono fun x w' ⟨b, e1, e2, e3, e4, e5⟩ => ⟨b, e1, e2, e3, ⟨_, e4, er_tell (er_ok hk hsm) hem hen⟩, e5⟩
theorem poll_write_c (h : QT w q t F) (hk : t.Ok) (hsm : t.Small) (n : Int) (r : Req) (hf : t.find n = some r) (hs : r.state = 2) (hw : r.write = true) :
    Calls Tryz.prog 36 #[ptr q, .int .i64 n] w fun x w' => x = .returned (.tuple #[.agg #[.slice none 0 0, .int .i64 r.tries], .nilIface]) ∧ QT w' q (t.tell n) F ∧ Chg F w w' := by
  obtain ⟨s, h1, rfl⟩ := h
  obtain ⟨e, he, rfl⟩ := er_find_some hf
  obtain ⟨hem, hen, _⟩ := findE_some he
  exact (poll_write q s F w n e h1 he hs hw (held_ok hk)).mono fun x w' ⟨e1, e4, e5⟩ => ⟨e1, ⟨_, e4, er_tell (er_ok hk hsm) hem hen⟩, e5⟩
theorem poll_read_c (h : QT w q t F) (hk : t.Ok) (hsm : t.Small) (n : Int) (r : Req) (hf : t.find n = some r) (hs : r.state = 2) (hw : r.write = false) :
    Calls Tryz.prog 36 #[ptr q, .int .i64 n] w fun x w' => ∃ v F', x = .returned (.tuple #[.agg #[v, .int .i64 r.tries], .nilIface]) ∧ QT w' q (t.tell n) F' ∧ (∀ k, F' k → F k ∨ w.heap.size ≤ k) ∧ (∀ k, v.ownBlock = some k → ¬ F' k) ∧ Chg F w w' ∧ w'.ownsRow w.heap.size 5 1 v 4 (b4Cells r.data) := by
  obtain ⟨s, h1, rfl⟩ := h
  obtain ⟨e, he, rfl⟩ := er_find_some hf
  obtain ⟨hem, hen, _⟩ := findE_some he
  exact (poll_read q s F w n e h1 he hs hw (held_ok hk)).mono fun x w' ⟨v, F', e1, e4, e5, e6, e7, e8⟩ => ⟨v, F', e1, ⟨_, e4, er_tell (er_ok hk hsm) hem hen⟩, e5, e6, e7, e8⟩
theorem disk_c (h : QT w q t F) :
    Calls Tryz.prog 23 #[ptr q] w fun x w' => ∃ v, x = .returned v ∧ w'.ownsRow w.heap.size 5 1 v 64 (t.disk.map fun b => Value.int .u8 b) ∧ Below w.heap.size w w' := by
  obtain ⟨s, h1, rfl⟩ := h
  exact disk_any q s F w h1
theorem step_none_c (h : QT w q t F) (hk : t.Ok) (hc : t.cmd = none) :
    Calls Tryz.prog 18 #[ptr q] w fun x w' => x = .returned (.tuple #[noCmd, .bool false]) ∧ Below w.heap.size w w' := by
  obtain ⟨s, h1, rfl⟩ := h
  by_cases hd : s.depth ≤ s.cs.length
  · exact step_full q s F w h1 hd
  · refine step_none q s F w h1 (by omega) hk.a.head ?_
    have hn := nextE_map (readyE s.now s.es) s.head
    rw [readyE_map] at hn
    have hl : s.er.cs.length = s.cs.length := by simp [Sta.er]
    unfold St.cmd at hc
    rw [if_neg (by rw [hl]; exact hd)] at hc
    rcases nextE_spec (readyE s.now s.es) s.head hk.a.head with h2 | ⟨p, n, f, l, h2, _⟩
    · exact h2
    · rw [h2] at hn
      have hn' : nextR (readyR s.er.now s.er.rs) s.er.head = (p, n, (f :: l).map (·.r)) := hn.symm
      rw [hn'] at hc
      simp at hc
theorem step_some_c (h : QT w q t F) (hk : t.Ok) (hsm : t.Small) (c : Cmd) (hc : t.cmd = some c) :
    Calls Tryz.prog 18 #[ptr q] w fun x w' => ∃ v' F', x = .returned (.tuple #[.agg #[.bool c.write, .int .i64 c.page, .int .i64 c.count, v'], .bool true]) ∧ QT w' q (t.sent c) F' ∧ (∀ k, F' k → F k ∨ w.heap.size ≤ k) ∧ (∀ k, v'.ownBlock = some k → ¬ F' k) ∧ Chg F w w' ∧ w'.ownsRow w.heap.size 3 1 v' c.nums.length (c.nums.map fun n => Value.int .i64 n) := by
  obtain ⟨s, h1, rfl⟩ := h
  have hl : s.er.cs.length = s.cs.length := by simp [Sta.er]
  have hn := nextE_map (readyE s.now s.es) s.head
  rw [readyE_map] at hn
  have hn0 : nextR (readyR s.er.now s.er.rs) s.er.head = ((nextE (readyE s.now s.es) s.head).1, (nextE (readyE s.now s.es) s.head).2.1, (nextE (readyE s.now s.es) s.head).2.2.map (·.r)) := hn.symm
  obtain ⟨hd, _⟩ := cmd_some hk.a.head hc
  unfold St.cmd at hc
  rw [if_neg (by omega)] at hc
  have hok := er_ok hk hsm
  rcases nextE_spec (readyE s.now s.es) s.head hk.a.head with h2 | ⟨p, n, f, l, h2, a1, a2, a3, a4⟩
  · rw [hn0, h2] at hc; simp at hc
  · rw [hn0, h2] at hc
    simp only [List.map_cons, Option.some.injEq] at hc
    have hdep := hk.a.depth
    have hin : ∀ e ∈ f :: l, e ∈ s.es := fun e he => readyE_mem hok (a4 e he)
    have hlen : (f :: l).length ≤ 1000000 := by
      have hS := (cmd_some hk.a.head (c := c) (by unfold St.cmd; rw [if_neg (by omega), hn0, h2]; simpa using hc)).2
      obtain ⟨g, m, hS, _, hnums⟩ := hS
      have hnd := hS.nodup hk.a.rs.nums
      have hsub : ∀ n ∈ (g :: m).map (·.num), n ∈ s.er.rs.map (·.num) := fun n hn => by
        obtain ⟨r, hr, rfl⟩ := List.mem_map.1 hn
        exact List.mem_map_of_mem (mem_readyR (hS.mem r hr).1).1
      have hle := len_sub _ hnd _ hsub
      have e1 : ((g :: m).map (·.num)).length = (f :: l).length := by
        rw [← hnums, ← hc]; simp
      have e2 := ok_len hk
      have e3 := hsm.last
      rw [e1, List.length_map] at hle
      omega
    obtain rfl : c = ⟨f.r.write, p, n, (f :: l).map (·.r.num)⟩ := by rw [← hc]; simp
    have hdd : s.er.depth = s.depth := rfl
    refine (step_some q s F w h1 (by omega) hk.a.head p n f l h2 a1 a2 hin hlen hdep.2).mono fun x w' ⟨v, v', F', e1, e2, e3, e4, e5, e6⟩ => ⟨v', F', e1, ⟨_, e2, ?_⟩, e3, e4, e5, by simpa using e6⟩
    unfold stepS St.sent sendE Sta.er
    simp only
    rw [List.map_append]
    congr 1
    rw [List.map_map, List.map_map]
    refine List.map_congr_left fun x _ => ?_
    simp only [Function.comp]
    split <;> rfl
theorem complete_no_c (h : QT w q t F) (k : Int) (fault : Bool) (hk : k < 0 ∨ (t.cs.length : Int) ≤ k) :
    Calls Tryz.prog 40 #[ptr q, .int .i64 k, .bool fault] w fun x w' => x = .returned (errK 10) ∧ Below w.heap.size w w' := by
  obtain ⟨s, h1, rfl⟩ := h
  exact complete_no q s F w k fault h1 (by simpa [Sta.er] using hk)
theorem landsS_er (fault : Bool) : ∀ (ns : List Int) (s : Sta), (∀ j, j ≤ ns.length → EntsOk (landsS fault s (ns.take j)).es) → (landsS fault s ns).er = ns.foldl (St.land fault) s.er
  | [], _, _ => rfl
  | n :: ns, s, h => by
    have h0 := h 0 (by simp)
    show (landsS fault (landS fault s n) ns).er = ns.foldl (St.land fault) (s.er.land fault n)
    rw [landsS_er fault ns (landS fault s n) fun j hj => h (j + 1) (by simp; omega), er_land (s := s) h0]
theorem complete_c (h : QT w q t F) (hk : t.Ok) (hsm : t.Small) (k : Nat) (fault : Bool) (t' : St) (hc : t.complete k fault = some t') :
    Calls Tryz.prog 40 #[ptr q, .int .i64 k, .bool fault] w fun x w' => x = .returned .nilIface ∧ QT w' q t' F ∧ Chg F w w' := by
  obtain ⟨s, h1, rfl⟩ := h
  unfold St.complete at hc
  cases hck : s.er.cs[k]? with
  | none => rw [hck] at hc; cases hc
  | some c0 =>
    rw [hck] at hc
    simp only [Option.some.injEq] at hc
    have hck2 : (s.cs.map (·.1))[k]? = some c0 := hck
    rw [List.getElem?_map, Option.map_eq_some_iff] at hck2
    obtain ⟨c, hcs, rfl⟩ := hck2
    have hlt := (List.getElem?_eq_some_iff.1 hcs).1
    -- how things stand, landing by landing
    have hA : ∀ j, j ≤ c.1.nums.length → ∀ s1 : Sta, s1 = landsS fault { s with cs := s.cs.eraseIdx k } (c.1.nums.take j) → (s1.er.OkA (c.1.nums.drop j ++ ((s.er.cs.eraseIdx k).flatMap (·.nums))) ∧ EntsOk s1.es ∧ s1.last = s.last) := by
      have hbase : ({ s with cs := s.cs.eraseIdx k } : Sta).er.OkA (c.1.nums ++ ((s.er.cs.eraseIdx k).flatMap (·.nums))) := by
        obtain ⟨hlt2, hck3⟩ := List.getElem?_eq_some_iff.1 hck
        have hperm : (s.er.cs.flatMap (·.nums)).Perm (c.1.nums ++ (s.er.cs.eraseIdx k).flatMap (·.nums)) := by
          have := (perm_erase hlt2 hck3).flatMap_right (·.nums)
          simpa using this
        exact ⟨hk.a.depth, hk.a.head, hk.a.dlen, hk.a.dbyte, hk.a.last, hk.a.now, ⟨hk.a.rs.nums, hk.a.rs.num, hk.a.rs.ok, hperm.nodup_iff.1 hk.a.rs.nodup, fun n hn => hk.a.rs.fly n (hperm.mem_iff.2 hn), fun r hr ha => hperm.mem_iff.1 (hk.a.rs.airs r hr ha), hk.a.rs.free⟩, hk.a.held, hk.a.h40⟩
      have hents : ∀ s1 : Sta, s1.last = s.last → ∀ air, s1.er.OkA air → EntsOk s1.es := fun s1 hl air ho => by
        refine ⟨fun e he => (ho.rs.ok e.r (List.mem_map_of_mem he)).page, fun e he => ?_, (List.pairwise_map (f := fun e : Ent => e.r) (R := fun x y : Req => x.num < y.num)).1 ho.rs.nums⟩
        have h1 := ho.rs.num e.r (List.mem_map_of_mem he)
        have h2 : s1.er.last = s.last := hl
        have h3 : s.last < 900000 := hsm.last
        omega
      intro j
      induction j with
      | zero =>
        rintro - s1 rfl
        exact ⟨hbase, hents _ rfl _ hbase, rfl⟩
      | succ j ih =>
        rintro hj s1 rfl
        obtain ⟨i1, i2, i3⟩ := ih (by omega) _ rfl
        have hjl : j < c.1.nums.length := by omega
        have hst : landsS fault { s with cs := s.cs.eraseIdx k } (c.1.nums.take (j + 1)) = landS fault (landsS fault { s with cs := s.cs.eraseIdx k } (c.1.nums.take j)) (c.1.nums[j]'hjl) := by
          unfold landsS
          rw [List.take_succ_eq_append_getElem hjl, List.foldl_append]; rfl
        rw [hst]
        rw [List.drop_eq_getElem_cons hjl] at i1
        have h1 := okA_land i1 fault
        rw [← er_land i2] at h1
        have h2 := (landS_same fault (landsS fault { s with cs := s.cs.eraseIdx k } (c.1.nums.take j)) (c.1.nums[j]'hjl)).2.2.2.1
        exact ⟨h1, hents _ (h2.trans i3) _ h1, h2.trans i3⟩
    have hnow := hsm.now
    have hnl : c.1.nums.length ≤ 1000000 := by
      have hm : c.1 ∈ s.er.cs := List.mem_map_of_mem (List.mem_of_getElem? hcs)
      have hnd : c.1.nums.Nodup := by
        have := hk.a.rs.nodup
        exact (List.pairwise_flatMap.1 this).1 _ hm
      have hsub : ∀ n ∈ c.1.nums, n ∈ s.er.rs.map (·.num) := fun n hn => by
        obtain ⟨r, hr, h1, _⟩ := CmdOk.air hk hm hn
        exact List.mem_map.2 ⟨r, hr, h1⟩
      have hle := len_sub _ hnd _ hsub
      have e2 := ok_len hk
      have e3 := hsm.last
      rw [List.length_map] at hle
      omega
    have hl4 : s.cs.length ≤ 4 := by
      have h1 := hk.len
      have h2 := hk.a.depth
      have h3 : s.er.cs.length = s.cs.length := by simp [Sta.er]
      omega
    refine (complete_any q s F w k fault c h1 hcs ⟨hk.a.now, Int.lt_trans hnow (by decide)⟩ hl4 hnl fun j hj => ?_).mono fun x w' ⟨e1, e2, e3⟩ => ⟨e1, ⟨_, e2, ?_⟩, e3⟩
    · obtain ⟨i1, i2, i3⟩ := hA j (by omega) _ rfl
      rw [List.drop_eq_getElem_cons hj] at i1
      obtain ⟨r, hr, hrn, hra⟩ := i1.rs.fly (c.1.nums[j]'hj) (List.mem_append_left _ List.mem_cons_self)
      obtain ⟨e, he, rfl⟩ := List.mem_map.1 hr
      have hro := i1.rs.ok e.r hr
      exact ⟨e, he, hrn, hro.tries.1, hro.try3 (by simp [Req.live, hra])⟩
    · rw [landsS_er fault c.1.nums _ fun j hj => (hA j hj _ rfl).2.1, ← hc]
      unfold Sta.er
      simp only [map_erase]
end
end Go.Proofs.YticobikhndlejaaGreatDoor

/- The document's queue: put, Cancel by contract. -/
namespace Go.Proofs.YticobikhndlejaaGreatDoor
open Go.RowKit Go.Shelf Go.Lib

def b4at (d : B4) (i : Nat) : Int := [d.a, d.b, d.c, d.d].getD i 0
/-- The first so many bytes of a page are written. -/
def dputN (disk : List Int) (p : Nat) (d : B4) : Nat → List Int
  | 0 => disk
  | j + 1 => (dputN disk p d j).set (4 * p + j) (b4at d j)
theorem dputN_four (disk : List Int) (p : Nat) (d : B4) : dputN disk p d 4 = dput disk p d := rfl
theorem dputN_len (disk : List Int) (p : Nat) (d : B4) : ∀ j, (dputN disk p d j).length = disk.length
  | 0 => rfl
  | j + 1 => by unfold dputN; rw [List.length_set, dputN_len]
theorem str4_at {d : B4} (hd : BOk d) {s : ByteArray} (hs : s = str4 d) {i : Nat} (hi : i < s.size) : (s[i].toNat : Int) = b4at d i := by
  subst hs
  have h4 : i < 4 := by rw [str4_size] at hi; exact hi
  have e : ∀ x : Int, 0 ≤ x ∧ x ≤ 255 → ((UInt8.ofNat x.toNat).toNat : Int) = x := fun x hx => by
    rw [UInt8.toNat_ofNat']
    omega
  obtain ⟨h1, h2, h3, h5⟩ := hd
  have hg : ((str4 d)[i]'hi) = (([d.a, d.b, d.c, d.d].map fun n => UInt8.ofNat n.toNat)[i]'(by simpa using h4)) := rfl
  rw [hg]
  rcases (show i = 0 ∨ i = 1 ∨ i = 2 ∨ i = 3 by omega) with rfl | rfl | rfl | rfl
  · exact e _ h1
  · exact e _ h2
  · exact e _ h3
  · exact e _ h5
section
variable {w W : World} {q : Nat} {t : St} {l : List RR} {told : List Int} {fs : List (Cmd × Value)} {rv tv fv dv : Value}
/-- One byte of the disk is written. -/
theorem RB.dset (h : RB w q t l told fs rv tv fv dv) (hd : t.disk.length = 64) {g n : Nat} (hg : dv.ownBlock = some g) (hn : n < 64) (v : Int) :
    RB (w.setCell ⟨g, n, none⟩ (.int .u8 v)) q { t with disk := t.disk.set n v } l told fs rv tv fv dv := by
  obtain ⟨n1, n2, n3, n4, n5⟩ := h.ne_dv hg
  have hc : Chg (fun k => k = g) w (w.setCell ⟨g, n, none⟩ (.int .u8 v)) := Chg.setCell (S := fun k => k = g) (p := ⟨g, n, none⟩) (Chg.refl _ w) (.inl rfl) _
  refine ⟨(hc.block _ (lt_of_heap h.que) (fun e => n1 e.symm)).trans h.que, ownsRow_chg h.reqs hc fun k hk e => n2 (e ▸ hk), ownsRow_chg h.tol hc fun k hk e => n3 (e ▸ hk), h.fls.keptC hc (fun k hk e => n4 (e ▸ hk)) fun c hcm k hk e => n5 c hcm (e ▸ hk), h.fcs, ?_, h.tf⟩
  rw [show (({ t with disk := t.disk.set n v } : St).disk.map fun b => Value.int .u8 b) = (t.disk.map fun b => Value.int .u8 b).set n (.int .u8 v) from by simp [List.map_set]]
  exact own_setCell h.dsk hg (by omega) _
end
set_option maxRecDepth 100000 in
set_option maxHeartbeats 1000000 in
/-- A page gets its data. -/
theorem put_r (p : Nat) (d : B4) (s : ByteArray) (w : World) {q : Nat} {t : St} {l : List RR} {told : List Int} {fs : List (Cmd × Value)} {rv tv fv dv : Value} (h : RB w q t l told fs rv tv fv dv) (hdl : t.disk.length = 64) (hp : p < 16) (hd : BOk d) (hs : s = str4 d) :
    Calls Tryz.prog 111 #[ptr q, .int .i64 p, .string s] w fun e w' => e = .returned (.tuple #[]) ∧ RB w' q { t with disk := dput t.disk p d } l told fs rv tv fv dv ∧ Chg (fun k => dv.ownBlock = some k) w w' := by
  have hsz : s.size = 4 := by rw [hs, str4_size]
  have hat : ∀ i (hi : i < s.size), (s[i].toNat : Int) = b4at d i := fun i hi => str4_at hd hs hi
  obtain ⟨ga, gc, hdv⟩ := own_slice h.dsk
  obtain ⟨g, rfl⟩ : ∃ g, ga = some ⟨g, 0, none⟩ := by
    rcases h.dsk.2 with ⟨_, h0⟩ | ⟨g, cap, cur, e, _⟩
    · omega
    · rw [hdv] at e; simp at e; exact ⟨g, e.1⟩
  have hgo : dv.ownBlock = some g := by rw [hdv]; rfl
  have HR := Lib.hid h
  have HAT := Lib.hid hat
  have HGO := Lib.hid hgo
  have HDL := Lib.hid hdl
  have HSZ := Lib.hid hsz
  have HDV := Lib.hid hdv
  clear h hat hd hs hgo hdl hdv
  go_enter Tryz.func111, Tryz.ntmps111
  go_wp2_with fail
  go_loopg [6] 4 (fun kk i wx => ∃ j, kk = 4 - j ∧ j ≤ 4 ∧ i = .int .i64 j ∧ RB wx q { t with disk := dputN t.disk p d j } l told fs rv tv fv dv ∧ Chg (fun k => k = g) w wx)
  case atStart => exact ⟨0, by simp, by omega, rfl, HR.out, Chg.refl _ _⟩
  case round =>
    obtain ⟨j, rfl, hj, rfl, hR, hC⟩ := hrel
    have hsz4 := HSZ.out
    by_cases hlt : j < 4
    · have hltI : (j : Int) < 4 := by omega
      have hj0 : (0 : Int) ≤ (j : Int) := by omega
      have hjs : (j : Int) < (s.size : Int) := by omega
      obtain ⟨n, hn⟩ : ∃ n, 4 * p + j = n := ⟨_, rfl⟩
      have hn64 : n < 64 := by omega
      have hw1 : IntKind.i64.wrap (4 * (p : Int)) = 4 * (p : Int) := by rw [IntKind.wrap_i64]; omega
      have hw2 : IntKind.i64.wrap (4 * (p : Int) + (j : Int)) = (n : Int) := by rw [IntKind.wrap_i64]; omega
      have hnI : (n : Int) < 64 := by omega
      have hn0 : (0 : Int) ≤ (n : Int) := by omega
      have hjs2 : j < s.size := by omega
      have c7 := hR.c7
      rw [HDV.out] at c7
      obtain ⟨cur, hcur⟩ := own_heap hR.dsk HGO.out
      have hf : wr.frozen? ⟨g, n, none⟩ = false := free_of hcur
      have hcell : ∃ v, wr.cell? ⟨g, n, none⟩ = some v := by
        rcases hR.dsk.2 with ⟨_, h0⟩ | ⟨g2, cap, cur2, e, _, h3, h4, _, h6, _⟩
        · omega
        · rw [HDV.out] at e; simp at e; obtain ⟨rfl, rfl⟩ := e
          exact ⟨_, cell_of h3 (Array.getElem?_eq_getElem (show n < cur2.size by omega))⟩
      obtain ⟨v0, hv0⟩ := hcell
      have hset := hR.dset (by show (dputN t.disk p d j).length = 64; rw [dputN_len, HDL.out]) HGO.out hn64 (b4at d j)
      have hatj := HAT.out j hjs2
      have HSET := Lib.hid hset
      have HATJ := Lib.hid hatj
      have HN := Lib.hid hn
      clear hR hcur hset hatj hn hsz4
      go_upto_region 3 with fail
      go_still_tail 12, (by kernel_rfl)
      change wpList _ _ _ _ _ wr.drew
      obtain ⟨W2, hW2⟩ : ∃ W2, wr.drew = W2 := ⟨_, rfl⟩
      have hv2 : W2.cell? ⟨g, n, none⟩ = some v0 := by rw [← hW2]; exact hv0
      have hf2 : W2.frozen? ⟨g, n, none⟩ = false := by rw [← hW2]; exact hf
      have hset2 : RB (W2.setCell ⟨g, n, none⟩ (.int .u8 (b4at d j))) q { t with disk := dputN t.disk p d (j + 1) } l told fs rv tv fv dv := by
        rw [← hW2]
        have := HSET.out.kept (Chg.drew (Chg.refl (fun _ => False) _)) fun _ _ z => z
        rw [HN.out.symm] at this ⊢
        exact this
      have hC2 : Chg (fun k => k = g) w (W2.setCell ⟨g, n, none⟩ (.int .u8 (b4at d j))) := by
        rw [← hW2]; exact Chg.setCell (p := ⟨g, n, none⟩) hC.drew (.inl rfl) _
      rw [hW2]
      have HS2 := Lib.hid hset2
      have HC2 := Lib.hid hC2
      clear hW2 hset2 hC2 hv0 hf c7 HSET
      go_wp2_with fail
      go_roundg (4 - (j + 1))
      case measure => omega
      case rel => exact ⟨j + 1, rfl, by omega, by go_num, by rw [HATJ.out]; exact HS2.out, by rw [HATJ.out]; exact HC2.out⟩
    · obtain rfl : j = 4 := by omega
      have HRR := Lib.hid hR
      clear hR hsz4
      go_wp2_with fail
      go_end0
      exact ⟨rfl, by rw [← dputN_four]; exact HRR.out, hC.mono fun k _ hk => by rw [hk]; exact HGO.out⟩
/-! ### where a request lies -/
theorem RRel.found {l : List RR} {told : List Int} {t : St} (h : RRel l told t) (hs : t.rs.Pairwise (·.num < ·.num)) {n : Int} {r : Req} (hf : t.find n = some r) : ∃ k x, l[k]? = some x ∧ x.r = r ∧ r.num = n ∧ r.told = false ∧ (∀ y ∈ l.take k, y.r.num ≠ n) ∧ n ∉ told := by
  obtain ⟨h1, h2, h3⟩ := find_some hf
  obtain ⟨k, hk⟩ := List.mem_iff_getElem?.1 h1
  obtain ⟨x, hx, hxr⟩ := h.back hk
  refine ⟨k, x, hx, hxr, h2, h3, fun y hy => ?_, fun hm => ?_⟩
  · have hy2 : y.r ∈ t.rs.take k := by
      rw [← h.rs, ← List.map_take]
      exact List.mem_map_of_mem hy
    have := (sorted_take hs hk).1 y.r hy2
    omega
  · rw [← h2, h.told.at hs h1, h3] at hm
    cases hm
theorem RRel.lost {l : List RR} {told : List Int} {t : St} (h : RRel l told t) {n : Int} (hf : t.find n = none) : n ∈ told ∨ ∀ y ∈ l, y.r.num ≠ n := by
  by_cases hex : ∃ y ∈ l, y.r.num = n
  · obtain ⟨y, hy, hn⟩ := hex
    have hyr : y.r ∈ t.rs := by rw [← h.rs]; exact List.mem_map_of_mem hy
    refine .inl ((h.told.mem n).2 ⟨y.r, hyr, hn, ?_⟩)
    unfold St.find at hf
    have := List.find?_eq_none.1 hf y.r hyr
    simpa [hn] using this
  · exact .inr fun y hy hn => hex ⟨y, hy, hn⟩
theorem RRel.tlen {l : List RR} {told : List Int} {t : St} (h : RRel l told t) (hk : t.Ok) (hsm : t.Small) : l.length < 1000000 ∧ told.length < 1000000 := by
  have h1 := ok_len hk
  have h2 := hsm.last
  have h3 := h.len
  have h4 := h.told.len hk.a.rs.nums
  have h5 := List.length_filter_le (fun r : Req => r.told) t.rs
  omega
section
variable {w : World} {q : Nat} {t : St} {G : Nat → Prop}
theorem place_found (h : RT w q t G) (hk : t.Ok) (hsm : t.Small) {n : Int} {r : Req} (hf : t.find n = some r) : ∃ (l : List RR) (told : List Int) (fs : List (Cmd × Value)) (rv tv fv dv : Value) (k : Nat) (x : RR), RB w q t l told fs rv tv fv dv ∧ RRel l told t ∧ (∀ k, RFoot q rv tv fv dv fs k → G k) ∧ l[k]? = some x ∧ x.r = r ∧
    Calls Tryz.prog 108 #[ptr q, .int .i64 n] w fun y w' => y = .returned (.int .i64 k) ∧ Below w.heap.size w w' := by
  obtain ⟨l, told, fs, rv, tv, fv, dv, h1, h2, h3⟩ := h
  obtain ⟨k, x, hx, hxr, hn, _, hno, hnt⟩ := h2.found hk.a.rs.nums hf
  have hl := h2.tlen hk hsm
  exact ⟨l, told, fs, rv, tv, fv, dv, k, x, h1, h2, h3, hx, hxr, place_yes n w h1 (by omega) (by omega) hx (by rw [hxr, hn]) hno hnt⟩
theorem place_lost (h : RT w q t G) (hk : t.Ok) (hsm : t.Small) {n : Int} (hf : t.find n = none) : Calls Tryz.prog 108 #[ptr q, .int .i64 n] w fun y w' => y = .returned (.int .i64 (-1)) ∧ Below w.heap.size w w' := by
  obtain ⟨l, told, fs, rv, tv, fv, dv, h1, h2, h3⟩ := h
  have hl := h2.tlen hk hsm
  exact place_no n w h1 (by omega) (by omega) (h2.lost hf)
set_option maxRecDepth 100000 in
theorem cancel_none_r (h : RT w q t G) (hk : t.Ok) (hsm : t.Small) (n : Int) (hf : t.find n = none) :
    Calls Tryz.prog 83 #[ptr q, .int .i64 n] w fun y w' => y = .returned (.tuple #[.int .i64 5, .int .i64 0]) ∧ Below w.heap.size w w' := by
  have HP := Lib.hid (place_lost h hk hsm hf)
  clear h hf hk hsm
  go_enter Tryz.func83, Tryz.ntmps83
  go_wp2_with fail
  refine HP.out.mono ?_
  rintro y w2 ⟨rfl, hB⟩
  go_wp2_with fail
  go_ret2
  exact ⟨rfl, hB⟩
set_option maxRecDepth 100000 in
theorem cancel_some_r (h : RT w q t G) (hk : t.Ok) (hsm : t.Small) (n : Int) (r : Req) (hf : t.find n = some r) (hst : 2 ≤ r.state) :
    Calls Tryz.prog 83 #[ptr q, .int .i64 n] w fun y w' => y = .returned (.tuple #[.int .i64 9, .int .i64 r.tries]) ∧ Below w.heap.size w w' := by
  obtain ⟨l, told, fs, rv, tv, fv, dv, k, x, h1, h2, h3, hx, rfl, HPl⟩ := place_found h hk hsm hf
  have hl := h2.tlen hk hsm
  have HP := Lib.hid HPl
  have HR := Lib.hid h1
  have HX := Lib.hid hx
  obtain ⟨ra, rc, rfl⟩ := own_slice h1.reqs
  obtain ⟨m, hm⟩ : ∃ m, l.length = m := ⟨_, rfl⟩
  rw [hm] at HR
  have hkm : k < m := by have := (List.getElem?_eq_some_iff.1 hx).1; omega
  have hkI : (k : Int) < (m : Int) := by omega
  have hk0 : (0 : Int) ≤ (k : Int) := by omega
  have hkn : ¬ (k : Int) < 0 := by omega
  have hst' : x.r.state ≥ 2 := hst
  clear h h1 h2 h3 hf hk hsm HPl hx
  go_enter Tryz.func83, Tryz.ntmps83
  go_wp2_with fail
  refine HP.out.mono ?_
  rintro y w2 ⟨rfl, hB⟩
  have hR := HR.out.below hB
  have d1 := hR.c1
  obtain ⟨g, cap, e, _, _, hcell⟩ := hR.req HX.out
  simp only [Value.slice.injEq] at e
  obtain ⟨rfl, hdrop, rfl⟩ := e
  clear hdrop
  have r4 : w2.cell? ⟨g, k * 10 + 4, none⟩ = some (.int .i64 x.r.state) := hcell 4 _ rfl
  have r5 : w2.cell? ⟨g, k * 10 + 5, none⟩ = some (.int .i64 x.r.tries) := hcell 5 _ rfl
  clear hR hcell hm
  go_wp2_with fail
  go_quiet (fail)
  go_wp2_with fail
  go_ret2
  exact ⟨rfl, below_drewN hB _⟩
set_option maxRecDepth 100000 in
theorem cancel_give_r (h : RT w q t G) (hk : t.Ok) (hsm : t.Small) (n : Int) (r : Req) (hf : t.find n = some r) (hst : r.state < 2) :
    Calls Tryz.prog 83 #[ptr q, .int .i64 n] w fun y w' => y = .returned (.tuple #[.int .i64 0, .int .i64 0]) ∧ RT w' q (t.give n) G ∧ Chg G w w' := by
  have hs := hk.a.rs.nums
  obtain ⟨_, hnum, htold⟩ := find_some hf
  obtain ⟨l, told, fs, rv, tv, fv, dv, k, x, h1, h2, h3, hx, rfl, HPl⟩ := place_found h hk hsm hf
  have hl := h2.tlen hk hsm
  have HG : RRel (l.set k (giveX x)) told (t.give n) := by rw [← hnum]; exact rrel_give h2 hs hx
  have HP := Lib.hid HPl
  have HR := Lib.hid h1
  have HX := Lib.hid hx
  have H3 := Lib.hid h3
  have HGR := Lib.hid HG
  obtain ⟨ra, rc, rfl⟩ := own_slice h1.reqs
  obtain ⟨m, hm⟩ : ∃ m, l.length = m := ⟨_, rfl⟩
  rw [hm] at HR H3
  have hkm : k < m := by have := (List.getElem?_eq_some_iff.1 hx).1; omega
  have hkI : (k : Int) < (m : Int) := by omega
  have hk0 : (0 : Int) ≤ (k : Int) := by omega
  have hkn : ¬ (k : Int) < 0 := by omega
  have hst' : ¬ x.r.state ≥ 2 := by omega
  clear h h1 h2 h3 hf hk hsm HPl hx HG hs hnum htold
  go_enter Tryz.func83, Tryz.ntmps83
  go_wp2_with fail
  refine HP.out.mono ?_
  rintro y w2 ⟨rfl, hB⟩
  have hR := HR.out.below hB
  have d1 := hR.c1
  obtain ⟨g, cap, e, _, ⟨cur, hcur, _⟩, hcell⟩ := hR.req HX.out
  simp only [Value.slice.injEq] at e
  obtain ⟨rfl, hdrop, rfl⟩ := e
  clear hdrop
  have r4 : w2.cell? ⟨g, k * 10 + 4, none⟩ = some (.int .i64 x.r.state) := hcell 4 _ rfl
  have rf : ∀ i, w2.frozen? ⟨g, i, none⟩ = false := fun i => free_of hcur
  obtain ⟨hset, hchg⟩ := hR.set1 (g := g) rfl HX.out (y := giveX x) 4 (by omega) (.int .i64 4) rfl
  have HS := Lib.hid (hset.st (t' := t.give n) rfl rfl rfl rfl rfl rfl)
  have HC := Lib.hid ((chgB hB G).then (hchg.mono fun k _ hk => H3.out k (.inr (.inl (by rw [hk]; rfl)))))
  clear hR hcell hm hcur hset hchg
  go_wp2_with fail
  go_ret2
  exact ⟨rfl, ⟨l.set k (giveX x), told, fs, _, tv, fv, dv, HS.out, HGR.out, H3.out⟩, HC.out⟩
end
end Go.Proofs.YticobikhndlejaaGreatDoor

/- The document's queue: Ask, drop by contract. -/
namespace Go.Proofs.YticobikhndlejaaGreatDoor
open Go.RowKit Go.Shelf Go.Lib

theorem Tryz.infoRR : (Tryz.prog.info? 191).map (fun i => (i.zero, i.size, i.bytes)) = some (some (.agg #[.int .i64 0, .bool false, .int .i64 0, .string ⟨#[]⟩, .int .i64 0, .int .i64 0, .int .i64 0, .bool false, .bool false, .string ⟨#[]⟩]), 10, 88) := by kernel_rfl
section
variable {w : World} {q : Nat} {t : St} {G : Nat → Prop}
set_option maxRecDepth 100000 in
theorem ask_page_r (wt : Bool) (p : Int) (s : ByteArray) (w : World) (v : Value) (hp : p < 0 ∨ 16 ≤ p) :
    Calls Tryz.prog 79 #[v, .bool wt, .int .i64 p, .string s] w fun y w' => y = .returned (.tuple #[.int .i64 0, .int .i64 2]) ∧ w = w' := by
  by_cases h0 : p < 0
  · go_enter Tryz.func79, Tryz.ntmps79
    go_wp2_with fail
    go_ret2
    exact ⟨rfl, rfl⟩
  · have h1 : p ≥ 16 := by omega
    go_enter Tryz.func79, Tryz.ntmps79
    go_wp2_with fail
    go_ret2
    exact ⟨rfl, rfl⟩
set_option maxRecDepth 100000 in
theorem ask_data_r (p : Int) (s : ByteArray) (w : World) (v : Value) (hp : 0 ≤ p ∧ p < 16) (hs : s.size ≠ 4) (hsz : s.size ≤ maxLen) :
    Calls Tryz.prog 79 #[v, .bool true, .int .i64 p, .string s] w fun y w' => y = .returned (.tuple #[.int .i64 0, .int .i64 3]) ∧ w = w' := by
  unfold maxLen at hsz
  have h0 : ¬ p < 0 := by omega
  have h1 : ¬ p ≥ 16 := by omega
  have h2 : ¬ ((s.size : Int) = 4) := by omega
  go_enter Tryz.func79, Tryz.ntmps79
  go_wp2_with fail
  go_ret2
  exact ⟨rfl, rfl⟩
set_option maxRecDepth 100000 in
set_option maxHeartbeats 1000000 in
theorem ask_full_r (h : RT w q t G) (hk : t.Ok) (hsm : t.Small) (wt : Bool) (p : Int) (s : ByteArray) (hp : 0 ≤ p ∧ p < 16) (hs : wt = true → s.size = 4) (hh : 40 ≤ t.held) :
    Calls Tryz.prog 79 #[ptr q, .bool wt, .int .i64 p, .string s] w fun y w' => y = .returned (.tuple #[.int .i64 0, .int .i64 4]) ∧ Below w.heap.size w w' := by
  obtain ⟨l, told, fs, rv, tv, fv, dv, h1, h2, h3⟩ := h
  have hl := h2.tlen hk hsm
  have hhe := h2.told.held hk.a.rs.nums
  have hhe2 := hk.a.held
  have hll := h2.len
  obtain ⟨ra, rc, rfl⟩ := own_slice h1.reqs
  obtain ⟨ta, tc, rfl⟩ := own_slice h1.tol
  have c1 := h1.c1
  have c2 := h1.c2
  obtain ⟨m, hm⟩ : ∃ m, l.length = m := ⟨_, rfl⟩
  obtain ⟨m2, hm2⟩ : ∃ m2, told.length = m2 := ⟨_, rfl⟩
  rw [hm] at c1 hl hll
  rw [hm2] at c2 hl hhe
  have hge : decide (IntKind.i64.wrap ((m : Int) - (m2 : Int)) ≥ 40) = true := decide_eq_true (by rw [IntKind.wrap_i64]; omega)
  have hwr : IntKind.i64.wrap ((m : Int) - (m2 : Int)) = (m : Int) - (m2 : Int) := by rw [IntKind.wrap_i64]; omega
  have hge2 : (m : Int) - (m2 : Int) ≥ 40 := by omega
  have h0 : ¬ p < 0 := by omega
  have h1' : ¬ p ≥ 16 := by omega
  clear h1 h2 h3 hk hsm hm hm2 hll hhe hhe2
  cases wt with
  | true =>
    have hsz : s.size = 4 := hs rfl
    have hsz2 : (s.size : Int) = 4 := by omega
    go_enter Tryz.func79, Tryz.ntmps79
    go_wp2_with fail
    go_quiet (fail)
    go_wp2_with fail
    go_ret2
    exact ⟨rfl, below_drewN (Below.refl _ _) _⟩
  | false =>
    go_enter Tryz.func79, Tryz.ntmps79
    go_wp2_with fail
    go_quiet (fail)
    go_wp2_with fail
    go_ret2
    exact ⟨rfl, below_drewN (Below.refl _ _) _⟩
set_option maxRecDepth 100000 in
set_option maxHeartbeats 2000000 in
theorem ask_r_r (h : RT w q t G) (hk : t.Ok) (hsm : t.Small) (wt : Bool) (p : Int) (d : B4) (s : ByteArray) (hp : 0 ≤ p ∧ p < 16) (hs : wt = true → s = str4 d) (hh : t.held < 40) :
    Calls Tryz.prog 79 #[ptr q, .bool wt, .int .i64 p, .string s] w fun y w' => ∃ G', y = .returned (.tuple #[.int .i64 (t.last + 1), .int .i64 0]) ∧ RT w' q (t.add wt p d) G' ∧ (∀ k, G' k → G k ∨ w.heap.size ≤ k) ∧ Chg G w w' := by
  obtain ⟨l, told, fs, rv, tv, fv, dv, h1, h2, h3⟩ := h
  have hl := h2.tlen hk hsm
  have hhe := h2.told.held hk.a.rs.nums
  have hhe2 := hk.a.held
  have hla := hk.a.last
  have hla2 := hsm.last
  have hll := h2.len
  have HADD := Lib.hid (rrel_add h2 wt p d s hs)
  obtain ⟨ra, rc, rfl⟩ := own_slice h1.reqs
  obtain ⟨ta, tc, rfl⟩ := own_slice h1.tol
  have c1 := h1.c1
  have c2 := h1.c2
  have c6 := h1.c6
  have cf := h1.free
  have hql := lt_of_heap h1.que
  obtain ⟨m, hm⟩ : ∃ m, l.length = m := ⟨_, rfl⟩
  obtain ⟨m2, hm2⟩ : ∃ m2, told.length = m2 := ⟨_, rfl⟩
  rw [hm] at c1 hl hll
  rw [hm2] at c2 hl hhe
  have hge : decide (IntKind.i64.wrap ((m : Int) - (m2 : Int)) ≥ 40) = false := decide_eq_false (by rw [IntKind.wrap_i64]; omega)
  have hwr : IntKind.i64.wrap ((m : Int) - (m2 : Int)) = (m : Int) - (m2 : Int) := by rw [IntKind.wrap_i64]; omega
  have hge2 : ¬ (m : Int) - (m2 : Int) ≥ 40 := by omega
  have h0 : ¬ p < 0 := by omega
  have h1' : ¬ p ≥ 16 := by omega
  have hsz : wt = true → s.size = 4 := fun hw => by rw [hs hw, str4_size]
  have HR := Lib.hid h1
  have H3 := Lib.hid h3
  have HM := Lib.hid hm
  have hml : m < 1000000 := hl.1
  clear h1 h2 h3 hk hsm hm hm2 hll hhe hhe2 hs hl
  obtain ⟨i4, hi4, hz40, hz41, hz42⟩ := info_parts Tryz.infoRR
  cases wt
  all_goals
    try (have hsz2 : (s.size : Int) = 4 := ?zval; case zval => (have := hsz rfl; omega))
    clear hsz
    go_enter Tryz.func79, Tryz.ntmps79
    go_wp2_with fail
    go_quiet (fail)
    go_wp2_with fail
    obtain ⟨W4, hW4⟩ : ∃ W4, (w.drewN nq).setCell ⟨q, 6, none⟩ (.int .i64 (t.last + 1)) = W4 := ⟨_, rfl⟩
    have hc4 : Chg (fun k => k = q) w W4 := by rw [← hW4]; exact Chg.setCell (S := fun k => k = q) (p := ⟨q, 6, none⟩) ((Chg.refl _ w).drewN nq) (.inl rfl) _
    have hq4 : W4.heap[q]? = some (.cells #[.int .i64 t.depth, .slice ra l.length rc, .slice ta told.length tc, fv, .int .i64 t.now, .int .i64 t.head, .int .i64 (t.last + 1), dv] 119 (0, 0)) := by rw [← hW4]; exact heap_setCell (i := 6) _ HR.out.que
    have hR4 : RB W4 q { t with last := t.last + 1 } l told fs (.slice ra l.length rc) (.slice ta told.length tc) fv dv := HR.out.que' hc4 hq4 rfl rfl
    have d1 := hR4.c1
    have d6 : W4.cell? ⟨q, 6, none⟩ = some (.int .i64 (t.last + 1)) := cell_of hq4 rfl
    have df := hR4.free
    have hrow4 := hR4.reqs
    have hnq : ∀ g, (Value.slice ra l.length rc).ownBlock = some g → g ≠ q := fun g hg => (hR4.ne_rv hg).1
    rw [HM.out] at d1 hrow4 hnq
    have ag : (Value.slice ra m rc).ownBlock ≠ some q := fun e => hnq q e rfl
    have hql4 := lt_of_heap hq4
    have HR4 := Lib.hid hR4
    have HC4 := Lib.hid hc4
    rw [hW4]
    clear hW4 hR4 hc4 hq4 hnq c1 c2 c6 cf
    have n1 := World.new_ne W4 _ d1
    have n2 := World.new_ne W4 _ d6
    go_region_law
      ((refine step_append_lies _ (by rfl) _ _ _ (by rfl) 0 191 i4 _ 10 88 Tryz.underlying117 hi4 hz40 hz41 hz42 rfl (by omega) (.slice ra m rc) m _ (by rfl) ((hrow4.alloc _).drew)
          ⟨W4.heap.size, 0, none⟩ 1 1 [.int .i64 (t.last + 1), .bool _, .int .i64 p, .string s, .int .i64 0, .int .i64 0, .int .i64 0, .bool false, .bool false, .string ⟨#[]⟩] (by rfl) (by rfl) (World.news_of_block (cs := #[.int .i64 (t.last + 1), .bool _, .int .i64 p, .string s, .int .i64 0, .int .i64 0, .int .i64 0, .bool false, .bool false, .string ⟨#[]⟩]) (t := 191) (fr := (0, 0)) (heap_alloc_new W4 _)) (by simp [Value.oneCell'])
          (by omega) (by unfold maxLen; omega) (by omega) (by omega) (W4.heap.size + 1) (by simp) ?_; intro gg cap2 w5 hown5 hgrow hat hltg
        have z2 := hgrow.cell (a := ⟨q, 1, none⟩) (v := .slice ra m rc) (by go_keep) (fun h => ag h.symm)
        have z3 := grown_free hgrow (a := ⟨q, 1, none⟩) (v := .slice ra m rc) (by go_keep) (by simp [*, frozen?_alloc_cells]) (fun h => ag h.symm)
        have z6 := hgrow.cell (a := ⟨q, 6, none⟩) (v := .int .i64 (t.last + 1)) (by go_keep) (fun h => ag h.symm)))
    all_goals
      have hc5 : Chg (fun k => (Value.slice ra m rc).ownBlock = some k) W4 w5 := Chg.grown (a := W4) (h := chgB (by go_grown) _) (hg := hgrow) (hr := fun k hk => .inl hk)
      obtain ⟨f1, f2, f3⟩ := HR4.out.setR (W := w5) (v' := .slice (some ⟨gg, 0, none⟩) (m + 1) cap2) (l' := l ++ [⟨newReq (t.last + 1) _ p d, s, ⟨#[]⟩⟩]) (by rw [HM.out]; exact hc5) (by rw [List.length_append, List.flatMap_append, HM.out]; exact hown5) (fun k hk => by
        simp [Value.ownBlock] at hk
        subst hk
        rw [HM.out]
        exact hat.imp id fun e => by omega)
      have HF1 := Lib.hid f1
      have HF2 := Lib.hid f2
      have HF3 := Lib.hid f3
      clear f1 f2 f3 hown5 hgrow hc5
      go_wp2_with fail
      go_ret2
      refine ⟨rfl, fun k => G k ∨ w.heap.size ≤ k, ⟨_, told, fs, _, _, fv, dv, HF1.out.st rfl rfl rfl rfl rfl rfl, HADD.out, fun k hk => ?_⟩, fun k hk => hk, ?_⟩
      · exact (HF3.out k hk).imp (H3.out k) fun e => Nat.le_trans HC4.out.size e
      · refine (HC4.out.mono fun k _ hk => by rw [hk]; exact H3.out q (.inl rfl)).then (HF2.out.mono fun k _ hk => H3.out k (hk.elim (fun e => .inl e) fun e => .inr (.inl e)))
end
set_option maxRecDepth 100000 in
set_option maxHeartbeats 2000000 in
/-- One that is under way is told. -/
theorem drop_air (k : Nat) (x : RR) (w : World) {q : Nat} {t : St} {l : List RR} {told : List Int} {fs : List (Cmd × Value)} {rv tv fv dv : Value} (h : RB w q t l told fs rv tv fv dv) (hl : l.length ≤ 1000000) (htl : told.length ≤ 1000000) (hk : l[k]? = some x) (ha : x.r.inAir = true) :
    Calls Tryz.prog 109 #[ptr q, .int .i64 k] w fun y w' => ∃ tv', y = .returned (.tuple #[]) ∧ RB w' q t l (told ++ [x.r.num]) fs rv tv' fv dv ∧ (∀ k, RFoot q rv tv' fv dv fs k → RFoot q rv tv fv dv fs k ∨ w.heap.size ≤ k) ∧ Chg (RFoot q rv tv fv dv fs) w w' := by
  obtain ⟨ra, rc, rfl⟩ := own_slice h.reqs
  obtain ⟨ta, tc, rfl⟩ := own_slice h.tol
  obtain ⟨m, hm⟩ : ∃ m, l.length = m := ⟨_, rfl⟩
  obtain ⟨m2, hm2⟩ : ∃ m2, told.length = m2 := ⟨_, rfl⟩
  obtain ⟨g, cap, e, hgl, _, hcell⟩ := h.req hk
  simp only [Value.slice.injEq] at e
  obtain ⟨rfl, hdrop, rfl⟩ := e
  clear hdrop
  have hkm : k < m := by have := (List.getElem?_eq_some_iff.1 hk).1; omega
  have hkI : (k : Int) < (m : Int) := by omega
  have hk0 : (0 : Int) ≤ (k : Int) := by omega
  have r0 : w.cell? ⟨g, k * 10, none⟩ = some (.int .i64 x.r.num) := hcell 0 _ rfl
  have r8 : w.cell? ⟨g, k * 10 + 8, none⟩ = some (.bool x.r.inAir) := hcell 8 _ rfl
  rw [ha] at r8
  have c1 := h.c1
  have c2 := h.c2
  have cf := h.free
  have hql := lt_of_heap h.que
  have hrow := h.tol
  have hntq : ∀ g, (Value.slice ta told.length tc).ownBlock = some g → g ≠ q := fun g hg => (h.ne_tv hg).1
  rw [hm] at c1
  rw [hm2] at c2 hrow hntq htl
  have ag : (Value.slice ta m2 tc).ownBlock ≠ some q := fun e => hntq q e rfl
  have HR := Lib.hid h
  have HM := Lib.hid hm
  have HM2 := Lib.hid hm2
  obtain ⟨i0, hi, hz0, hz1, hz2⟩ := info_parts Tryz.infoI2
  have n1 := World.new_ne w _ c1
  have n2 := World.new_ne w _ c2
  have n3 := World.new_ne w _ r0
  clear h hcell ha hk hm hm2 hntq
  go_enter Tryz.func109, Tryz.ntmps109
  go_wp2_with fail
  go_region_law
    ((refine step_append_lies _ (by rfl) _ _ _ (by rfl) 0 3 i0 _ 1 8 Tryz.underlying24 hi hz0 hz1 hz2 rfl (by omega) (.slice ta m2 tc) m2 _ (by rfl) ((hrow.alloc _).drew)
        ⟨w.heap.size, 0, none⟩ 1 1 [.int .i64 x.r.num] (by rfl) (by rfl) (World.news_of_block (cs := #[.int .i64 x.r.num]) (t := 3) (fr := (0, 0)) (heap_alloc_new w _)) (by simp [Value.oneCell'])
        (by omega) (by unfold maxLen; omega) (by omega) (by omega) (w.heap.size + 1) (by simp) ?_; intro gg cap2 w1 hown1 hgrow hat hltg
      have z2 := hgrow.cell (a := ⟨q, 2, none⟩) (v := .slice ta m2 tc) (by go_keep) (fun h => ag h.symm)
      have z3 := grown_free hgrow (a := ⟨q, 2, none⟩) (v := .slice ta m2 tc) (by go_keep) (by simp [*, frozen?_alloc_cells]) (fun h => ag h.symm)))
  all_goals
    have hW : Below w.heap.size w ((w.alloc (.cells #[.int .i64 x.r.num] 3)).drew) := by go_grown
    obtain ⟨f1, f2, f3⟩ := HR.out.setT (W := w1) (v' := .slice (some ⟨gg, 0, none⟩) (m2 + 1) cap2) (told' := told ++ [x.r.num]) ((chgB hW _).grown hgrow fun k hk => .inl (by rw [HM2.out]; exact hk)) (by rw [List.length_append, List.map_append, HM2.out]; exact hown1) (fun k hk => by
      simp [Value.ownBlock] at hk
      subst hk
      rw [HM2.out]
      exact hat.imp id fun e => by omega)
    have HF1 := Lib.hid f1
    have HF2 := Lib.hid f2
    have HF3 := Lib.hid f3
    clear f1 f2 f3 hown1 hgrow hW z2 z3
    go_wp2_with fail
    refine bodyPost_ret (v := .tuple #[]) (by simp [results, Tryz.results109, go_sem]) rfl ?_
    exact ⟨.slice (some ⟨gg, 0, none⟩) (m2 + 1) cap2, rfl, HF1.out, HF3.out, HF2.out.mono fun k _ hk => hk.elim (fun e => .inl e) fun e => .inr (.inr (.inl e))⟩
end Go.Proofs.YticobikhndlejaaGreatDoor
