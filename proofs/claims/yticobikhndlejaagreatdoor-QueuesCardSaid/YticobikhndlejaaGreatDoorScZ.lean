/- The document's queue: Crash by contract. -/
import Derived.Test.YticobikhndlejaaGreatDoorScW
import Derived.Test.YticobikhndlejaaGreatDoorScU
import Derived.Test.YticobikhndlejaaGreatDoorScY
import Derived.Test.YticobikhndlejaaGreatDoorScL
import Derived.Test.YticobikhndlejaaGreatDoorScS
namespace Go.Proofs.YticobikhndlejaaGreatDoor
open Go.RowKit Go.Shelf Go.Lib

theorem find_numR {rs : List Req} (hs : rs.Pairwise (·.num < ·.num)) {r : Req} (hr : r ∈ rs) : rs.find? (fun x => x.num == r.num) = some r := by
  induction rs with
  | nil => cases hr
  | cons a rs ih =>
    rw [List.pairwise_cons] at hs
    rcases List.mem_cons.1 hr with rfl | hr
    · simp [List.find?]
    · have hne : (a.num == r.num) = false := by
        rw [beq_eq_false_iff_ne]
        have := hs.1 r hr
        omega
      rw [List.find?_cons, hne]
      exact ih hs.2 hr
theorem nodup_part : ∀ {cs : List Cmd} {c : Cmd}, (cs.flatMap (·.nums)).Nodup → c ∈ cs → c.nums.Nodup
  | a :: cs, c, h, hc => by
    rw [List.flatMap_cons, List.nodup_append] at h
    rcases List.mem_cons.1 hc with rfl | hc
    · exact h.1
    · exact nodup_part h.2.1 hc
/-- The state with another disk. -/
def St.disked (t : St) (D : List Int) : St := { t with disk := D }
set_option maxRecDepth 100000 in
set_option maxHeartbeats 4000000 in
theorem crash_r (w : World) {q : Nat} {t : St} {G : Nat → Prop} (h : RT w q t G) (hk : t.Ok) (hsm : t.Small) (v : Value) (b : List Bool) (hB : BRow w v b) (hv : ∀ k, v.ownBlock = some k → ¬ G k) :
    Calls Tryz.prog 96 #[ptr q, v] w fun y w' => y = .returned (.tuple #[]) ∧ RT w' q (t.crash fun i => b.getD i false) G ∧ Chg G w w' := by
  obtain ⟨l, told, fs, rv, tv, fv, dv, h1, h2, h3⟩ := h
  obtain ⟨fa, fc, rfl⟩ := own_slice h1.fls.row
  obtain ⟨va, vc, rfl⟩ := own_slice hB
  obtain ⟨n, hn⟩ : ∃ n, fs.length = n := ⟨_, rfl⟩
  have hn4 : n ≤ 4 := by have := hk.len; have := hk.a.depth; rw [← h1.fcs, List.length_map] at *; omega
  obtain ⟨hll, _⟩ := rlen_okA hk.a h2 hsm.last
  have hdl : t.disk.length = 64 := hk.a.dlen
  have hnums := hk.a.rs.nums
  have hmc : ∀ c ∈ fs, c.1 ∈ t.cs := fun c hc => by rw [← h1.fcs]; exact List.mem_map_of_mem hc
  have hfly : ∀ c ∈ fs, c.1.write = true → ∀ m ∈ c.1.nums, ∃ (k : Nat) (x : RR), l[k]? = some x ∧ x.r.num = m ∧ x.data = str4 x.r.data ∧ BOk x.r.data ∧ (0 ≤ x.r.page ∧ x.r.page < 16) ∧ (∀ y ∈ l.take k, y.r.num ≠ m) ∧ t.rs.find? (fun r => r.num == m) = some x.r := fun c hc hw m hm => by
    obtain ⟨o, ho, hon, how, _⟩ := (hk.cmds c.1 (hmc c hc)).ins m hm
    obtain ⟨k, hkk⟩ := List.mem_iff_getElem?.1 ho
    obtain ⟨x, hx, rfl⟩ := h2.back hkk
    have hrok := hk.a.rs.ok x.r ho
    refine ⟨k, x, hx, hon, (h2.ok x (List.mem_of_getElem? hx)).data (how.trans hw), hrok.byte, hrok.page, fun y hy => ?_, ?_⟩
    · have hy2 : y.r ∈ t.rs.take k := by
        rw [← h2.rs, ← List.map_take]
        exact List.mem_map_of_mem hy
      have := (sorted_take hnums hkk).1 y.r hy2
      omega
    · rw [← hon]; exact find_numR hnums ho
  have hnl : ∀ c ∈ fs, c.1.nums.length ≤ 1000000 := fun c hc => by
    have hnd : c.1.nums.Nodup := by
      have := hk.a.rs.nodup
      exact nodup_part this (hmc c hc)
    have h5 : (c.1.nums.length : Nat) ≤ (t.rs.map (·.num)).length := len_sub c.1.nums hnd _ fun a ha => by
      obtain ⟨r, hr, hrn, _⟩ := (hk.cmds c.1 (hmc c hc)).ins a ha
      rw [← hrn]
      exact List.mem_map_of_mem hr
    rw [List.length_map, ← h2.len] at h5
    omega
  have c3 := h1.c3
  rw [hn] at c3
  have HR := Lib.hid h1
  have H2 := Lib.hid h2
  have H3 := Lib.hid h3
  have HB := Lib.hid hB
  have HV := Lib.hid hv
  have HFL := Lib.hid hfly
  have HNL := Lib.hid hnl
  have HK := Lib.hid hk
  have HN := Lib.hid hn
  have HDL := Lib.hid hdl
  clear h1 h2 h3 hB hv hfly hnl hk hn hdl hsm hnums hmc
  go_enter Tryz.func96, Tryz.ntmps96
  go_wp2_with fail
  go_loopg [4, 5] n (fun k nv i wr => ∃ (j : Nat), k = n - j ∧ j ≤ n ∧ i = .int .i64 j ∧ nv = .int .i64 (wnums fs j).length ∧ Hid (RB wr q (t.disked (St.kept t.rs (wnums fs j) (fun i => b.getD i false) 0 t.disk)) l told fs rv tv (.slice fa fs.length fc) dv ∧ Chg (fun k => dv.ownBlock = some k) w wr) ∧ (wnums fs j).length ≤ 1000000 * j)
  case atStart => exact ⟨0, by simp, by omega, rfl, rfl, Lib.hid ⟨HR.out, Chg.refl _ _⟩, by simp [wnums]⟩
  case round =>
    obtain ⟨j, rfl, hj, rfl, rfl, hQ, hle⟩ := hrel
    have b3 := hQ.out.1.c3
    rw [HN.out] at b3
    by_cases hlt : j < n
    · have hltI : (j : Int) < (n : Int) := by omega
      have hj0 : (0 : Int) ≤ (j : Int) := by omega
      obtain ⟨⟨c, cv⟩, hc⟩ : ∃ c, fs[j]? = some c := ⟨_, List.getElem?_eq_getElem (by have := HN.out; omega)⟩
      have hcm : (c, cv) ∈ fs := List.mem_of_getElem? hc
      obtain ⟨ra, rc, rfl⟩ : ∃ ra rc, cv = .slice ra c.nums.length rc := own_slice (hQ.out.1.fls.rows _ hcm)
      obtain ⟨g, cap, e, _, hgl, hcell⟩ := cmd_cells hQ.out.1.fls.row hc
      simp only [Value.slice.injEq] at e
      obtain ⟨rfl, _, rfl⟩ := e
      obtain ⟨wo, rfl⟩ : ∃ z, z = wr := ⟨_, rfl⟩
      have p0 : wo.cell? ⟨g, j * 4, none⟩ = some (.bool c.write) := hcell 0 _ rfl
      have p1 : wo.cell? ⟨g, j * 4 + 1, none⟩ = some (.int .i64 c.page) := hcell 1 _ rfl
      have p2 : wo.cell? ⟨g, j * 4 + 2, none⟩ = some (.int .i64 c.count) := hcell 2 _ rfl
      have p3 : wo.cell? ⟨g, j * 4 + 3, none⟩ = some (.slice ra c.nums.length rc) := hcell 3 _ rfl
      have hsucc := wnums_succ hc
      obtain ⟨m, hm⟩ : ∃ m, c.nums.length = m := ⟨_, rfl⟩
      have hm6 := HNL.out _ hcm
      simp only at hm6
      rw [hm] at p3 hm6
      obtain ⟨cw, hcw⟩ : ∃ cw, c.write = cw := ⟨_, rfl⟩
      rw [hcw] at p0
      have hfly := HFL.out _ hcm
      simp only at hfly
      rw [hcw] at hfly
      have hql := lt_of_heap hQ.out.1.que
      obtain ⟨W0, hW0⟩ : ∃ W0, wo.alloc (.cells #[.bool cw, .int .i64 c.page, .int .i64 c.count, .slice ra m rc] 48) = W0 := ⟨_, rfl⟩
      have hcb : W0.heap[wo.heap.size]? = some (.cells #[.bool cw, .int .i64 c.page, .int .i64 c.count, .slice ra m rc] 48 (0, 0)) := by rw [← hW0]; exact World.alloc_heap_new _ _
      have hb0 : Below wo.heap.size wo W0 := by rw [← hW0]; exact (Below.refl _ _).alloc (Nat.le_refl _) _
      have hR0 := hQ.out.1.below hb0
      have hC0 : Chg (fun k => dv.ownBlock = some k) w W0 := hQ.out.2.trans (chgB hb0 _)
      have hnv : ∀ k, (Value.slice ra c.nums.length rc).ownBlock = some k → dv.ownBlock ≠ some k := fun k hk => (hR0.ne_cv hcm hk).2.2.2.2
      have hdb : dv.ownBlock ≠ some wo.heap.size := fun e => by
        obtain ⟨cur, hcur⟩ := own_heap hQ.out.1.dsk e
        have := lt_of_heap hcur; omega
      obtain ⟨b0, hb0'⟩ : ∃ b0, (wnums fs j).length = b0 := ⟨_, rfl⟩
      have HC := Lib.hid hcm
      have HSU := Lib.hid (hsucc.trans (by rw [hcw]))
      have HM := Lib.hid hm
      have HR0 := Lib.hid hR0
      have HC0 := Lib.hid hC0
      have HCB := Lib.hid hcb
      have HW0 := Lib.hid hW0
      have HFY := Lib.hid hfly
      have HDB := Lib.hid hdb
      have HB0 := Lib.hid hb0'
      rw [hb0'] at hle
      rw [hb0']
      clear hcell hc hcm hsucc hm hR0 hC0 hcb hW0 hb0 hcw hfly hnv hdb hb0'
      go_upto_region 4 with fail
      go_wp2_with fail
      rw [HW0.out]
      go_loopg [4, 7] m (fun kk nv iv wx => ∃ (i k : Nat), kk = m - i ∧ i ≤ m ∧ k = b0 + i ∧ iv = .int .i64 i ∧ nv = .int .i64 k ∧ (cw = false → i = 0) ∧ Hid (RB wx q (t.disked (St.kept t.rs (wnums fs j ++ c.nums.take i) (fun i => b.getD i false) 0 t.disk)) l told fs rv tv (.slice (some ⟨g, 0, none⟩) fs.length fc) dv) ∧ Hid (Chg (fun k => dv.ownBlock = some k) W0 wx))
      case atStart => exact ⟨0, b0, by simp, by omega, rfl, rfl, rfl, fun _ => rfl, Lib.hid (by simpa using HR0.out), Lib.hid (Chg.refl _ _)⟩
      case round =>
        obtain ⟨i, k, rfl, hi, hki, rfl, rfl, hcwi, hQi, hCi⟩ := hrel
        have hcbx := (hCi.out.block _ (lt_of_heap HCB.out) HDB.out).trans HCB.out
        have q0 : wr.cell? ⟨wo.heap.size, 0, none⟩ = some (.bool cw) := cell_of hcbx rfl
        have q3 : wr.cell? ⟨wo.heap.size, 3, none⟩ = some (.slice ra m rc) := cell_of hcbx rfl
        have hk1 : k ≤ 1001000000 := by omega
        have hrowx := hQi.out.fls.rows _ HC.out
        simp only at hrowx
        rw [HM.out] at hrowx
        have HCBX := Lib.hid hcbx
        have HROW := Lib.hid hrowx
        clear hcbx hrowx
        by_cases hilt : i < m
        · have hiltI : (i : Int) < (m : Int) := by omega
          have hi0I : (0 : Int) ≤ (i : Int) := by omega
          cases cw with
          | false =>
            have hi0 := hcwi rfl
            subst hi0
            go_wp2_with fail
            go_roundg (n - (j + 1))
            case measure => omega
            case rel =>
              have hw1 : wnums fs (j + 1) = wnums fs j := by rw [HSU.out]; simp
              refine ⟨j + 1, rfl, by omega, by go_num, ?_, ?_, ?_⟩
              · rw [hw1, HB0.out]
              · rw [hw1]; exact Lib.hid ⟨by simpa using hQi.out, HC0.out.then hCi.out⟩
              · rw [hw1, HB0.out]; omega
          | true =>
            obtain ⟨num, hnum⟩ : ∃ num, c.nums[i]? = some num := ⟨_, List.getElem?_eq_getElem (by rw [HM.out]; exact hilt)⟩
            obtain ⟨k2, x, hkx, hxn, hxd, hxb, hxp, hno, hfind⟩ := HFY.out rfl num (List.mem_of_getElem? hnum)
            obtain ⟨rg, rfl, hrgl, _, hcvi⟩ := row_at HROW.out (j := i) (x := .int .i64 num) (by rw [List.getElem?_map, hnum]; rfl) (by rw [List.length_map, HM.out])
            have htake : c.nums.take (i + 1) = c.nums.take i ++ [num] := by
              obtain ⟨h1, h2⟩ := List.getElem?_eq_some_iff.1 hnum
              rw [List.take_succ_eq_append_getElem h1, h2]
            have hkept : St.kept t.rs (wnums fs j ++ c.nums.take (i + 1)) (fun i => b.getD i false) 0 t.disk = St.kept t.rs [num] (fun i => b.getD i false) k (St.kept t.rs (wnums fs j ++ c.nums.take i) (fun i => b.getD i false) 0 t.disk) := by
              rw [htake, ← List.append_assoc, kept_app, Nat.zero_add, List.length_append, List.length_take, HB0.out, HM.out, Nat.min_eq_left hi, ← hki]
            obtain ⟨D, hD⟩ : ∃ D, St.kept t.rs (wnums fs j ++ c.nums.take i) (fun i => b.getD i false) 0 t.disk = D := ⟨_, rfl⟩
            have hDl : D.length = 64 := by rw [← hD, kept_len]; exact HDL.out
            rw [hD] at hkept hQi
            obtain ⟨g2, cap2, e2, hgl2, _, hcell⟩ := hQi.out.req hkx
            obtain ⟨ra2, rc2, rfl⟩ := own_slice hQi.out.reqs
            simp only [Value.slice.injEq] at e2
            obtain ⟨rfl, hdrop, rfl⟩ := e2
            clear hdrop
            have hkl : k2 < l.length := (List.getElem?_eq_some_iff.1 hkx).1
            have hklI : (k2 : Int) < (l.length : Int) := by omega
            have hk0 : (0 : Int) ≤ (k2 : Int) := by omega
            have p0 : wr.cell? ⟨g2, k2 * 10, none⟩ = some (.int .i64 x.r.num) := hcell 0 _ rfl
            have p1 : wr.cell? ⟨g2, k2 * 10 + 1, none⟩ = some (.bool x.r.write) := hcell 1 _ rfl
            have p2 : wr.cell? ⟨g2, k2 * 10 + 2, none⟩ = some (.int .i64 x.r.page) := hcell 2 _ rfl
            have p3 : wr.cell? ⟨g2, k2 * 10 + 3, none⟩ = some (.string x.data) := hcell 3 _ rfl
            have p4 : wr.cell? ⟨g2, k2 * 10 + 4, none⟩ = some (.int .i64 x.r.state) := hcell 4 _ rfl
            have p5 : wr.cell? ⟨g2, k2 * 10 + 5, none⟩ = some (.int .i64 x.r.tries) := hcell 5 _ rfl
            have p6 : wr.cell? ⟨g2, k2 * 10 + 6, none⟩ = some (.int .i64 x.r.after) := hcell 6 _ rfl
            have p7 : wr.cell? ⟨g2, k2 * 10 + 7, none⟩ = some (.bool x.r.alone) := hcell 7 _ rfl
            have p8 : wr.cell? ⟨g2, k2 * 10 + 8, none⟩ = some (.bool x.r.inAir) := hcell 8 _ rfl
            have p9 : wr.cell? ⟨g2, k2 * 10 + 9, none⟩ = some (.string x.answer) := hcell 9 _ rfl
            have e1 := hQi.out.c1
            have hql2 := lt_of_heap hQi.out.que
            have hcbl := lt_of_heap HCBX.out
            have hgn1 : g2 ≠ wr.heap.size := by omega
            have hqn1 : q ≠ wr.heap.size := by omega
            have hwn1 : wo.heap.size ≠ wr.heap.size := by omega
            have hrn1 : rg ≠ wr.heap.size := by omega
            have hgn2 := hgn1.symm
            have hqn2 := hqn1.symm
            have hwn2 := hwn1.symm
            have hrn2 := hrn1.symm
            have HAT := Lib.hid (fun W (hb : Below wr.heap.size wr W) => at_r num W (hQi.out.below hb) hll hkx hxn hno)
            have HKI := Lib.hid hki
            have HKP := Lib.hid hkept
            have HXF := Lib.hid (And.intro hxd (And.intro hxb (And.intro hxp hfind)))
            have HD := Lib.hid hDl
            clear hcell hkx hxn hxd hxb hxp hno hfind hkept htake hD hDl hnum hki
            go_upto_region 8 with fail
            go_cut [8] from 36 to 49 (fun s8 wx => ∃ (b5 : Nat), s8 = ptr b5 ∧ wr.heap.size ≤ b5 ∧ wx.heap[b5]? = some (.cells #[.int .i64 x.r.num, .bool x.r.write, .int .i64 x.r.page, .string x.data, .int .i64 x.r.state, .int .i64 x.r.tries, .int .i64 x.r.after, .bool x.r.alone, .bool x.r.inAir, .string x.answer] 191 (0, 0)) ∧ Hid (Below wr.heap.size wr wx))
            case first =>
              go_region_held3 (fun w' => w'.cell? ⟨q, 1, none⟩ = some (.slice (some ⟨g2, 0, none⟩) l.length rc2) ∧ w'.cell? ⟨wo.heap.size, 3, none⟩ = some (.slice (some ⟨rg, 0, none⟩) m rc) ∧ w'.cell? ⟨rg, i, none⟩ = some (.int .i64 num) ∧ w'.cell? ⟨g2, k2 * 10, none⟩ = some (.int .i64 x.r.num) ∧ w'.cell? ⟨g2, k2 * 10 + 1, none⟩ = some (.bool x.r.write) ∧ w'.cell? ⟨g2, k2 * 10 + 2, none⟩ = some (.int .i64 x.r.page) ∧ w'.cell? ⟨g2, k2 * 10 + 3, none⟩ = some (.string x.data) ∧ w'.cell? ⟨g2, k2 * 10 + 4, none⟩ = some (.int .i64 x.r.state) ∧ w'.cell? ⟨g2, k2 * 10 + 5, none⟩ = some (.int .i64 x.r.tries) ∧ w'.cell? ⟨g2, k2 * 10 + 6, none⟩ = some (.int .i64 x.r.after) ∧ w'.cell? ⟨g2, k2 * 10 + 7, none⟩ = some (.bool x.r.alone) ∧ w'.cell? ⟨g2, k2 * 10 + 8, none⟩ = some (.bool x.r.inAir) ∧ w'.cell? ⟨g2, k2 * 10 + 9, none⟩ = some (.string x.answer)) (go_keep)
                (first
                | (go_at_call 110; refine (HAT.out _ (by go_grown)).mono ?_; rintro y w3 ⟨rfl, hB3⟩
                   have hB4 : Below wr.heap.size wr w3 := Below.trans (by go_grown) (hB3.mono (by simp))
                   have v0 : w3.cell? ⟨g2, k2 * 10, none⟩ = some (.int .i64 x.r.num) := (hB4.cell (p := ⟨g2, k2 * 10, none⟩) hgl2).trans p0
                   have v1 : w3.cell? ⟨g2, k2 * 10 + 1, none⟩ = some (.bool x.r.write) := (hB4.cell (p := ⟨g2, k2 * 10 + 1, none⟩) hgl2).trans p1
                   have v2 : w3.cell? ⟨g2, k2 * 10 + 2, none⟩ = some (.int .i64 x.r.page) := (hB4.cell (p := ⟨g2, k2 * 10 + 2, none⟩) hgl2).trans p2
                   have v3 : w3.cell? ⟨g2, k2 * 10 + 3, none⟩ = some (.string x.data) := (hB4.cell (p := ⟨g2, k2 * 10 + 3, none⟩) hgl2).trans p3
                   have v4 : w3.cell? ⟨g2, k2 * 10 + 4, none⟩ = some (.int .i64 x.r.state) := (hB4.cell (p := ⟨g2, k2 * 10 + 4, none⟩) hgl2).trans p4
                   have v5 : w3.cell? ⟨g2, k2 * 10 + 5, none⟩ = some (.int .i64 x.r.tries) := (hB4.cell (p := ⟨g2, k2 * 10 + 5, none⟩) hgl2).trans p5
                   have v6 : w3.cell? ⟨g2, k2 * 10 + 6, none⟩ = some (.int .i64 x.r.after) := (hB4.cell (p := ⟨g2, k2 * 10 + 6, none⟩) hgl2).trans p6
                   have v7 : w3.cell? ⟨g2, k2 * 10 + 7, none⟩ = some (.bool x.r.alone) := (hB4.cell (p := ⟨g2, k2 * 10 + 7, none⟩) hgl2).trans p7
                   have v8 : w3.cell? ⟨g2, k2 * 10 + 8, none⟩ = some (.bool x.r.inAir) := (hB4.cell (p := ⟨g2, k2 * 10 + 8, none⟩) hgl2).trans p8
                   have v9 : w3.cell? ⟨g2, k2 * 10 + 9, none⟩ = some (.string x.answer) := (hB4.cell (p := ⟨g2, k2 * 10 + 9, none⟩) hgl2).trans p9
                   have hy1 : w3.cell? ⟨q, 1, none⟩ = some (.slice (some ⟨g2, 0, none⟩) l.length rc2) := (hB4.cell (p := ⟨q, 1, none⟩) hql2).trans e1
                   have hy2 : w3.cell? ⟨wo.heap.size, 3, none⟩ = some (.slice (some ⟨rg, 0, none⟩) m rc) := (hB4.cell (p := ⟨wo.heap.size, 3, none⟩) hcbl).trans q3
                   have hy3 : w3.cell? ⟨rg, i, none⟩ = some (.int .i64 num) := (hB4.cell (p := ⟨rg, i, none⟩) hrgl).trans hcvi
                   have hz2 := hB3.size
                   try simp at hz2
                   have hm1 : q < w3.heap.size := Nat.lt_of_lt_of_le hql2 hB4.size
                   have hm3 : q ≠ w3.heap.size := by omega
                   have hgl3 : g2 < w3.heap.size := Nat.lt_of_lt_of_le hgl2 hB4.size
                   have hm4 : g2 ≠ w3.heap.size := by omega
                   have hm5 := hm3.symm
                   have hm6 := hm4.symm
                   have hcbl3 : wo.heap.size < w3.heap.size := Nat.lt_of_lt_of_le hcbl hB4.size
                   have hrgl3 : rg < w3.heap.size := Nat.lt_of_lt_of_le hrgl hB4.size
                   have hm8 : wo.heap.size ≠ w3.heap.size := by omega
                   have hm9 : rg ≠ w3.heap.size := by omega
                   have hm10 := hm8.symm
                   have hm11 := hm9.symm
                   have hm7 : wr.heap.size ≠ q := by omega
                   try (have zblk : w3.heap[wr.heap.size]? = some (.cells #[.int .i64 0, .bool false, .int .i64 0, .string ⟨#[]⟩, .int .i64 0, .int .i64 0, .int .i64 0, .bool false, .bool false, .string ⟨#[]⟩] 191 (0, 0)) := ?zval; case zval => ((refine (hB3.block _ (by simp)).trans ?_); exact World.alloc_heap_new _ _))
                   try (have zc0 : w3.cell? ⟨wr.heap.size, 0, none⟩ = some (.int .i64 0) := ?zval; case zval => (exact cell_of zblk rfl))
                   try (have zc1 : w3.cell? ⟨wr.heap.size, 1, none⟩ = some (.bool false) := ?zval; case zval => (exact cell_of zblk rfl))
                   try (have zc2 : w3.cell? ⟨wr.heap.size, 2, none⟩ = some (.int .i64 0) := ?zval; case zval => (exact cell_of zblk rfl))
                   try (have zc3 : w3.cell? ⟨wr.heap.size, 3, none⟩ = some (.string ⟨#[]⟩) := ?zval; case zval => (exact cell_of zblk rfl))
                   try (have zc4 : w3.cell? ⟨wr.heap.size, 4, none⟩ = some (.int .i64 0) := ?zval; case zval => (exact cell_of zblk rfl))
                   try (have zc5 : w3.cell? ⟨wr.heap.size, 5, none⟩ = some (.int .i64 0) := ?zval; case zval => (exact cell_of zblk rfl))
                   try (have zc6 : w3.cell? ⟨wr.heap.size, 6, none⟩ = some (.int .i64 0) := ?zval; case zval => (exact cell_of zblk rfl))
                   try (have zc7 : w3.cell? ⟨wr.heap.size, 7, none⟩ = some (.bool false) := ?zval; case zval => (exact cell_of zblk rfl))
                   try (have zc8 : w3.cell? ⟨wr.heap.size, 8, none⟩ = some (.bool false) := ?zval; case zval => (exact cell_of zblk rfl))
                   try (have zc9 : w3.cell? ⟨wr.heap.size, 9, none⟩ = some (.string ⟨#[]⟩) := ?zval; case zval => (exact cell_of zblk rfl))
                   try (have zfr : ∀ i, w3.frozen? ⟨wr.heap.size, i, none⟩ = false := ?zval; case zval => (exact fun i => free_of zblk))
                   try (have zlt : wr.heap.size < w3.heap.size := ?zval; case zval => (exact lt_of_heap zblk))
                   try (have HZ := Lib.hid zblk; clear zblk)
                   have HX := Lib.hid hB4
                   clear hB4))
              all_goals
                go_wp2_with fail
                go_meet
                case rel =>
                  refine ⟨_, rfl, ?_, ?_, ?_⟩
                  · omega
                  · first
                    | with_reducible exact World.alloc_heap_new _ _
                    | exact rr_chain _ _ _ _ _ _ _ _ _ _ HZ.out
                  · refine Lib.hid (HX.out.trans ?_)
                    repeat first | with_reducible exact Below.refl _ _ | with_reducible refine Below.alloc ?_ ?_ _ | with_reducible refine Below.setCell ?_ ?_ _
                    all_goals (try dsimp only) <;> omega
            case rest =>
              obtain ⟨b5, rfl, hb5, hx5, hBc⟩ := hcut
              obtain ⟨hxd, hxb, hxp, hfind⟩ := HXF.out
              obtain ⟨pg, hpg⟩ : ∃ pg : Nat, x.r.page = (pg : Int) := ⟨x.r.page.toNat, by omega⟩
              have hpg16 : pg < 16 := by omega
              have y2 : wc.cell? ⟨b5, 2, none⟩ = some (.int .i64 pg) := by rw [← hpg]; exact cell_of hx5 rfl
              have y3 : wc.cell? ⟨b5, 3, none⟩ = some (.string x.data) := cell_of hx5 rfl
              have hRc := hQi.out.below hBc.out
              have HPUT := Lib.hid (put_r pg x.r.data x.data wc hRc HD.out hpg16 hxb hxd)
              have HRC := Lib.hid hRc
              have HPG := Lib.hid hpg
              have HFI := Lib.hid hfind
              have HCC := Lib.hid (hCi.out.trans (chgB hBc.out _))
              have hBB := ownsRow_chg HB.out (HC0.out.then HCC.out) fun b hb hh => HV.out b hb (H3.out _ (.inr (.inr (.inr (.inr (.inl hh))))))
              clear hxd hxb hxp hfind hpg hRc hx5
              by_cases hbl : k < b.length
              · have hblI : (k : Int) < (b.length : Int) := by omega
                have hk0I : (0 : Int) ≤ (k : Int) := by omega
                obtain ⟨kg, rfl, _, hkc⟩ := BRow.cell hBB hbl
                cases hf : b.getD k false with
                | false =>
                  rw [hf] at hkc
                  have HFv := Lib.hid hf
                  clear hf hBB
                  go_wp2_with fail
                  go_roundg (m - (i + 1))
                  case measure => omega
                  case rel => exact ⟨i + 1, k + 1, rfl, by omega, by rw [HKI.out]; omega, by go_num, by go_num, (fun h => by cases h), Lib.hid (by rw [HKP.out, show St.kept _ [num] _ k _ = _ from by simp only [St.kept]; exact if_neg (by rw [HFv.out]; decide)]; exact HRC.out), HCC⟩
                | true =>
                  rw [hf] at hkc
                  have HFv := Lib.hid hf
                  clear hf hBB
                  go_wp2_with fail
                  refine HPUT.out.mono ?_
                  rintro yy w9 ⟨rfl, hR9, hC9⟩
                  have HR9 := Lib.hid hR9
                  have HC9 := Lib.hid (HCC.out.then hC9)
                  clear hR9 hC9
                  go_wp2_with fail
                  go_roundg (m - (i + 1))
                  case measure => omega
                  case rel => exact ⟨i + 1, k + 1, rfl, by omega, by rw [HKI.out]; omega, by go_num, by go_num, (fun h => by cases h), Lib.hid (by rw [HKP.out, show St.kept _ [num] _ k _ = dput D pg x.r.data from by simp only [St.kept]; rw [if_pos HFv.out, HFI.out]; show dput D x.r.page x.r.data = _; rw [HPG.out]]; exact HR9.out), HC9⟩
              · have hblI : ¬ (k : Int) < (b.length : Int) := by omega
                clear hBB
                go_wp2_with fail
                go_roundg (m - (i + 1))
                case measure => omega
                case rel => exact ⟨i + 1, k + 1, rfl, by omega, by rw [HKI.out]; omega, by go_num, by go_num, (fun h => by cases h), Lib.hid (by rw [HKP.out, show St.kept _ [num] _ k _ = _ from by simp only [St.kept]; exact if_neg (by rw [List.getD_eq_getElem?_getD, List.getElem?_eq_none (by omega)]; decide)]; exact HRC.out), HCC⟩
        · obtain rfl : i = m := by omega
          have hall : c.nums.take i = c.nums := List.take_of_length_le (by rw [HM.out]; exact Nat.le_refl _)
          have hw1 : wnums fs (j + 1) = wnums fs j ++ c.nums.take i := by
            rw [HSU.out, hall]
            cases cw with
            | true => rfl
            | false =>
              have := hcwi rfl
              have h0 : c.nums = [] := List.eq_nil_of_length_eq_zero (by rw [HM.out]; exact this)
              rw [h0]; rfl
          have HW1 := Lib.hid hw1
          have HAL := Lib.hid hall
          clear hall hw1 hcwi
          cases cw
          all_goals
            go_wp2_with fail
            go_roundg (n - (j + 1))
            case measure => omega
            case rel =>
              refine ⟨j + 1, rfl, by omega, by go_num, ?_, ?_, ?_⟩
              · rw [HW1.out, List.length_append, HB0.out, HAL.out, HM.out]; go_num
              · rw [HW1.out]; exact Lib.hid ⟨hQi.out, HC0.out.then hCi.out⟩
              · rw [HW1.out, List.length_append, HB0.out, HAL.out, HM.out]; omega
    · obtain rfl : j = n := by omega
      have hw1 : wnums fs j = (t.cs.filter (·.write)).flatMap (·.nums) := by
        unfold wnums
        rw [List.take_of_length_le (by have := HN.out; omega), HR.out.fcs]
      have hQ1 := hQ.out.1
      have hQ2 := hQ.out.2
      rw [hw1] at hQ1
      have HQ1 := Lib.hid hQ1
      have HQ2 := Lib.hid hQ2
      have hfr : ∀ i, wr.frozen? ⟨q, i, none⟩ = false := fun i => free_of hQ1.que
      have d1 := hQ1.c1
      have d2 := hQ1.c2
      have d3 := hQ1.c3
      have d5 := hQ1.c5
      have hql := lt_of_heap hQ1.que
      rw [HN.out] at d3
      obtain ⟨ra, rc, rfl⟩ := own_slice hQ1.reqs
      obtain ⟨ta, tc, rfl⟩ := own_slice hQ1.tol
      clear hQ1 hQ2 hw1 hQ
      go_wp2_with fail
      go_end0
      have hs : Chg (fun k => k = q) wr ((((wr.setCell ⟨q, 1, none⟩ (.slice none 0 0)).setCell ⟨q, 2, none⟩ (.slice none 0 0)).setCell ⟨q, 3, none⟩ (.slice none 0 0)).setCell ⟨q, 5, none⟩ (.int .i64 0)) := (((chg_set _).then (chg_set _)).then (chg_set _)).then (chg_set _)
      have hq := HQ1.out
      refine ⟨rfl, ⟨[], [], [], .slice none 0 0, .slice none 0 0, .slice none 0 0, dv, ⟨?_, World.ownsRow_nil _ _ _ _, World.ownsRow_nil _ _ _ _, ⟨World.ownsRow_nil _ _ _ _, (fun c hc => by cases hc), List.Pairwise.nil⟩, rfl, ?_, (fun c hc => by cases hc)⟩, rrel_crash _, fun k hk => ?_⟩, ?_⟩
      · exact heap_setCell (i := 5) _ (heap_setCell (i := 3) _ (heap_setCell (i := 2) _ (heap_setCell (i := 1) _ hq.que)))
      · exact ownsRow_chg hq.dsk hs fun k hk e => (hq.ne_dv hk).1 e
      · rcases hk with e | e | e | e | e | ⟨x, hx, _⟩
        · exact H3.out _ (.inl e)
        · cases e
        · cases e
        · cases e
        · exact H3.out _ (.inr (.inr (.inr (.inr (.inl e)))))
        · cases hx
      · exact (HQ2.out.mono fun k _ hk => H3.out _ (.inr (.inr (.inr (.inr (.inl hk)))))).then (hs.mono fun k _ hk => H3.out _ (.inl hk))
end Go.Proofs.YticobikhndlejaaGreatDoor

/- Cancel by contract. -/
namespace Go.Proofs.YticobikhndlejaaGreatDoor
open Go.RowKit Go.Shelf Go.Lib

set_option maxRecDepth 100000 in
theorem cancel_none (q : Nat) (s : Sta) (F : Nat → Prop) (w : World) (n : Int) (h : QAt w q s F) (hf : findE s.es n = none) :
    Calls Tryz.prog 35 #[ptr q, .int .i64 n] w fun x w' => x = .returned (errK 5) ∧ w' = w := by
  obtain ⟨tb, mb, clock, fv, hq, hF⟩ := h
  have c1 := hq.c1
  have HQ := Lib.hid hq
  have hfc := find_any tb mb clock s.last s.held n s.es
  rw [hf] at hfc
  have HC := Lib.hid hfc
  clear hq hF hfc hf
  go_enter Tryz.func35, Tryz.ntmps35
  go_wp2_with fail
  refine (HC.out w HQ.out.tab).mono ?_
  rintro x w1 ⟨rfl, rfl⟩
  dsimp only
  go_wp2_with fail
  go_ret
  exact ⟨rfl, rfl⟩

set_option maxRecDepth 100000 in
theorem cancel_done (q : Nat) (s : Sta) (F : Nat → Prop) (w : World) (n : Int) (e : Ent) (h : QAt w q s F) (hf : findE s.es n = some e) (hs : 2 ≤ e.r.state) :
    Calls Tryz.prog 35 #[ptr q, .int .i64 n] w fun x w' => ∃ b, x = .returned (errR b) ∧ ReqErr w' b n e.r.tries 9 ∧ w.heap.size ≤ b ∧ Below w.heap.size w w' := by
  obtain ⟨tb, mb, clock, fv, hq, hF⟩ := h
  obtain ⟨hem, hen, het⟩ := findE_some hf
  have c1 := hq.c1
  have hreq := hq.tab.reqs e hem
  have c7 := hreq.at.c7
  have HQ := Lib.hid hq
  have hfc := find_any tb mb clock s.last s.held n s.es
  rw [hf] at hfc
  have HC := Lib.hid hfc
  have HFL := Lib.hid (fail_any e.p e.r 9 w hreq)
  have HN := Lib.hid hen
  have hge : e.r.state ≥ 2 := hs
  clear hq hF hfc hf hreq hem hen het
  go_enter Tryz.func35, Tryz.ntmps35
  go_wp2_with fail
  refine (HC.out w HQ.out.tab).mono ?_
  rintro x w1 ⟨rfl, rfl⟩
  dsimp only
  go_wp2_with fail
  refine HFL.out.mono ?_
  rintro x w2 ⟨b, rfl, hE, hb, hB2⟩
  have HE := Lib.hid hE
  have HB2 := Lib.hid hB2
  clear hE hB2
  go_wp2_with fail
  go_ret
  exact ⟨b, rfl, by have := HE.out; rw [HN.out] at this; exact this, hb, HB2.out⟩

def giveR (r : Req) : Req := { r with state := 4 }
theorem foot_upd {q tb mb : Nat} {fv : Value} {s : Sta} {n : Int} {f : Req → Req} {k : Nat} (hk : QFoot q tb mb fv { s with es := updE s.es n f } k) : QFoot q tb mb fv s k := by
  rcases hk with h | h | h | h | ⟨x, hx, h⟩ | h
  · exact .inl h
  · exact .inr (.inl h)
  · exact .inr (.inr (.inl h))
  · exact .inr (.inr (.inr (.inl h)))
  · obtain ⟨y, hy, rfl⟩ := List.mem_map.1 hx
    exact .inr (.inr (.inr (.inr (.inl ⟨y, hy, by rw [h]; split <;> rfl⟩))))
  · exact .inr (.inr (.inr (.inr (.inr h))))

set_option maxRecDepth 100000 in
theorem cancel_ok (q : Nat) (s : Sta) (F : Nat → Prop) (w : World) (n : Int) (e : Ent) (h : QAt w q s F) (hf : findE s.es n = some e) (hs : e.r.state < 2) :
    Calls Tryz.prog 35 #[ptr q, .int .i64 n] w fun x w' => x = .returned .nilIface ∧ QAt w' q { s with es := updE s.es n giveR } F ∧ Chg F w w' := by
  obtain ⟨tb, mb, clock, fv, hq, hF⟩ := h
  obtain ⟨hem, hen, het⟩ := findE_some hf
  have c1 := hq.c1
  have hreq := hq.tab.reqs e hem
  have c7 := hreq.at.c7
  have f7 : w.frozen? ⟨e.p, 7, none⟩ = false := free_of hreq
  have HQ := Lib.hid hq
  have hfc := find_any tb mb clock s.last s.held n s.es
  rw [hf] at hfc
  have HC := Lib.hid hfc
  have HN := Lib.hid hen
  have HM := Lib.hid hem
  have HF := Lib.hid hF
  have HR := Lib.hid hreq
  have hge : ¬ e.r.state ≥ 2 := by omega
  clear hq hF hfc hf hreq hem hen het
  go_enter Tryz.func35, Tryz.ntmps35
  go_wp2_with fail
  refine (HC.out w HQ.out.tab).mono ?_
  rintro x w1 ⟨rfl, rfl⟩
  dsimp only
  go_wp2_with fail
  go_ret
  have hc : Chg (fun k => k = e.p) w1 (w1.setCell ⟨e.p, 7, none⟩ (.int .i64 4)) := chg_set _
  have hT := HQ.out.tab.upd (W := w1.setCell ⟨e.p, 7, none⟩ (.int .i64 4)) HM.out giveR (fun r => ⟨rfl, rfl⟩) (heap_setCell (i := 7) _ HR.out) hc
  rw [HN.out] at hT
  exact ⟨rfl, ⟨tb, mb, clock, fv, HQ.out.tabs clock { s with es := updE s.es n giveR } ⟨rfl, rfl, rfl, rfl⟩ rfl hT hc (fun k hk => .inr (.inr ⟨e, HM.out, hk⟩)), fun k hk => HF.out k (foot_upd hk)⟩, hc.mono fun k _ hk => HF.out k (foot_tabs3 HM.out (.inr (.inr hk)))⟩
end Go.Proofs.YticobikhndlejaaGreatDoor

/- plain.Cancel by contracts, in plain states. -/
namespace Go.Proofs.YticobikhndlejaaGreatDoor
open Go.RowKit Go.Shelf Go.Lib

set_option maxRecDepth 100000 in
theorem plCancel_of (q : Nat) (n k r t : Int) (w : World) (P : Value → World → Prop)
    (hM : Calls Tryz.prog 35 #[ptr q, .int .i64 n] (w.alloc zErr) fun x w' => ∃ err, x = .returned err ∧ P err w')
    (hP : ∀ err w', P err w' → ErrVar w' ∧ ErrIs w' err k r t ∧ w'.heap[w.heap.size]? = some zErr) :
    Calls Tryz.prog 15 #[ptr q, .int .i64 n] w fun x w' => ∃ err w1, x = .returned (plErr k r t) ∧ P err w1 ∧ Chg (fun k => k = w.heap.size) w1 w' := by
  have HM := Lib.hid hM
  have HP := Lib.hid hP
  clear hM hP
  go_enter Tryz.func15, Tryz.ntmps15
  go_wp2_with fail
  refine HM.out.mono ?_
  rintro x w1 ⟨err, rfl, hp⟩
  obtain ⟨hg, he, hz⟩ := HP.out err w1 hp
  have HT := Lib.hid (told_any hg he)
  have HPP := Lib.hid hp
  have HZ := Lib.hid hz
  clear hp hg he hz
  go_wp2_with fail
  refine HT.out.mono ?_
  rintro x w2 ⟨rfl, hB⟩
  have hz2 : w2.heap[w.heap.size]? = some zErr := (hB.block _ (lt_of_heap HZ.out)).trans HZ.out
  have z0 : w2.cell? ⟨w.heap.size, 0, none⟩ = some (.int .i64 0) := cell_of hz2 rfl
  have z1 : w2.cell? ⟨w.heap.size, 1, none⟩ = some (.int .i64 0) := cell_of hz2 rfl
  have z2 : w2.cell? ⟨w.heap.size, 2, none⟩ = some (.int .i64 0) := cell_of hz2 rfl
  have z3 : w2.cell? ⟨w.heap.size, 3, none⟩ = some (.bool false) := cell_of hz2 rfl
  have zf : ∀ i, w2.frozen? ⟨w.heap.size, i, none⟩ = false := fun i => free_of hz2
  have HB := Lib.hid hB
  have HZ2 := Lib.hid hz2
  clear hB hz2
  go_wp2_with fail
  obtain ⟨e5, hc5⟩ := err_set (W := w2) (.int .i64 k) (.int .i64 r) (.int .i64 t) (.bool true) HZ2.out
  obtain ⟨W5, hW5⟩ : ∃ W5, ((((w2.setCell ⟨w.heap.size, 0, none⟩ (.int .i64 k)).setCell ⟨w.heap.size, 1, none⟩ (.int .i64 r)).setCell ⟨w.heap.size, 2, none⟩ (.int .i64 t)).setCell ⟨w.heap.size, 3, none⟩ (.bool true)) = W5 := ⟨_, rfl⟩
  rw [hW5] at e5 hc5 ⊢
  have y0 : W5.cell? ⟨w.heap.size, 0, none⟩ = some (.int .i64 k) := cell_of e5 rfl
  have y1 : W5.cell? ⟨w.heap.size, 1, none⟩ = some (.int .i64 r) := cell_of e5 rfl
  have y2 : W5.cell? ⟨w.heap.size, 2, none⟩ = some (.int .i64 t) := cell_of e5 rfl
  have y3 : W5.cell? ⟨w.heap.size, 3, none⟩ = some (.bool true) := cell_of e5 rfl
  refine bodyPost_ret (v := plErr k r t) (by simp [results, Tryz.results15, go_sem, y0, y1, y2, y3]) rfl ⟨err, w1, rfl, HPP.out, (chgB HB.out _).then hc5⟩
section
variable {q : Nat} {t : St} {F : Nat → Prop} {w : World}
theorem cancel_none_p (h : QT w q t F) (hg : ErrVar w) (n : Int) (hf : t.find n = none) :
    Calls Tryz.prog 15 #[ptr q, .int .i64 n] w fun x w' => x = .returned (plErr 5 (-1) 0) ∧ Below w.heap.size w w' := by
  refine (plCancel_of q n 5 (-1) 0 w (fun err w' => err = errK 5 ∧ w' = w.alloc zErr) ?_ ?_).mono ?_
  · obtain ⟨s, h1, rfl⟩ := h.alloc zErr
    exact (cancel_none q s _ _ n h1 (er_find_none hf)).mono fun x w' ⟨e1, e2⟩ => ⟨_, e1, rfl, e2⟩
  · rintro err w' ⟨rfl, rfl⟩
    exact ⟨hg.alloc _, .kind 5 (by omega), zErr_alloc w⟩
  · rintro x w' ⟨err, w1, rfl, ⟨rfl, rfl⟩, hc⟩
    exact ⟨rfl, Chg.below (((Chg.refl (fun _ => False) w).alloc _).trans (hc.mono fun k _ hk => .inr (by omega)))⟩
theorem cancel_done_p (h : QT w q t F) (hg : ErrVar w) (n : Int) (r : Req) (hf : t.find n = some r) (hs : 2 ≤ r.state) :
    Calls Tryz.prog 15 #[ptr q, .int .i64 n] w fun x w' => x = .returned (plErr 9 n r.tries) ∧ Below w.heap.size w w' := by
  refine (plCancel_of q n 9 n r.tries w (fun err w' => (∃ b, err = errR b ∧ ReqErr w' b n r.tries 9) ∧ Below (w.alloc zErr).heap.size (w.alloc zErr) w') ?_ ?_).mono ?_
  · obtain ⟨s, h1, rfl⟩ := h.alloc zErr
    obtain ⟨e, he, rfl⟩ := er_find_some hf
    exact (cancel_done q s _ _ n e h1 he hs).mono fun x w' ⟨b, e1, e2, _, e3⟩ => ⟨_, e1, ⟨b, rfl, e2⟩, e3⟩
  · rintro err w' ⟨⟨b, rfl, e2⟩, e3⟩
    exact ⟨(hg.alloc _).chg (chgB e3 fun _ => False) fun x => x, .req b n r.tries 9 (by omega) e2, (e3.block _ (by simp)).trans (zErr_alloc w)⟩
  · rintro x w' ⟨err, w1, rfl, ⟨_, e3⟩, hc⟩
    exact ⟨rfl, Chg.below (chg_two (F := fun _ => False) (chgB e3 _) hc (fun _ x => x) fun k hk => .inr (by omega))⟩
theorem cancel_ok_p (h : QT w q t F) (hk : t.Ok) (hsm : t.Small) (hg : ErrVar w) (hF : ¬ F 0) (n : Int) (r : Req) (hf : t.find n = some r) (hs : r.state < 2) :
    Calls Tryz.prog 15 #[ptr q, .int .i64 n] w fun x w' => x = .returned (plErr 0 (-1) 0) ∧ QT w' q (t.give n) F ∧ Chg F w w' := by
  refine (plCancel_of q n 0 (-1) 0 w (fun err w' => err = .nilIface ∧ QT w' q (t.give n) (fun k => F k ∧ k < w.heap.size) ∧ Chg (fun k => F k ∧ k < w.heap.size) (w.alloc zErr) w') ?_ ?_).mono ?_
  · obtain ⟨s, h1, rfl⟩ := h.alloc zErr
    obtain ⟨e, he, rfl⟩ := er_find_some hf
    exact (cancel_ok q s _ _ n e h1 he hs).mono fun x w' ⟨e1, e2, e3⟩ => ⟨_, e1, rfl, ⟨_, e2, er_give giveR⟩, e3⟩
  · rintro err w' ⟨rfl, h1, h2⟩
    exact ⟨(hg.alloc _).chg h2 fun x => hF x.1, .nil, (h2.block _ (by simp) (by omega)).trans (zErr_alloc w)⟩
  · rintro x w' ⟨err, w1, rfl, ⟨rfl, h1, h2⟩, hc⟩
    exact ⟨rfl, (h1.kept hc fun k hk e => by omega).mono fun k hk => hk.1, chg_two h2 hc (fun k x => x.1) fun k hk => .inr (by omega)⟩
end
end Go.Proofs.YticobikhndlejaaGreatDoor
