/- THE QUEUE IN PLAIN LEAN: requests without their places in memory, and what each call makes of them. -/
import Derived.Test.YticobikhndlejaaGreatDoorGxA
import Derived.RegionTactic
import Derived.ChangeAlike
import Derived.BigQuiet
import Derived.Deep.QuietTactic
import Derived.BigRegion
import Derived.Shelf.Small.Bits
import Derived.Shelf.Strconv.Itoa0
import Derived.Shelf.Sort.Plain
import Derived.Ground.Names2Prog
import Derived.Shelf.Slices.Clone
import Derived.Shelf.Slices.In.SortNone
import Derived.Shelf.SlSortCmp.NoneTotal
import Derived.Ground.SlsfProg
import Derived.Test.YticobikhndlejaaGreatDoorProg
import Derived.Lib.RowBridge
import Derived.Lib.SortBridge
namespace Go.Proofs.YticobikhndlejaaGreatDoor

/-- A command. -/
structure Cmd where
  write : Bool
  page : Nat
  count : Nat
  nums : List Int
  deriving DecidableEq
/-- A queue. -/
structure St where
  depth : Nat
  rs : List Req
  last : Int
  held : Int
  cs : List Cmd
  now : Int
  head : Nat
  disk : List Int
  deriving DecidableEq
/-- Where the search for a page stands after i pages. -/
def wrapAt (head i : Nat) : Nat := if 16 ≤ head + i then head + i - 16 else head + i
/-- The page where the next command begins: the first one that has something, from head on. -/
def beginE (ne : Nat → Bool) (head : Nat) : Option Nat := ((List.range 16).map (wrapAt head)).find? ne
/-- The requests by pages, those of one page as they lie. -/
def byPageR (l : List Req) : List Req := (List.range 16).flatMap fun p : Nat => l.filter fun r => r.page == (p : Int)
def isReadyR (now : Int) (l : List Req) (r : Req) : Bool := (r.state == 0) && (decide (r.after ≤ now) && !(l.any fun o => o.blocks r))
def readyR (now : Int) (l : List Req) : List Req := (byPageR l).filter (isReadyR now l)
def pageR (L : List Req) (k : Nat) : List Req := L.filter fun r => r.page == (k : Int)
def isKindR (write : Bool) (r : Req) : Bool := (r.write == write) && !r.alone
def kindR (L : List Req) (write : Bool) (k : Nat) : List Req := (pageR L k).filter (isKindR write)
def runLenR (K : Nat → List Req) (at_ most : Nat) : Nat := ((List.range most).takeWhile fun i => !(K (at_ + i)).isEmpty).length
def gatherR (K : Nat → List Req) (at_ n : Nat) : List Req := (List.range n).flatMap fun i => K (at_ + i)
def nextR (L : List Req) (head : Nat) : Nat × Nat × List Req :=
  match beginE (fun k => decide (0 < (pageR L k).length)) head with
  | none => (0, 0, [])
  | some p =>
    match pageR L p with
    | [] => (0, 0, [])
    | f :: _ =>
      if f.alone then (p, 1, [f])
      else (p, runLenR (kindR L f.write) p (min 4 (16 - p)), gatherR (kindR L f.write) p (runLenR (kindR L f.write) p (min 4 (16 - p))))
def newReq (n : Int) (write : Bool) (page : Int) (d : B4) : Req := ⟨n, write, page, d, 0, 0, 0, false, false, false⟩
def sentR (r : Req) : Req := { r with state := 1, inAir := true }
def tellR (r : Req) : Req := { r with told := true }
/-- The disk's bytes of a page. -/
def dget (disk : List Int) (p : Int) : B4 := ⟨disk.getD (4 * p.toNat) 0, disk.getD (4 * p.toNat + 1) 0, disk.getD (4 * p.toNat + 2) 0, disk.getD (4 * p.toNat + 3) 0⟩
def dput (disk : List Int) (p : Int) (d : B4) : List Int := (((disk.set (4 * p.toNat) d.a).set (4 * p.toNat + 1) d.b).set (4 * p.toNat + 2) d.c).set (4 * p.toNat + 3) d.d

/-- The bytes that ask writes. -/
def askD (v : Int) (n : Nat) : B4 := ⟨v, (n : Int) % 256, (n : Int) % 256 / 2, 1⟩
def askL (v : Int) (n : Nat) : List Int := [v, (n : Int) % 256, (n : Int) % 256 / 2, 1]

namespace St
def new (depth : Nat) : St := ⟨depth, [], 0, 0, [], 0, 0, List.replicate 64 0⟩
def add (t : St) (write : Bool) (page : Int) (d : B4) : St := { t with rs := t.rs ++ [newReq (t.last + 1) write page d], last := t.last + 1, held := t.held + 1 }
def tick (t : St) : St := { t with now := t.now + 1 }
/-- One that is not told. -/
def find (t : St) (n : Int) : Option Req := t.rs.find? fun r => r.num == n && !r.told
/-- Request n is told: it is dropped, if it is not under way. -/
def tellRs (rs : List Req) (n : Int) : List Req := (rs.map fun r => if r.num = n then tellR r else r).filter fun r => !(r.num == n && (r.told && !r.inAir))
def tell (t : St) (n : Int) : St := { t with rs := tellRs t.rs n, held := t.held - 1 }
def giveR (r : Req) : Req := { r with state := 4 }
def give (t : St) (n : Int) : St := { t with rs := t.rs.map fun r => if r.num = n then giveR r else r }
/-- The next command. -/
def cmd (t : St) : Option Cmd :=
  if t.depth ≤ t.cs.length then none else
    match (nextR (readyR t.now t.rs) t.head).2.2 with
    | [] => none
    | f :: l => some ⟨f.write, (nextR (readyR t.now t.rs) t.head).1, (nextR (readyR t.now t.rs) t.head).2.1, (f :: l).map (·.num)⟩
def sent (t : St) (c : Cmd) : St := { t with rs := t.rs.map fun r => if r.num ∈ c.nums then sentR r else r, cs := t.cs ++ [c], head := c.page + c.count }
/-- What a try's end makes of a request. -/
def landR (now : Int) (disk : List Int) (fault : Bool) (r : Req) : Req :=
  let r1 : Req := { r with tries := r.tries + 1, inAir := false, data := if !fault && !r.write then dget disk r.page else r.data }
  if r.state = 1 then
    if !fault then { r1 with state := 2 }
    else if 4 ≤ r.tries + 1 then { r1 with state := 3 }
    else { r1 with state := 0, alone := true, after := now + min 8 (2 ^ r.tries.toNat) }
  else r1
def landD (disk : List Int) (fault : Bool) (r : Req) : List Int := if !fault && r.write then dput disk r.page r.data else disk
/-- A try of request n ends. -/
def land (fault : Bool) (t : St) (n : Int) : St :=
  match t.rs.find? fun r => r.num == n with
  | none => t
  | some r => { t with rs := (t.rs.map fun x => if x.num = n then landR t.now t.disk fault x else x).filter fun x => !(x.num == n && (x.told && !x.inAir)), disk := landD t.disk fault r }
def complete (t : St) (k : Nat) (fault : Bool) : Option St :=
  match t.cs[k]? with
  | none => none
  | some c => some (c.nums.foldl (land fault) { t with cs := t.cs.eraseIdx k })
def waiting (t : St) : List Int := (t.rs.filter fun r => r.state == 0).map (·.num)
/-- What a crash makes of the disk: the writes under way, in order; kept says which. -/
def kept (rs : List Req) : List Int → (Nat → Bool) → Nat → List Int → List Int
  | [], _, _, d => d
  | n :: l, f, i, d => kept rs l f (i + 1) (if f i then (match rs.find? fun r => r.num == n with | none => d | some r => dput d r.page r.data) else d)
def crash (t : St) (f : Nat → Bool) : St :=
  { t with rs := [], held := 0, cs := [], head := 0, disk := kept t.rs ((t.cs.filter (·.write)).flatMap (·.nums)) f 0 t.disk }
end St
/-- The requests of a list to a page. -/
def pageL (L : List Ent) (k : Nat) : List Ent := L.filter fun e => e.r.page == (k : Int)
def isKind (write : Bool) (e : Ent) : Bool := (e.r.write == write) && !e.r.alone
def nextK (L : List Ent) (write : Bool) (k : Nat) : List Ent := (pageL L k).filter (isKind write)
/-- How many pages the command takes. -/
def runLen (K : Nat → List Ent) (at_ most : Nat) : Nat := ((List.range most).takeWhile fun i => !(K (at_ + i)).isEmpty).length
def gather (K : Nat → List Ent) (at_ n : Nat) : List Ent := (List.range n).flatMap fun i => K (at_ + i)
/-- The next command's page, how many pages it has, its requests. -/
def nextE (L : List Ent) (head : Nat) : Nat × Nat × List Ent :=
  match beginE (fun k => decide (0 < (pageL L k).length)) head with
  | none => (0, 0, [])
  | some p =>
    match pageL L p with
    | [] => (0, 0, [])
    | f :: _ => if f.r.alone then (p, 1, [f]) else
      let n := runLen (nextK L f.r.write) p (min 4 (16 - p))
      (p, n, gather (nextK L f.r.write) p n)

theorem byPage_map (es : List Ent) : (byPage es).map (·.r) = byPageR (es.map (·.r)) := by
  unfold byPage byPageR
  rw [List.map_flatMap]
  congr 1
  funext p
  rw [List.filter_map]; rfl
theorem isReady_map (now : Int) (es : List Ent) (e : Ent) : isReady now es e = isReadyR now (es.map (·.r)) e.r := by
  unfold isReady isReadyR
  rw [List.any_map]; rfl
theorem readyE_map (now : Int) (es : List Ent) : (readyE now es).map (·.r) = readyR now (es.map (·.r)) := by
  unfold readyE readyR
  rw [← byPage_map, List.filter_map]
  congr 1
  refine List.filter_congr fun e _ => isReady_map now es e
theorem pageL_map (L : List Ent) (k : Nat) : (pageL L k).map (·.r) = pageR (L.map (·.r)) k := by
  unfold pageL pageR
  rw [List.filter_map]; rfl
theorem nextK_map (L : List Ent) (w : Bool) (k : Nat) : (nextK L w k).map (·.r) = kindR (L.map (·.r)) w k := by
  unfold nextK kindR
  rw [← pageL_map, List.filter_map]; rfl
theorem runLen_map (L : List Ent) (w : Bool) (p m : Nat) : runLen (nextK L w) p m = runLenR (kindR (L.map (·.r)) w) p m := by
  unfold runLen runLenR
  congr 2
  funext i
  rw [← nextK_map]; simp
theorem gather_map (L : List Ent) (w : Bool) (p n : Nat) : (gather (nextK L w) p n).map (·.r) = gatherR (kindR (L.map (·.r)) w) p n := by
  unfold gather gatherR
  rw [List.map_flatMap]
  congr 1
  funext i
  exact nextK_map L w (p + i)
theorem nextE_map (L : List Ent) (head : Nat) : ((nextE L head).1, (nextE L head).2.1, (nextE L head).2.2.map (·.r)) = nextR (L.map (·.r)) head := by
  unfold nextE nextR
  have h1 : (fun k => decide (0 < (pageL L k).length)) = fun k => decide (0 < (pageR (L.map (·.r)) k).length) := by
    funext k; rw [← pageL_map, List.length_map]
  rw [h1]
  cases beginE (fun k => decide (0 < (pageR (L.map (·.r)) k).length)) head with
  | none => rfl
  | some p =>
    simp only
    rw [← pageL_map]
    cases pageL L p with
    | nil => rfl
    | cons f t =>
      simp only [List.map_cons]
      cases f.r.alone
      · simp only [Bool.false_eq_true, if_false]
        rw [gather_map, runLen_map]
      · rfl
end Go.Proofs.YticobikhndlejaaGreatDoor

/- The requests' own methods: blocks, Compare, Fail. -/
namespace Go.Proofs.YticobikhndlejaaGreatDoor
open Go.RowKit

/-- A request's block, cell by cell. -/
structure ReqAt (w : World) (p : Nat) (r : Req) : Prop where
  c0 : w.cell? ⟨p, 0, none⟩ = some (.int .i64 r.num)
  c1 : w.cell? ⟨p, 1, none⟩ = some (.bool r.write)
  c2 : w.cell? ⟨p, 2, none⟩ = some (.int .i64 r.page)
  c3 : w.cell? ⟨p, 3, none⟩ = some (.int .u8 r.data.a)
  c4 : w.cell? ⟨p, 4, none⟩ = some (.int .u8 r.data.b)
  c5 : w.cell? ⟨p, 5, none⟩ = some (.int .u8 r.data.c)
  c6 : w.cell? ⟨p, 6, none⟩ = some (.int .u8 r.data.d)
  c7 : w.cell? ⟨p, 7, none⟩ = some (.int .i64 r.state)
  c8 : w.cell? ⟨p, 8, none⟩ = some (.int .i64 r.tries)
  c9 : w.cell? ⟨p, 9, none⟩ = some (.int .i64 r.after)
  c10 : w.cell? ⟨p, 10, none⟩ = some (.bool r.alone)
  c11 : w.cell? ⟨p, 11, none⟩ = some (.bool r.inAir)
  c12 : w.cell? ⟨p, 12, none⟩ = some (.bool r.told)
abbrev ReqB (w : World) (p : Nat) (r : Req) : Prop := w.heap[p]? = some (.cells (reqCells r) 96 (0, 0))
theorem ReqB.at {w : World} {p : Nat} {r : Req} (h : ReqB w p r) : ReqAt w p r := by
  constructor <;> exact cell_of h rfl

set_option maxRecDepth 100000 in
set_option maxHeartbeats 1000000 in
theorem blocks_any (a b : Nat) (o r : Req) (w : World) (ha : ReqB w a o) (hb : ReqB w b r) :
    Calls Tryz.prog 69 #[.pointer (some ⟨a, 0, none⟩), .pointer (some ⟨b, 0, none⟩)] w fun e w' => e = .returned (.bool (o.blocks r)) ∧ ∃ n, w' = w.drewN n := by
  obtain ⟨a0, a1, a2, _, _, _, _, a7, _, _, _, a11, _⟩ := ha.at
  obtain ⟨b0, b1, b2, _, _, _, _, _, _, _, _, _, _⟩ := hb.at
  clear ha hb
  obtain ⟨num, write, page, data, state, tries, after, alone, inAir, told⟩ := o
  obtain ⟨num', write', page', data', state', tries', after', alone', inAir', told'⟩ := r
  simp only at *
  by_cases h1 : num < num'
  · have d1 : decide (num < num') = true := by simpa using h1
    by_cases h2 : page = page'
    · have d2 : (page == page') = true := by simpa using h2
      by_cases h3 : state = 0
      · have d3 : (state == 0) = true := by simpa using h3
        clear h3
        cases write <;> cases write' <;>
        (go_enter Tryz.func69, Tryz.ntmps69; go_wp2; go_quiet (fail); go_wp2; go_ret; exact ⟨by simp [Req.blocks, d3, h1, h2], _, rfl⟩)
      · have d3 : (state == 0) = false := by simpa using h3
        clear h3
        cases write <;> cases write' <;> cases inAir <;>
        (go_enter Tryz.func69, Tryz.ntmps69; go_wp2; go_quiet (fail); go_wp2; go_ret; exact ⟨by simp [Req.blocks, d3, h1, h2], _, rfl⟩)
    · have d2 : (page == page') = false := by simpa using h2
      (go_enter Tryz.func69, Tryz.ntmps69; go_wp2; go_quiet (fail); go_wp2; go_ret; exact ⟨by simp [Req.blocks, d2, h1], _, rfl⟩)
  · have d1 : decide (num < num') = false := by simpa using h1
    (go_enter Tryz.func69, Tryz.ntmps69; go_wp2; go_quiet (fail); go_wp2; go_ret; exact ⟨by simp [Req.blocks, d1], _, rfl⟩)

set_option maxRecDepth 100000 in
theorem compare_any (a b : Nat) (o r : Req) (w : World) (ha : ReqB w a o) (hb : ReqB w b r) (h1 : 0 ≤ o.page ∧ o.page < 16) (h2 : 0 ≤ r.page ∧ r.page < 16) (h3 : 0 ≤ o.num ∧ o.num ≤ 2 ^ 60) (h4 : 0 ≤ r.num ∧ r.num ≤ 2 ^ 60) :
    Calls Tryz.prog 104 #[.pointer (some ⟨a, 0, none⟩), .pointer (some ⟨b, 0, none⟩)] w fun e w' => e = .returned (.int .i64 (o.cmp r)) ∧ ∃ n, w' = w.drewN n := by
  obtain ⟨a0, a1, a2, _, _, _, _, a7, _, _, _, a11, _⟩ := ha.at
  obtain ⟨b0, b1, b2, _, _, _, _, _, _, _, _, _, _⟩ := hb.at
  clear ha hb
  obtain ⟨num, write, page, data, state, tries, after, alone, inAir, told⟩ := o
  obtain ⟨num', write', page', data', state', tries', after', alone', inAir', told'⟩ := r
  simp only at *
  have e1 := h3.1; have e2 := h4.1; have e3 := h3.2; have e4 := h4.2; have e5 := h1.1; have e6 := h1.2; have e7 := h2.1; have e8 := h2.2
  clear h1 h2 h3 h4
  by_cases h : page = page'
  · have d2 : (page != page') = false := by simpa using h
    go_enter Tryz.func104, Tryz.ntmps104
    go_wp2
    go_quiet (fail)
    go_wp2
    go_quiet (fail)
    go_wp2
    go_ret
    exact ⟨by simp [Req.cmp, h], _, World.drewN_drewN ..⟩
  · have d2 : (page != page') = true := by simpa using h
    go_enter Tryz.func104, Tryz.ntmps104
    go_wp2
    go_quiet (fail)
    go_wp2
    go_quiet (fail)
    go_wp2
    go_ret
    exact ⟨by simp [Req.cmp, h], _, World.drewN_drewN ..⟩
end Go.Proofs.YticobikhndlejaaGreatDoor

/-
  DERIVED: THE SHELF's CONTRACTS AT THIS DUMP, IN PLAIN WORDS (tools/lay-plain.mjs out of 'TryzShelf.lean', which tools/lay-shelf.mjs wrote): THE SAME DECLARATIONS UNDER THE SAME NAMES: 'import', 'namespace', 'open', 'def', 'theorem' AND NOTHING ELSE: no command of the shelf's: FOR A HAND-IN. Each laying: the table of numbers ('.._ren') and one theorem, a field a fact of the dump's own or the kernel's comparison; each contract: ONE APPLICATION.
-/
namespace Go.Proofs
open Go.Shelf
def Tryz.sortL_ren : Go.Shelf.Ren := ⟨fun | 6 => 119 | 15 => 123 | 14 => 130 | 28 => 140 | 29 => 141 | 20 => 143 | 21 => 144 | 22 => 145 | 23 => 146 | 24 => 147 | 25 => 148 | 26 => 149 | 27 => 150 | 46 => 157 | 47 => 152 | 48 => 153 | 49 => 158 | 50 => 159 | 57 => 161 | n => n, fun | 22 => 90 | 24 => 97 | 25 => 188 | 3 => 3 | 39 => 220 | 0 => 0 | 53 => 239 | 55 => 241 | 4 => 4 | 46 => 231 | 45 => 230 | 50 => 236 | 5 => 5 | 9 => 9 | 66 => 247 | 70 => 251 | 76 => 255 | 77 => 256 | n => n, fun | n => n⟩
theorem Tryz.sortL : Go.Proofs.SlLaysF.n6 Tryz.prog Tryz.sortL_ren := {
  mixed := by kernel_rfl
  f6 := ⟨Tryz.f119.name, by decide, Tryz.func119.trans (congrArg some (by kernel_rfl))⟩
  f14 := ⟨Tryz.f130.name, by decide, Tryz.func130.trans (congrArg some (by kernel_rfl))⟩
  f15 := Tryz.func123.trans (congrArg some (by kernel_rfl))
  f20 := ⟨Tryz.f143.name, by decide, Tryz.func143.trans (congrArg some (by kernel_rfl))⟩
  f21 := ⟨Tryz.f144.name, by decide, Tryz.func144.trans (congrArg some (by kernel_rfl))⟩
  f22 := ⟨Tryz.f145.name, by decide, Tryz.func145.trans (congrArg some (by kernel_rfl))⟩
  f23 := ⟨Tryz.f146.name, by decide, Tryz.func146.trans (congrArg some (by kernel_rfl))⟩
  f24 := ⟨Tryz.f147.name, by decide, Tryz.func147.trans (congrArg some (by kernel_rfl))⟩
  f25 := ⟨Tryz.f148.name, by decide, Tryz.func148.trans (congrArg some (by kernel_rfl))⟩
  f26 := ⟨Tryz.f149.name, by decide, Tryz.func149.trans (congrArg some (by kernel_rfl))⟩
  f27 := ⟨Tryz.f150.name, by decide, Tryz.func150.trans (congrArg some (by kernel_rfl))⟩
  f28 := Tryz.func140.trans (congrArg some (by kernel_rfl))
  f29 := Tryz.func141.trans (congrArg some (by kernel_rfl))
  f46 := ⟨Tryz.f157.name, by decide, Tryz.func157.trans (congrArg some (by kernel_rfl))⟩
  f47 := Tryz.func152.trans (congrArg some (by kernel_rfl))
  f48 := Tryz.func153.trans (congrArg some (by kernel_rfl))
  f49 := ⟨Tryz.f158.name, by decide, Tryz.func158.trans (congrArg some (by kernel_rfl))⟩
  f50 := ⟨Tryz.f159.name, by decide, Tryz.func159.trans (congrArg some (by kernel_rfl))⟩
  f57 := ⟨Tryz.f161.name, by decide, Tryz.func161.trans (congrArg some (by kernel_rfl))⟩
  t0 := Tryz.underlying0
  a0 := Tryz.isAgg0
  z0 := Tryz.sizeOf0
  v0 := Tryz.zeroValue0
  t3 := Tryz.underlying3
  a3 := Tryz.isAgg3
  z3 := Tryz.sizeOf3
  v3 := Tryz.zeroValue3
  t4 := Tryz.underlying4
  a4 := Tryz.isAgg4
  z4 := Tryz.sizeOf4
  v4 := Tryz.zeroValue4
  t5 := Tryz.underlying5
  a5 := Tryz.isAgg5
  z5 := Tryz.sizeOf5
  v5 := Tryz.zeroValue5
  t9 := Tryz.underlying9
  a9 := Tryz.isAgg9
  z9 := Tryz.sizeOf9
  v9 := Tryz.zeroValue9
  t22 := Tryz.underlying90
  a22 := Tryz.isAgg90
  z22 := Tryz.sizeOf90
  v22 := Tryz.zeroValue90
  a24 := Tryz.isAgg97
  z24 := Tryz.sizeOf97
  t25 := Tryz.underlying188
  a25 := Tryz.isAgg188
  z25 := Tryz.sizeOf188
  v25 := Tryz.zeroValue188
  t39 := Tryz.underlying220
  a39 := Tryz.isAgg220
  z39 := Tryz.sizeOf220
  v39 := Tryz.zeroValue220
  t45 := Tryz.underlying230
  a45 := Tryz.isAgg230
  z45 := Tryz.sizeOf230
  v45 := Tryz.zeroValue230
  t46 := Tryz.underlying231
  a46 := Tryz.isAgg231
  z46 := Tryz.sizeOf231
  v46 := Tryz.zeroValue231
  t50 := Tryz.underlying236
  a50 := Tryz.isAgg236
  z50 := Tryz.sizeOf236
  v50 := Tryz.zeroValue236
  t53 := Tryz.underlying239
  a53 := Tryz.isAgg239
  z53 := Tryz.sizeOf239
  v53 := Tryz.zeroValue239
  t55 := Tryz.underlying241
  a55 := Tryz.isAgg241
  z55 := Tryz.sizeOf241
  v55 := Tryz.zeroValue241
  t66 := Tryz.underlying247
  a66 := Tryz.isAgg247
  z66 := Tryz.sizeOf247
  v66 := Tryz.zeroValue247
  t70 := Tryz.underlying251
  a70 := Tryz.isAgg251
  z70 := Tryz.sizeOf251
  v70 := Tryz.zeroValue251
  t76 := Tryz.underlying255
  a76 := Tryz.isAgg255
  z76 := Tryz.sizeOf255
  v76 := Tryz.zeroValue255
  t77 := Tryz.underlying256
  a77 := Tryz.isAgg256
  z77 := Tryz.sizeOf256
  v77 := Tryz.zeroValue256 }
def Tryz.lays128_ren : Go.Shelf.Ren := ⟨fun | 128 => 140 | n => n, fun | 51 => 239 | 3 => 3 | 4 => 4 | 46 => 220 | 5 => 5 | 9 => 9 | n => n, fun | n => n⟩
theorem Tryz.lays128 : Go.Proofs.Lays.n128 Tryz.prog Tryz.lays128_ren := {
  mixed := by kernel_rfl
  f128 := Tryz.func140.trans (congrArg some (by kernel_rfl))
  t3 := Tryz.underlying3
  a3 := Tryz.isAgg3
  z3 := Tryz.sizeOf3
  v3 := Tryz.zeroValue3
  t4 := Tryz.underlying4
  a4 := Tryz.isAgg4
  z4 := Tryz.sizeOf4
  v4 := Tryz.zeroValue4
  t5 := Tryz.underlying5
  a5 := Tryz.isAgg5
  z5 := Tryz.sizeOf5
  v5 := Tryz.zeroValue5
  t9 := Tryz.underlying9
  a9 := Tryz.isAgg9
  z9 := Tryz.sizeOf9
  v9 := Tryz.zeroValue9
  t46 := Tryz.underlying220
  a46 := Tryz.isAgg220
  z46 := Tryz.sizeOf220
  v46 := Tryz.zeroValue220
  t51 := Tryz.underlying239
  a51 := Tryz.isAgg239
  z51 := Tryz.sizeOf239
  v51 := Tryz.zeroValue239 }
/-- bits.Len32: "Len32 returns the minimum number of bits required to represent x; the result is 0 for x == 0.": IT RETURNS 'Lib.bitLen x'; the world is as it was. ('h0', 'h1': x is a uint32.) (LAID: no walk: one application.) -/
theorem Tryz.bits_Len32 (x : Int) (w : World) (h0 : 0 ≤ x) (h1 : x ≤ 4294967295) :
    Calls Tryz.prog 140 #[.int .u32 x] w fun e w' => e = .returned (.int .i64 (Lib.bitLen x.toNat)) ∧ w' = w := Any.bits_Len32 Tryz.lays128 x w h0 h1
def Tryz.lays125_ren : Go.Shelf.Ren := ⟨fun | 125 => 123 | 128 => 140 | 129 => 141 | n => n, fun | 46 => 220 | 3 => 3 | 51 => 239 | 53 => 241 | 4 => 4 | 5 => 5 | 9 => 9 | n => n, fun | n => n⟩
theorem Tryz.lays125 : Go.Proofs.Lays.n125 Tryz.prog Tryz.lays125_ren := {
  mixed := by kernel_rfl
  f125 := Tryz.func123.trans (congrArg some (by kernel_rfl))
  f128 := Tryz.func140.trans (congrArg some (by kernel_rfl))
  f129 := Tryz.func141.trans (congrArg some (by kernel_rfl))
  t3 := Tryz.underlying3
  a3 := Tryz.isAgg3
  z3 := Tryz.sizeOf3
  v3 := Tryz.zeroValue3
  t4 := Tryz.underlying4
  a4 := Tryz.isAgg4
  z4 := Tryz.sizeOf4
  v4 := Tryz.zeroValue4
  t5 := Tryz.underlying5
  a5 := Tryz.isAgg5
  z5 := Tryz.sizeOf5
  v5 := Tryz.zeroValue5
  t9 := Tryz.underlying9
  a9 := Tryz.isAgg9
  z9 := Tryz.sizeOf9
  v9 := Tryz.zeroValue9
  t46 := Tryz.underlying220
  a46 := Tryz.isAgg220
  z46 := Tryz.sizeOf220
  v46 := Tryz.zeroValue220
  t51 := Tryz.underlying239
  a51 := Tryz.isAgg239
  z51 := Tryz.sizeOf239
  v51 := Tryz.zeroValue239
  t53 := Tryz.underlying241
  a53 := Tryz.isAgg241
  z53 := Tryz.sizeOf241
  v53 := Tryz.zeroValue241 }
/-- bits.Len: "Len returns the minimum number of bits required to represent x; the result is 0 for x == 0.": IT RETURNS 'Lib.bitLen x'; the world is as it was. (A uint has 64 bits in the model.) ITS CALLEE bits.Len64 IS MET BY ITS OWN CONTRACT OFF THE SHELF (lay that first). (LAID: no walk: one application.) -/
theorem Tryz.bits_Len (x : Int) (w : World) (h0 : 0 ≤ x) (h1 : x ≤ 18446744073709551615) :
    Calls Tryz.prog 123 #[.int .u64 x] w fun e w' => e = .returned (.int .i64 (Lib.bitLen x.toNat)) ∧ w' = w := Any.bits_Len Tryz.lays125 x w h0 h1
def Tryz.lays129_ren : Go.Shelf.Ren := ⟨fun | 129 => 141 | n => n, fun | 53 => 241 | 3 => 3 | 4 => 4 | 46 => 220 | 5 => 5 | 9 => 9 | n => n, fun | n => n⟩
theorem Tryz.lays129 : Go.Proofs.Lays.n129 Tryz.prog Tryz.lays129_ren := {
  mixed := by kernel_rfl
  f129 := Tryz.func141.trans (congrArg some (by kernel_rfl))
  t3 := Tryz.underlying3
  a3 := Tryz.isAgg3
  z3 := Tryz.sizeOf3
  v3 := Tryz.zeroValue3
  t4 := Tryz.underlying4
  a4 := Tryz.isAgg4
  z4 := Tryz.sizeOf4
  v4 := Tryz.zeroValue4
  t5 := Tryz.underlying5
  a5 := Tryz.isAgg5
  z5 := Tryz.sizeOf5
  v5 := Tryz.zeroValue5
  t9 := Tryz.underlying9
  a9 := Tryz.isAgg9
  z9 := Tryz.sizeOf9
  v9 := Tryz.zeroValue9
  t46 := Tryz.underlying220
  a46 := Tryz.isAgg220
  z46 := Tryz.sizeOf220
  v46 := Tryz.zeroValue220
  t53 := Tryz.underlying241
  a53 := Tryz.isAgg241
  z53 := Tryz.sizeOf241
  v53 := Tryz.zeroValue241 }
/-- bits.Len64: "Len64 returns the minimum number of bits required to represent x; the result is 0 for x == 0.": IT RETURNS 'Lib.bitLen x'; the world is as it was. ('h0', 'h1': x is a uint64.) (LAID: no walk: one application.) -/
theorem Tryz.bits_Len64 (x : Int) (w : World) (h0 : 0 ≤ x) (h1 : x ≤ 18446744073709551615) :
    Calls Tryz.prog 141 #[.int .u64 x] w fun e w' => e = .returned (.int .i64 (Lib.bitLen x.toNat)) ∧ w' = w := Any.bits_Len64 Tryz.lays129 x w h0 h1
def Tryz.lays189_ren : Go.Shelf.Ren := ⟨fun | 189 => 106 | 125 => 123 | 257 => 122 | 128 => 140 | 129 => 141 | 294 => 131 | 295 => 132 | 296 => 133 | 297 => 134 | 298 => 135 | 299 => 136 | 216 => 137 | 300 => 138 | 301 => 139 | 328 => 151 | 329 => 152 | 330 => 153 | 331 => 154 | 332 => 155 | 215 => 156 | 343 => 160 | n => n, fun | 28 => 24 | 3 => 3 | 46 => 220 | 0 => 0 | 51 => 239 | 53 => 241 | 4 => 4 | 183 => 231 | 182 => 230 | 131 => 236 | 5 => 5 | 9 => 9 | 218 => 247 | 222 => 251 | 228 => 255 | 229 => 256 | n => n, fun | n => n⟩
theorem Tryz.lays189 : Go.Proofs.Lays.n189 Tryz.prog Tryz.lays189_ren := {
  mixed := by kernel_rfl
  f125 := Tryz.func123.trans (congrArg some (by kernel_rfl))
  f128 := Tryz.func140.trans (congrArg some (by kernel_rfl))
  f129 := Tryz.func141.trans (congrArg some (by kernel_rfl))
  f189 := Tryz.func106.trans (congrArg some (by kernel_rfl))
  f215 := Tryz.func156.trans (congrArg some (by kernel_rfl))
  f216 := Tryz.func137.trans (congrArg some (by kernel_rfl))
  f257 := Tryz.func122.trans (congrArg some (by kernel_rfl))
  f294 := Tryz.func131.trans (congrArg some (by kernel_rfl))
  f295 := Tryz.func132.trans (congrArg some (by kernel_rfl))
  f296 := Tryz.func133.trans (congrArg some (by kernel_rfl))
  f297 := Tryz.func134.trans (congrArg some (by kernel_rfl))
  f298 := Tryz.func135.trans (congrArg some (by kernel_rfl))
  f299 := Tryz.func136.trans (congrArg some (by kernel_rfl))
  f300 := Tryz.func138.trans (congrArg some (by kernel_rfl))
  f301 := Tryz.func139.trans (congrArg some (by kernel_rfl))
  f328 := Tryz.func151.trans (congrArg some (by kernel_rfl))
  f329 := Tryz.func152.trans (congrArg some (by kernel_rfl))
  f330 := Tryz.func153.trans (congrArg some (by kernel_rfl))
  f331 := Tryz.func154.trans (congrArg some (by kernel_rfl))
  f332 := Tryz.func155.trans (congrArg some (by kernel_rfl))
  f343 := Tryz.func160.trans (congrArg some (by kernel_rfl))
  t0 := Tryz.underlying0
  a0 := Tryz.isAgg0
  z0 := Tryz.sizeOf0
  v0 := Tryz.zeroValue0
  t3 := Tryz.underlying3
  a3 := Tryz.isAgg3
  z3 := Tryz.sizeOf3
  v3 := Tryz.zeroValue3
  t4 := Tryz.underlying4
  a4 := Tryz.isAgg4
  z4 := Tryz.sizeOf4
  v4 := Tryz.zeroValue4
  t5 := Tryz.underlying5
  a5 := Tryz.isAgg5
  z5 := Tryz.sizeOf5
  v5 := Tryz.zeroValue5
  t9 := Tryz.underlying9
  a9 := Tryz.isAgg9
  z9 := Tryz.sizeOf9
  v9 := Tryz.zeroValue9
  t28 := Tryz.underlying24
  a28 := Tryz.isAgg24
  z28 := Tryz.sizeOf24
  v28 := Tryz.zeroValue24
  t46 := Tryz.underlying220
  a46 := Tryz.isAgg220
  z46 := Tryz.sizeOf220
  v46 := Tryz.zeroValue220
  t51 := Tryz.underlying239
  a51 := Tryz.isAgg239
  z51 := Tryz.sizeOf239
  v51 := Tryz.zeroValue239
  t53 := Tryz.underlying241
  a53 := Tryz.isAgg241
  z53 := Tryz.sizeOf241
  v53 := Tryz.zeroValue241
  t131 := Tryz.underlying236
  a131 := Tryz.isAgg236
  z131 := Tryz.sizeOf236
  v131 := Tryz.zeroValue236
  t182 := Tryz.underlying230
  a182 := Tryz.isAgg230
  z182 := Tryz.sizeOf230
  v182 := Tryz.zeroValue230
  t183 := Tryz.underlying231
  a183 := Tryz.isAgg231
  z183 := Tryz.sizeOf231
  v183 := Tryz.zeroValue231
  t218 := Tryz.underlying247
  a218 := Tryz.isAgg247
  z218 := Tryz.sizeOf247
  v218 := Tryz.zeroValue247
  t222 := Tryz.underlying251
  a222 := Tryz.isAgg251
  z222 := Tryz.sizeOf251
  v222 := Tryz.zeroValue251
  t228 := Tryz.underlying255
  a228 := Tryz.isAgg255
  z228 := Tryz.sizeOf255
  v228 := Tryz.zeroValue255
  t229 := Tryz.underlying256
  a229 := Tryz.isAgg256
  z229 := Tryz.sizeOf256
  v229 := Tryz.zeroValue256 }
open Go.Sort Go.RowKit in
theorem Tryz.slices_Sort_int (blk off cap : Nat) (zs : List Int) (w : World) (hH : Holds (Value.int .i64) w blk off zs.toArray) (hblk : blk < w.heap.size) (hsz : zs.length < 4611686018427387904) :
    Calls Tryz.prog 106 #[.slice (some ⟨blk, off, none⟩) zs.length cap] w fun e w' =>
      e = .returned (.tuple #[]) ∧ ∃ n os, w' = grow (putRow (Value.int .i64) (Sort.ahead w n) blk off (zs.mergeSort fun x y => decide (x ≤ y)).toArray) os := Any.slices_Sort_int Tryz.lays189 blk off cap zs w hH hblk hsz
def Tryz.laysNm215_ren : Go.Shelf.Ren := ⟨fun | 15 => 70 | n => n, fun | 22 => 24 | 3 => 3 | 4 => 4 | n => n, fun | n => n⟩
theorem Tryz.laysNm215 : Go.Proofs.Lays2.n15 Tryz.prog Tryz.laysNm215_ren := {
  mixed := by kernel_rfl
  f15 := Tryz.func70.trans (congrArg some (by kernel_rfl))
  t3 := Tryz.underlying3
  a3 := Tryz.isAgg3
  z3 := Tryz.sizeOf3
  v3 := Tryz.zeroValue3
  t4 := Tryz.underlying4
  a4 := Tryz.isAgg4
  z4 := Tryz.sizeOf4
  v4 := Tryz.zeroValue4
  t22 := Tryz.underlying24
  a22 := Tryz.isAgg24
  z22 := Tryz.sizeOf24
  v22 := Tryz.zeroValue24
  i3 := by kernel_rfl }
open Go.RowKit Go.Lib in
/-- slices.Clone at []int: "Clone returns a copy of the slice. The elements are copied using assignment, so this is a shallow clone. The result may have additional unused capacity. The result preserves the nilness of s.": OF A SLICE THAT IS NOT nil IT RETURNS A SLICE THAT IS NOT nil, OF THE SAME ELEMENTS, IN MEMORY OF THE CALL's OWN: in the how-to's words (6f): 'w'.ownsRow B e 1 v' n cells': v' begins at the head of a row among the blocks from B on (B: the heap's size at the call), not frozen, whose first cells are the elements · 'Below B w w'': below B all is as it was. The capacity is whatever the run-time gives. 'zs': what the cells behind the slice's address hold; 'zs.take n': its elements. (LAID: no walk: one application.) -/
theorem Tryz.slices_Clone_int (b off n c : Nat) (zs : List Int) (w : World) (hz : n ≤ zs.length) (hbig : n * 8 ≤ 140737488355328) (hc : ∀ j, j < zs.length → w.cell? ⟨b, off + j, none⟩ = some (.int .i64 (zs.getD j 0))) :
    Calls Tryz.prog 70 #[.slice (some ⟨b, off, none⟩) n c] w fun e w' => ∃ v', e = .returned v' ∧ w'.ownsRow w.heap.size 3 1 v' n ((zs.take n).map (Value.int .i64)) ∧ v' ≠ .slice none 0 0 ∧ Below w.heap.size w w' := Any.slices_Clone_int Tryz.laysNm215 b off n c zs w hz hbig hc
open Go.RowKit Go.Lib in
/-- The same at nil: nil comes back; the world is as it was. (LAID: no walk: one application.) -/
theorem Tryz.slices_Clone_int_nil (n c : Nat) (w : World) :
    Calls Tryz.prog 70 #[.slice none n c] w fun e w' => e = .returned (.slice none 0 0) ∧ w' = w := Any.slices_Clone_int_nil Tryz.laysNm215 n c w
open Go.RowKit Go.Lib in
/-- The same at a slice of length 0 that is not nil, WHATEVER ITS ADDRESS (no cell is asked for): a slice that is not nil and owns nothing comes back. (LAID: no walk: one application.) -/
theorem Tryz.slices_Clone_int_zero (a : Addr) (c : Nat) (w : World) :
    Calls Tryz.prog 70 #[.slice (some a) 0 c] w fun e w' => ∃ v', e = .returned v' ∧ w'.ownsRow w.heap.size 3 1 v' 0 [] ∧ v' ≠ .slice none 0 0 ∧ Below w.heap.size w w' := Any.slices_Clone_int_zero Tryz.laysNm215 a c w
open Go.RowKit Go.Sort in
/-- .. and plain. (LAID: no walk: one application.) -/
theorem Tryz.slices_Sort_int_none (p : Option Addr) (cap : Nat) (w : World) :
    Calls Tryz.prog 106 #[.slice p 0 cap] w fun e w' => e = .returned (.tuple #[]) ∧ w' = w := Any.slices_Sort_int_none Tryz.lays189 p cap w
end Go.Proofs

/- Table.Sorted by contract: the table's requests by pages and numbers. -/
namespace Go.Proofs.YticobikhndlejaaGreatDoor
open Go.RowKit Go.Shelf Go.Lib Go.Sort

section
variable {α : Type} [Inhabited α] {enc : α → Value}
theorem holds_of_blockE {w : World} {g : Nat} {cur : Array Value} {e : TypeId} {ss : List α} (hb : w.heap[g]? = some (.cells cur e (0, 0))) (ht : cur.toList.take ss.length = ss.map enc) : Holds enc w g 0 ss.toArray := by
  intro j hj
  have hj' : j < ss.length := by simpa using hj
  refine ⟨?_, by simp [World.frozen?, hb]⟩
  have h1 : (cur.toList.take ss.length)[j]? = (ss.map enc)[j]? := by rw [ht]
  rw [List.getElem?_take_of_lt hj'] at h1
  simp only [World.cell?, hb, Nat.zero_add]
  simp only [Option.isSome_none, Bool.false_eq_true, if_false]
  rw [← Array.getElem?_toList, h1]
  simp [hj']
theorem heap_sortedE {w : World} {g n : Nat} {os : Array Obj} {cur : Array Value} {e : TypeId} {fr : Nat × Nat} (d : Array α) (hb : w.heap[g]? = some (.cells cur e fr)) :
    (grow (putRow enc (Sort.ahead w n) g 0 d) os).heap[g]? = some (.cells (putCells enc 0 d cur) e fr) := by
  have hg : g < w.heap.size := (Array.getElem?_eq_some_iff.1 hb).1
  rw [heap_grow_old _ _ (by simpa using hg)]
  simp [putRow, mapBlock, Sort.ahead, Array.getElem?_modify, hb, onCells]
theorem grownBy_sortedE {w : World} {g n : Nat} {os : Array Obj} (d : Array α) : w.grownBy (grow (putRow enc (Sort.ahead w n) g 0 d) os) (some g) := by
  refine ⟨rfl, rfl, rfl, by simp, fun k hk hne => ?_⟩
  rw [heap_grow_old _ _ (by simpa using hk)]
  have : g ≠ k := fun e => hne (by rw [e])
  simp [putRow, mapBlock, Sort.ahead, Array.getElem?_modify, this]
theorem take_putCellsE (cur : Array Value) (ts : List α) (h : ts.length ≤ cur.size) : (putCells enc 0 ts.toArray cur).toList.take ts.length = ts.map enc := by
  apply List.ext_getElem?
  intro j
  by_cases hj : j < ts.length
  · rw [List.getElem?_take_of_lt hj, Array.getElem?_toList]
    simp [putCells, hj, show j < cur.size by omega]
  · rw [List.getElem?_take_eq_none (by omega), List.getElem?_eq_none (by simp; omega)]
theorem ownsRow_sortedE {w : World} {base g cap n : Nat} {e : TypeId} {os : Array Obj} {cur : Array Value} {ss ts : List α} (hl : ts.length = ss.length) (hbase : base ≤ g) (hb : w.heap[g]? = some (.cells cur e (0, 0)))
    (h1 : ss.length ≤ cap) (h2 : cap ≤ maxLen) (h3 : cur.size = cap * 1) :
    (grow (putRow enc (Sort.ahead w n) g 0 ts.toArray) os).ownsRow base e 1 (.slice (some ⟨g, 0, none⟩) ss.length cap) ss.length (ts.map enc) :=
  ⟨by simp [hl], .inr ⟨g, cap, _, rfl, hbase, heap_sortedE _ hb, h1, h2, by simp [putCells, h3], by rw [Nat.mul_one, ← hl]; exact take_putCellsE cur ts (by omega)⟩⟩
end

/-- The entries of a world: what the sort may compare. -/
abbrev EntOf (es : List Ent) : Type := { x : Ent // x ∈ es }
abbrev encE {es : List Ent} (x : EntOf es) : Value := ptr x.1.p
def cmpE {es : List Ent} (x y : EntOf es) : Int := x.1.r.cmp y.1.r
theorem cmp_lt {es : List Ent} (x y : EntOf es) : ltOf cmpE x y = (decide (x.1.r.page < y.1.r.page) || (decide (x.1.r.page = y.1.r.page) && decide (x.1.r.num < y.1.r.num))) := by
  unfold ltOf cmpE Req.cmp
  by_cases h : x.1.r.page = y.1.r.page
  · simp [h]; omega
  · simp [h]; omega
theorem cmp_swo {es : List Ent} : SWO (ltOf (cmpE (es := es))) where
  irrefl x := by rw [cmp_lt]; simp
  trans x y z h1 h2 := by rw [cmp_lt] at *; simp at *; omega
  ntrans x y z h1 h2 := by rw [cmp_lt] at *; simp at *; omega
theorem num_inj {es : List Ent} (h : (es.map (·.r.num)).Nodup) {x y : Ent} (hx : x ∈ es) (hy : y ∈ es) (he : x.r.num = y.r.num) : x = y := by
  induction es with
  | nil => cases hx
  | cons a es ih =>
    simp only [List.map_cons, List.nodup_cons] at h
    cases hx with
    | head =>
      cases hy with
      | head => rfl
      | tail _ hy => exact absurd (he ▸ List.mem_map_of_mem hy) h.1
    | tail _ hx =>
      cases hy with
      | head => exact absurd (he ▸ List.mem_map_of_mem hx) h.1
      | tail _ hy => exact ih h.2 hx hy
theorem cmp_total {es : List Ent} (h : EntsOk es) (x y : EntOf es) (h1 : ltOf cmpE x y = false) (h2 : ltOf cmpE y x = false) : x = y := by
  rw [cmp_lt] at *
  simp at h1 h2
  exact Subtype.ext (num_inj h.nodup x.2 y.2 (by omega))
theorem cmp_reads {es : List Ent} [Inhabited (EntOf es)] (h : EntsOk es) (w : World) (hr : ∀ e ∈ es, ReqB w e.p e.r) (blk size : Nat) (hblk : ∀ e ∈ es, e.p ≠ blk) :
    CmpReads Tryz.prog 104 #[] encE (cmpE (es := es)) blk 0 size w := by
  intro m os dk _ x y
  have hW : ∀ e ∈ es, ReqB (sortWorld encE w blk 0 m dk os) e.p e.r := fun e he =>
    ((grownBy_sortedE (enc := encE) (w := w) (g := blk) (n := m) (os := os) dk).block e.p (lt_of_heap (hr e he)) (by simpa using hblk e he)).trans (hr e he)
  exact compare_any x.1.p y.1.p x.1.r y.1.r _ (hW _ x.2) (hW _ y.2) (h.page _ x.2) (h.page _ y.2) (h.num _ x.2) (h.num _ y.2)

theorem swoLe {es : List Ent} (h : EntsOk es) (L : List (EntOf es)) (hn : L.Nodup) : ((L.mergeSort fun x y => !(ltOf cmpE) y x).map (·.1)).Pairwise entLt := by
  have h1 := List.pairwise_mergeSort (le := fun x y : EntOf es => !(ltOf cmpE) y x)
    (fun a b c hab hbc => by simp only [cmp_lt] at *; simp at *; omega) (fun a b => by simp only [cmp_lt]; simp; omega) L
  have h2 : (L.mergeSort fun x y => !(ltOf cmpE) y x).Nodup := (List.mergeSort_perm L _).symm.nodup hn
  refine List.pairwise_map.2 ((h1.and h2).imp fun {x y} hxy => ?_)
  obtain ⟨h3, h4⟩ := hxy
  simp only [cmp_lt] at h3
  simp at h3
  have h5 : x.1.r.num ≠ y.1.r.num := fun he => h4 (Subtype.ext (num_inj h.nodup x.2 y.2 he))
  unfold entLt; omega

set_option maxRecDepth 100000 in
set_option maxHeartbeats 1000000 in
theorem sortedFunc_any (Bm mb clock : Nat) (es : List Ent) (w : World) (hlen : es.length ≤ 1000000) (hm : w.cell? ⟨Bm, 0, none⟩ = some (.map (some mb))) (hmap : w.heap[mb]? = some (mapObj es clock)) (hb : ∀ e ∈ es, e.born < clock) (hnd : (es.map Ent.born).Nodup)
    (hok : EntsOk es) (hr : ∀ e ∈ es, ReqB w e.p e.r) :
    Calls Tryz.prog 102 #[.func (.func 120) #[] #[ptr Bm], .func (.func 104) #[] #[]] w fun e w' =>
      ∃ v : Value, e = .returned v ∧ w'.ownsRow w.heap.size 97 1 v (byPage es).length ((byPage es).map fun e => ptr e.p) ∧ Below w.heap.size w w' := by
  have HC := Lib.hid (collect_any Bm mb clock es w hlen hm hmap hb hnd)
  have HR := Lib.hid hr
  clear hm hmap hb hr
  go_enter Tryz.func102, Tryz.ntmps102
  go_wp2_with fail
  refine HC.out.mono ?_
  rintro e w1 ⟨v, vs, rfl, hp, hrow, hbel⟩
  rcases hrow.2 with ⟨rfl, hz⟩ | ⟨g, cap, cur, rfl, hbase, hgb, r1, r2, r3, r4⟩
  · have hvs : vs = [] := List.eq_nil_of_length_eq_zero hz
    subst hvs
    have hes : es = [] := hp.symm.eq_nil
    subst hes
    go_wp2_with fail
    refine (AnyF.slices_SortFunc_none (P := Tryz.prog) (ρ := Tryz.sortL_ren) { Tryz.sortL with } none 0 _ w1).mono ?_
    rintro e w2 ⟨rfl, rfl⟩
    go_wp2
    go_ret
    exact ⟨_, rfl, World.ownsRow_nil _ _ _ _, hbel⟩
  · by_cases hvs : vs = []
    · subst hvs
      have hes : es = [] := hp.symm.eq_nil
      subst hes
      have hw1 : w1.ownsRow w.heap.size 97 1 (.slice (some ⟨g, 0, none⟩) 0 cap) 0 [] := hrow
      have HW := Lib.hid hw1
      clear hrow hw1 r1 r2 r3 r4
      go_wp2_with fail
      refine (AnyF.slices_SortFunc_none (P := Tryz.prog) (ρ := Tryz.sortL_ren) { Tryz.sortL with } (some ⟨g, 0, none⟩) cap _ w1).mono ?_
      rintro e w2 ⟨rfl, rfl⟩
      go_wp2
      go_ret
      exact ⟨_, rfl, HW.out, hbel⟩
    · obtain ⟨v0, hv0v⟩ := List.exists_mem_of_ne_nil vs hvs
      have hv0 : v0 ∈ es := hp.subset hv0v
      letI : Inhabited (EntOf es) := ⟨⟨v0, hv0⟩⟩
      obtain ⟨D, hD⟩ : ∃ D : List (EntOf es), D.map (·.1) = vs :=
        ⟨vs.attach.map fun x => ⟨x.1, hp.subset x.2⟩, by rw [List.map_map]; exact List.attach_map_subtype_val _⟩
      have hlD : D.length = vs.length := by rw [← hD]; simp
      have hDn : D.Nodup := by
        have h1 : vs.Nodup := hp.symm.nodup (nodup_of_born hnd)
        rw [← hD] at h1
        exact (List.pairwise_map.1 h1).imp fun hne heq => hne (by rw [heq])
      have hDm : vs.map (fun e => ptr e.p) = D.map encE := by rw [← hD, List.map_map]; rfl
      rw [hDm, ← hlD, Nat.mul_one] at r4
      rw [← hlD] at r1
      have hH : Holds (encE (es := es)) w1 g 0 D.toArray := holds_of_blockE hgb r4
      have hsz : D.length < 4611686018427387904 := by rw [hlD, hp.length_eq]; omega
      have hgl : g < w1.heap.size := lt_of_heap hgb
      have hr1 : ∀ e ∈ es, ReqB w1 e.p e.r := fun e he => (hbel.block e.p (lt_of_heap (HR.out e he))).trans (HR.out e he)
      have hgne : ∀ e ∈ es, e.p ≠ g := fun e he h => by
        have h1 := hr1 e he
        rw [h] at h1
        unfold ReqB at h1
        rw [hgb] at h1
        cases h1
      have hc := Any.slices_SortFunc_total (P := Tryz.prog) (ρ := Tryz.sortL_ren) Tryz.sortL (encE (es := es)) (fun _ => rfl) cmpE cmp_swo 104 #[] g 0 cap D.toArray w1
        (enters_of Tryz.func104 (by kernel_rfl) rfl) (cmp_reads hok w1 hr1 g D.toArray.size hgne).lays hH hgl (by simpa using hsz) (cmp_total hok)
      have hfin : (D.mergeSort fun x y => !(ltOf cmpE) y x).map (·.1) = byPage es := by
        refine sorted_unique ?_ (swoLe hok D hDn) (byPage_sorted hok)
        refine (((List.mergeSort_perm D _).map (·.1)).trans (List.Perm.of_eq hD)).trans (hp.trans (byPage_perm hok).symm)
      have hlen2 : vs.length = D.length := hlD.symm
      have HCs := Lib.hid hc
      have HF := Lib.hid hfin
      have HL := Lib.hid hlen2
      have hne : (byPage es).length = D.length := by rw [← hfin]; simp
      have HN := Lib.hid hne
      clear hc hfin hrow hp hD hDm hlD hlen2 hne r4 hH hr1 hgne
      go_wp2_with fail
      rw [HL.out]
      have hsz2 : D.toArray.size = D.length := by simp
      rw [← hsz2]
      refine HCs.out.mono ?_
      rintro e w2 ⟨rfl, n, os, hw2⟩
      have hrow2 : w2.ownsRow w.heap.size 97 1 (.slice (some ⟨g, 0, none⟩) D.length cap) D.length ((D.mergeSort fun x y => !(ltOf cmpE) y x).map encE) := by
        rw [hw2]; exact ownsRow_sortedE (by simp) hbase hgb r1 r2 r3
      have hb2 : Below w.heap.size w w2 := by rw [hw2]; exact hbel.grown (grownBy_sortedE _) hbel.size (fun k e => by cases e; exact hbase)
      have HR2 := Lib.hid hrow2
      clear hrow2 hw2 hsz2
      go_wp2
      go_ret
      refine ⟨_, rfl, ?_, hb2⟩
      rw [HN.out, ← HF.out, List.map_map]
      exact HR2.out

/-- The table: its block, its map, its requests. -/
structure TabB (w : World) (tb mb clock : Nat) (last held : Int) (es : List Ent) : Prop where
  tab : w.heap[tb]? = some (.cells #[.map (some mb), .int .i64 last, .int .i64 held] 148 (0, 0))
  map : w.heap[mb]? = some (mapObj es clock)
  reqs : ∀ e ∈ es, ReqB w e.p e.r
  born : ∀ e ∈ es, e.born < clock
  borns : (es.map Ent.born).Nodup
  ok : EntsOk es
  len : es.length ≤ 1000000
theorem TabB.c0 {w : World} {tb mb clock : Nat} {last held : Int} {es : List Ent} (h : TabB w tb mb clock last held es) : w.cell? ⟨tb, 0, none⟩ = some (.map (some mb)) := cell_of h.tab rfl
theorem TabB.c1 {w : World} {tb mb clock : Nat} {last held : Int} {es : List Ent} (h : TabB w tb mb clock last held es) : w.cell? ⟨tb, 1, none⟩ = some (.int .i64 last) := cell_of h.tab rfl
theorem TabB.c2 {w : World} {tb mb clock : Nat} {last held : Int} {es : List Ent} (h : TabB w tb mb clock last held es) : w.cell? ⟨tb, 2, none⟩ = some (.int .i64 held) := cell_of h.tab rfl
/-- It lies on where its blocks lie on. -/
theorem TabB.kept {w w' : World} {tb mb clock : Nat} {last held : Int} {es : List Ent} (h : TabB w tb mb clock last held es) {S : Nat → Prop} (hc : Chg S w w') (h1 : ¬ S tb) (h2 : ¬ S mb) (h3 : ∀ e ∈ es, ¬ S e.p) : TabB w' tb mb clock last held es :=
  ⟨(hc.block _ (lt_of_heap h.tab) h1).trans h.tab, (hc.block _ (lt_of_heap h.map) h2).trans h.map, fun e he => (hc.block _ (lt_of_heap (h.reqs e he)) (h3 e he)).trans (h.reqs e he), h.born, h.borns, h.ok, h.len⟩
theorem TabB.below {w w' : World} {tb mb clock : Nat} {last held : Int} {es : List Ent} (h : TabB w tb mb clock last held es) (hb : Below w.heap.size w w') : TabB w' tb mb clock last held es :=
  h.kept (chgB hb (fun _ => False)) (fun x => x) (fun x => x) (fun _ _ x => x)

set_option maxRecDepth 100000 in
theorem sorted_any (tb mb clock : Nat) (last held : Int) (es : List Ent) (w : World) (h : TabB w tb mb clock last held es) :
    Calls Tryz.prog 68 #[ptr tb] w fun e w' =>
      ∃ v : Value, e = .returned v ∧ w'.ownsRow w.heap.size 97 1 v (byPage es).length ((byPage es).map fun e => ptr e.p) ∧ Below w.heap.size w w' := by
  have c0 := h.c0
  have hb : Below w.heap.size w (w.alloc (.cells #[.map (some mb)] 146)) := (Below.refl _ w).alloc (Nat.le_refl _) _
  have h1 := h.below hb
  have HC := Lib.hid (sortedFunc_any w.heap.size mb clock es _ h1.len (cell_new (w := w) (c := #[.map (some mb)]) (t := 146) rfl) h1.map h1.born h1.borns h1.ok h1.reqs)
  have hV := (callsIn_wide (n := 6)).1 (values_in Fence.wide 6 trivial rfl (some mb) w)
  have HV := Lib.hid hV
  clear h h1 hV
  go_enter Tryz.func68, Tryz.ntmps68
  go_wp2_with fail
  refine HV.out.mono ?_
  rintro e w1 ⟨rfl, rfl⟩
  go_wp2_with fail
  refine HC.out.mono ?_
  rintro e w1 ⟨v, rfl, hrow, hbel⟩
  have HR := Lib.hid hrow
  clear hrow
  go_wp2
  go_ret
  exact ⟨v, rfl, ⟨HR.out.1, HR.out.2.imp id fun ⟨g, cap, cur, h1, h2, h3⟩ => ⟨g, cap, cur, h1, by simp at h2; omega, h3⟩⟩, hb.trans (hbel.mono (by simp))⟩
end Go.Proofs.YticobikhndlejaaGreatDoor
