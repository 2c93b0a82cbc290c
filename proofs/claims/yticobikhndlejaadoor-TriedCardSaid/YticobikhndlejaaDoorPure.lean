/- THE QUEUE IN PLAIN LEAN: requests without their places in memory, and what each call makes of them. -/
import Derived.Test.YticobikhndlejaaDoorModel
namespace Go.Proofs.YticobikhndlejaaDoor

/-- A command. -/
structure Cmd where
  write : Bool
  page : Nat
  count : Nat
  nums : List Int
  deriving DecidableEq
/-- A queue. -/
structure St where
  depth : Nat
  rs : List Req
  last : Int
  held : Int
  cs : List Cmd
  now : Int
  head : Nat
  disk : List Int
  deriving DecidableEq
/-- Where the search for a page stands after i pages. -/
def wrapAt (head i : Nat) : Nat := if 16 ≤ head + i then head + i - 16 else head + i
/-- The page where the next command begins: the first one that has something, from head on. -/
def beginE (ne : Nat → Bool) (head : Nat) : Option Nat := ((List.range 16).map (wrapAt head)).find? ne
/-- The requests by pages, those of one page as they lie. -/
def byPageR (l : List Req) : List Req := (List.range 16).flatMap fun p : Nat => l.filter fun r => r.page == (p : Int)
def isReadyR (now : Int) (l : List Req) (r : Req) : Bool := (r.state == 0) && (decide (r.after ≤ now) && !(l.any fun o => o.blocks r))
def readyR (now : Int) (l : List Req) : List Req := (byPageR l).filter (isReadyR now l)
def pageR (L : List Req) (k : Nat) : List Req := L.filter fun r => r.page == (k : Int)
def isKindR (write : Bool) (r : Req) : Bool := (r.write == write) && !r.alone
def kindR (L : List Req) (write : Bool) (k : Nat) : List Req := (pageR L k).filter (isKindR write)
def runLenR (K : Nat → List Req) (at_ most : Nat) : Nat := ((List.range most).takeWhile fun i => !(K (at_ + i)).isEmpty).length
def gatherR (K : Nat → List Req) (at_ n : Nat) : List Req := (List.range n).flatMap fun i => K (at_ + i)
def nextR (L : List Req) (head : Nat) : Nat × Nat × List Req :=
  match beginE (fun k => decide (0 < (pageR L k).length)) head with
  | none => (0, 0, [])
  | some p =>
    match pageR L p with
    | [] => (0, 0, [])
    | f :: _ =>
      if f.alone then (p, 1, [f])
      else (p, runLenR (kindR L f.write) p (min 4 (16 - p)), gatherR (kindR L f.write) p (runLenR (kindR L f.write) p (min 4 (16 - p))))
def newReq (n : Int) (write : Bool) (page : Int) (d : B4) : Req := ⟨n, write, page, d, 0, 0, 0, false, false, false⟩
def sentR (r : Req) : Req := { r with state := 1, inAir := true }
def tellR (r : Req) : Req := { r with told := true }
/-- The disk's bytes of a page. -/
def dget (disk : List Int) (p : Int) : B4 := ⟨disk.getD (4 * p.toNat) 0, disk.getD (4 * p.toNat + 1) 0, disk.getD (4 * p.toNat + 2) 0, disk.getD (4 * p.toNat + 3) 0⟩
def dput (disk : List Int) (p : Int) (d : B4) : List Int := (((disk.set (4 * p.toNat) d.a).set (4 * p.toNat + 1) d.b).set (4 * p.toNat + 2) d.c).set (4 * p.toNat + 3) d.d

/-- The bytes that ask writes. -/
def askD (v : Int) (n : Nat) : B4 := ⟨v, (n : Int) % 256, (n : Int) % 256 / 2, 1⟩
def askL (v : Int) (n : Nat) : List Int := [v, (n : Int) % 256, (n : Int) % 256 / 2, 1]

namespace St
def new (depth : Nat) : St := ⟨depth, [], 0, 0, [], 0, 0, List.replicate 64 0⟩
def add (t : St) (write : Bool) (page : Int) (d : B4) : St := { t with rs := t.rs ++ [newReq (t.last + 1) write page d], last := t.last + 1, held := t.held + 1 }
def tick (t : St) : St := { t with now := t.now + 1 }
/-- One that is not told. -/
def find (t : St) (n : Int) : Option Req := t.rs.find? fun r => r.num == n && !r.told
/-- Request n is told: it is dropped, if it is not under way. -/
def tellRs (rs : List Req) (n : Int) : List Req := (rs.map fun r => if r.num = n then tellR r else r).filter fun r => !(r.num == n && (r.told && !r.inAir))
def tell (t : St) (n : Int) : St := { t with rs := tellRs t.rs n, held := t.held - 1 }
def giveR (r : Req) : Req := { r with state := 4 }
def give (t : St) (n : Int) : St := { t with rs := t.rs.map fun r => if r.num = n then giveR r else r }
/-- The next command. -/
def cmd (t : St) : Option Cmd :=
  if t.depth ≤ t.cs.length then none else
    match (nextR (readyR t.now t.rs) t.head).2.2 with
    | [] => none
    | f :: l => some ⟨f.write, (nextR (readyR t.now t.rs) t.head).1, (nextR (readyR t.now t.rs) t.head).2.1, (f :: l).map (·.num)⟩
def sent (t : St) (c : Cmd) : St := { t with rs := t.rs.map fun r => if r.num ∈ c.nums then sentR r else r, cs := t.cs ++ [c], head := c.page + c.count }
/-- What a try's end makes of a request. -/
def landR (now : Int) (disk : List Int) (fault : Bool) (r : Req) : Req :=
  let r1 : Req := { r with tries := r.tries + 1, inAir := false, data := if !fault && !r.write then dget disk r.page else r.data }
  if r.state = 1 then
    if !fault then { r1 with state := 2 }
    else if 4 ≤ r.tries + 1 then { r1 with state := 3 }
    else { r1 with state := 0, alone := true, after := now + min 8 (2 ^ r.tries.toNat) }
  else r1
def landD (disk : List Int) (fault : Bool) (r : Req) : List Int := if !fault && r.write then dput disk r.page r.data else disk
/-- A try of request n ends. -/
def land (fault : Bool) (t : St) (n : Int) : St :=
  match t.rs.find? fun r => r.num == n with
  | none => t
  | some r => { t with rs := (t.rs.map fun x => if x.num = n then landR t.now t.disk fault x else x).filter fun x => !(x.num == n && (x.told && !x.inAir)), disk := landD t.disk fault r }
def complete (t : St) (k : Nat) (fault : Bool) : Option St :=
  match t.cs[k]? with
  | none => none
  | some c => some (c.nums.foldl (land fault) { t with cs := t.cs.eraseIdx k })
def waiting (t : St) : List Int := (t.rs.filter fun r => r.state == 0).map (·.num)
/-- What a crash makes of the disk: the writes under way, in order; kept says which. -/
def kept (rs : List Req) : List Int → (Nat → Bool) → Nat → List Int → List Int
  | [], _, _, d => d
  | n :: l, f, i, d => kept rs l f (i + 1) (if f i then (match rs.find? fun r => r.num == n with | none => d | some r => dput d r.page r.data) else d)
def crash (t : St) (f : Nat → Bool) : St :=
  { t with rs := [], held := 0, cs := [], head := 0, disk := kept t.rs ((t.cs.filter (·.write)).flatMap (·.nums)) f 0 t.disk }
end St
/-- The requests of a list to a page. -/
def pageL (L : List Ent) (k : Nat) : List Ent := L.filter fun e => e.r.page == (k : Int)
def isKind (write : Bool) (e : Ent) : Bool := (e.r.write == write) && !e.r.alone
def nextK (L : List Ent) (write : Bool) (k : Nat) : List Ent := (pageL L k).filter (isKind write)
/-- How many pages the command takes. -/
def runLen (K : Nat → List Ent) (at_ most : Nat) : Nat := ((List.range most).takeWhile fun i => !(K (at_ + i)).isEmpty).length
def gather (K : Nat → List Ent) (at_ n : Nat) : List Ent := (List.range n).flatMap fun i => K (at_ + i)
/-- The next command's page, how many pages it has, its requests. -/
def nextE (L : List Ent) (head : Nat) : Nat × Nat × List Ent :=
  match beginE (fun k => decide (0 < (pageL L k).length)) head with
  | none => (0, 0, [])
  | some p =>
    match pageL L p with
    | [] => (0, 0, [])
    | f :: _ => if f.r.alone then (p, 1, [f]) else
      let n := runLen (nextK L f.r.write) p (min 4 (16 - p))
      (p, n, gather (nextK L f.r.write) p n)

theorem byPage_map (es : List Ent) : (byPage es).map (·.r) = byPageR (es.map (·.r)) := by
  unfold byPage byPageR
  rw [List.map_flatMap]
  congr 1
  funext p
  rw [List.filter_map]; rfl
theorem isReady_map (now : Int) (es : List Ent) (e : Ent) : isReady now es e = isReadyR now (es.map (·.r)) e.r := by
  unfold isReady isReadyR
  rw [List.any_map]; rfl
theorem readyE_map (now : Int) (es : List Ent) : (readyE now es).map (·.r) = readyR now (es.map (·.r)) := by
  unfold readyE readyR
  rw [← byPage_map, List.filter_map]
  congr 1
  refine List.filter_congr fun e _ => isReady_map now es e
theorem pageL_map (L : List Ent) (k : Nat) : (pageL L k).map (·.r) = pageR (L.map (·.r)) k := by
  unfold pageL pageR
  rw [List.filter_map]; rfl
theorem nextK_map (L : List Ent) (w : Bool) (k : Nat) : (nextK L w k).map (·.r) = kindR (L.map (·.r)) w k := by
  unfold nextK kindR
  rw [← pageL_map, List.filter_map]; rfl
theorem runLen_map (L : List Ent) (w : Bool) (p m : Nat) : runLen (nextK L w) p m = runLenR (kindR (L.map (·.r)) w) p m := by
  unfold runLen runLenR
  congr 2
  funext i
  rw [← nextK_map]; simp
theorem gather_map (L : List Ent) (w : Bool) (p n : Nat) : (gather (nextK L w) p n).map (·.r) = gatherR (kindR (L.map (·.r)) w) p n := by
  unfold gather gatherR
  rw [List.map_flatMap]
  congr 1
  funext i
  exact nextK_map L w (p + i)
theorem nextE_map (L : List Ent) (head : Nat) : ((nextE L head).1, (nextE L head).2.1, (nextE L head).2.2.map (·.r)) = nextR (L.map (·.r)) head := by
  unfold nextE nextR
  have h1 : (fun k => decide (0 < (pageL L k).length)) = fun k => decide (0 < (pageR (L.map (·.r)) k).length) := by
    funext k; rw [← pageL_map, List.length_map]
  rw [h1]
  cases beginE (fun k => decide (0 < (pageR (L.map (·.r)) k).length)) head with
  | none => rfl
  | some p =>
    simp only
    rw [← pageL_map]
    cases pageL L p with
    | nil => rfl
    | cons f t =>
      simp only [List.map_cons]
      cases f.r.alone
      · simp only [Bool.false_eq_true, if_false]
        rw [gather_map, runLen_map]
      · rfl
end Go.Proofs.YticobikhndlejaaDoor
