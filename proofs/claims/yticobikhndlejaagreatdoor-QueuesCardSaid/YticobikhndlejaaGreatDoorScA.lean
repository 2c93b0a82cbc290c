/- Worlds that part in some blocks and in new ones: small lemmas. -/
import Derived.Test.YticobikhndlejaaGreatDoorRows
import Derived.WalkKit
import Derived.WalkSpells
import Derived.WalkLawsBesides
import Derived.Outline
import Derived.Lib.Hide
import Derived.Handy
namespace Go.Proofs.YticobikhndlejaaGreatDoor
open Go.RowKit

/-- w' is w, but for the blocks of S and for new blocks. -/
structure Chg (S : Nat → Prop) (w w' : World) : Prop where
  os : w'.os = w.os
  tape : w'.tape = w.tape
  output : w'.output = w.output
  size : w.heap.size ≤ w'.heap.size
  block : ∀ k, k < w.heap.size → ¬ S k → w'.heap[k]? = w.heap[k]?

theorem Chg.refl (S : Nat → Prop) (w : World) : Chg S w w := ⟨rfl, rfl, rfl, Nat.le_refl _, fun _ _ _ => rfl⟩
theorem Chg.mono {S S' : Nat → Prop} {w w' : World} (h : Chg S w w') (hs : ∀ k, k < w.heap.size → S k → S' k) : Chg S' w w' :=
  ⟨h.os, h.tape, h.output, h.size, fun k hk hn => h.block k hk (fun hS => hn (hs k hk hS))⟩
theorem Chg.trans {S : Nat → Prop} {a b c : World} (h : Chg S a b) (k : Chg (fun i => S i ∨ a.heap.size ≤ i) b c) : Chg S a c :=
  ⟨k.os.trans h.os, k.tape.trans h.tape, k.output.trans h.output, Nat.le_trans h.size k.size, fun i hi hn =>
    (k.block i (Nat.lt_of_lt_of_le hi h.size) (fun hh => hh.elim hn (fun hle => by omega))).trans (h.block i hi hn)⟩
theorem Chg.then {S : Nat → Prop} {a b c : World} (h : Chg S a b) (k : Chg S b c) : Chg S a c := h.trans (k.mono fun _ _ hs => .inl hs)
theorem Chg.alloc {S : Nat → Prop} {a w : World} (h : Chg S a w) (o : Obj) : Chg S a (w.alloc o) :=
  h.then ⟨rfl, rfl, rfl, by simp, fun k hk _ => Below.heap_alloc _ _ _ hk⟩
theorem Chg.drew {S : Nat → Prop} {a w : World} (h : Chg S a w) : Chg S a w.drew := ⟨h.os, h.tape, h.output, h.size, h.block⟩
theorem Chg.setCell {S : Nat → Prop} {a w : World} (h : Chg S a w) {p : Addr} (hp : S p.block ∨ a.heap.size ≤ p.block) (u : Value) : Chg S a (w.setCell p u) :=
  h.trans ⟨rfl, rfl, rfl, by simp [World.setCell], fun k hk hn => Below.heap_setCell _ _ _ _ (fun e => hn (e ▸ hp))⟩
theorem Chg.of_below {S : Nat → Prop} {a w w' : World} (h : Chg S a w) (k : Below w.heap.size w w') : Chg S a w' :=
  h.then ⟨k.os, k.tape, k.output, k.size, fun i hi _ => k.block i hi⟩
theorem Chg.below {w w' : World} (h : Chg (fun _ => False) w w') : Below w.heap.size w w' := ⟨h.os, h.tape, h.output, h.size, fun k hk => h.block k hk (fun hf => hf)⟩
theorem chgB {w w' : World} (h : Below w.heap.size w w') (S : Nat → Prop) : Chg S w w' := (Chg.refl S w).of_below h
theorem Chg.grown {S : Nat → Prop} {a w w' : World} {row : Option Nat} (h : Chg S a w) (hg : w.grownBy w' row) (hr : ∀ k, row = some k → S k ∨ a.heap.size ≤ k) : Chg S a w' :=
  h.trans ⟨hg.os, hg.tape, hg.output, hg.size, fun k hk hn => hg.block k hk (fun e => hn (hr k e.symm))⟩
theorem Chg.cell {S : Nat → Prop} {w w' : World} (h : Chg S w w') {p : Addr} (hp : p.block < w.heap.size) (hn : ¬ S p.block) : w'.cell? p = w.cell? p := World.cell?_of_block (w := w) (h.block p.block hp hn)
theorem Chg.frozen {S : Nat → Prop} {w w' : World} (h : Chg S w w') {p : Addr} (hp : p.block < w.heap.size) (hn : ¬ S p.block) : w'.frozen? p = w.frozen? p := World.frozen?_of_block (w := w) (h.block p.block hp hn)

theorem cell_new {w : World} {c : Array Value} {t : TypeId} {n i : Nat} (h : n = w.heap.size) : (w.alloc (.cells c t)).cell? ⟨n, i, none⟩ = c[i]? := by
  subst h; simp
theorem free_new {w : World} {c : Array Value} {t : TypeId} {n i : Nat} (h : n = w.heap.size) : (w.alloc (.cells c t)).frozen? ⟨n, i, none⟩ = false := by
  subst h; simp
theorem lt_of_cell {w : World} {a : Addr} {v : Value} (h : w.cell? a = some v) : a.block < w.heap.size := by
  rcases Nat.lt_or_ge a.block w.heap.size with h' | h'
  · exact h'
  · simp [World.cell?, Array.getElem?_eq_none h'] at h
theorem lt_of_heap {w : World} {b : Nat} {o : Obj} (h : w.heap[b]? = some o) : b < w.heap.size := (Array.getElem?_eq_some_iff.1 h).1
/-- cells of a block that is known whole -/
theorem cell_of {w : World} {b i : Nat} {c : Array Value} {t : TypeId} {f : Nat × Nat} {v : Value} (hb : w.heap[b]? = some (.cells c t f)) (h : c[i]? = some v) : w.cell? ⟨b, i, none⟩ = some v := by
  simp [World.cell?, hb, h]
theorem free_of {w : World} {b i : Nat} {c : Array Value} {t : TypeId} (hb : w.heap[b]? = some (.cells c t (0, 0))) : w.frozen? ⟨b, i, none⟩ = false := by
  simp [World.frozen?, hb]
theorem heap_setCell {w : World} {b i : Nat} {c : Array Value} {t : TypeId} {f : Nat × Nat} (v : Value) (hb : w.heap[b]? = some (.cells c t f)) :
    (w.setCell ⟨b, i, none⟩ v).heap[b]? = some (.cells (c.setIfInBounds i v) t f) := by
  simp [World.setCell, Array.getElem?_modify, hb]
theorem heap_setCell_ne {w : World} {b : Nat} {a : Addr} (v : Value) (h : b ≠ a.block) : (w.setCell a v).heap[b]? = w.heap[b]? := Below.heap_setCell _ _ _ _ h
/-- A result's block that was laid ahead of a call: what it holds behind the call. -/
theorem res_facts {w w1 : World} {c : Array Value} {t : TypeId} (hb : Below (w.heap.size + 1) (w.alloc (.cells c t)) w1) :
    (∀ i, w1.cell? ⟨w.heap.size, i, none⟩ = c[i]?) ∧ (∀ i, w1.frozen? ⟨w.heap.size, i, none⟩ = false) ∧ w.heap.size < w1.heap.size ∧ Below w.heap.size w w1 := by
  refine ⟨fun i => (hb.cell (p := ⟨w.heap.size, i, none⟩) (by show w.heap.size < _; omega)).trans (by simp), fun i => (hb.frozen (p := ⟨w.heap.size, i, none⟩) (by show w.heap.size < _; omega)).trans (by simp), ?_, ((Below.refl _ _).alloc (Nat.le_refl _) _).trans (hb.mono (by omega))⟩
  have := hb.size
  simp at this; omega
end Go.Proofs.YticobikhndlejaaGreatDoor

/- THE PROGRAM IN PLAIN LEAN: requests, the table's entries, which are ready, which command is the next. No program in sight. -/
namespace Go.Proofs.YticobikhndlejaaGreatDoor

structure B4 where
  (a b c d : Int)
  deriving DecidableEq
/-- A request as it lies in memory. -/
structure Req where
  num : Int
  write : Bool
  page : Int
  data : B4
  state : Int
  tries : Int
  after : Int
  alone : Bool
  inAir : Bool
  told : Bool
  deriving DecidableEq
/-- An entry of the table: the request, its block, when it was laid into the map. -/
structure Ent where
  r : Req
  p : Nat
  born : Nat

def reqCells (r : Req) : Array Value :=
  #[.int .i64 r.num, .bool r.write, .int .i64 r.page, .int .u8 r.data.a, .int .u8 r.data.b, .int .u8 r.data.c, .int .u8 r.data.d, .int .i64 r.state, .int .i64 r.tries, .int .i64 r.after, .bool r.alone, .bool r.inAir, .bool r.told]
/-- o is in r's way. -/
def Req.blocks (o r : Req) : Bool := decide (o.num < r.num) && ((o.page == r.page) && ((o.write || r.write) && ((o.state == 0) || o.inAir)))
/-- The order: by pages, those of one page by their numbers. -/
def Req.cmp (r o : Req) : Int := if r.page ≠ o.page then r.page - o.page else r.num - o.num
/-- The order of the table's entries. -/
def entLt (x y : Ent) : Prop := x.r.page < y.r.page ∨ (x.r.page = y.r.page ∧ x.r.num < y.r.num)
/-- The entries by pages, those of one page as they lie in l. -/
def byPage (l : List Ent) : List Ent := (List.range 16).flatMap fun p : Nat => l.filter fun e => e.r.page == (p : Int)
/-- What is asked of the table's entries. -/
structure EntsOk (es : List Ent) : Prop where
  page : ∀ e ∈ es, 0 ≤ e.r.page ∧ e.r.page < 16
  num : ∀ e ∈ es, 0 ≤ e.r.num ∧ e.r.num ≤ 2 ^ 60
  nums : es.Pairwise fun x y => x.r.num < y.r.num
theorem EntsOk.nodup {es : List Ent} (h : EntsOk es) : (es.map (·.r.num)).Nodup := List.pairwise_map.2 (h.nums.imp fun hlt heq => by omega)
theorem perm_filter_parts (l : List Ent) (q : Ent → Bool) : l.Perm (l.filter q ++ l.filter (fun e => !q e)) := (List.filter_append_perm q l).symm
theorem byPage_aux (l : List Ent) : ∀ n : Nat, ((List.range n).flatMap fun p : Nat => l.filter fun e => e.r.page == (p : Int)).Perm (l.filter fun e => decide (0 ≤ e.r.page ∧ e.r.page < (n : Int)))
  | 0 => by
    have : (l.filter fun e => decide (0 ≤ e.r.page ∧ e.r.page < ((0 : Nat) : Int))) = [] := List.filter_eq_nil_iff.2 fun e _ => by simp
    rw [this]; simp
  | n + 1 => by
    rw [List.range_succ, List.flatMap_append]
    simp only [List.flatMap_cons, List.flatMap_nil, List.append_nil]
    refine ((byPage_aux l n).append_right _).trans ?_
    have h1 := perm_filter_parts (l.filter fun e => decide (0 ≤ e.r.page ∧ e.r.page < ((n + 1 : Nat) : Int))) (fun e => decide (e.r.page < (n : Int)))
    refine List.Perm.trans ?_ h1.symm
    rw [List.filter_filter, List.filter_filter]
    refine List.Perm.of_eq ?_
    congr 1
    · refine List.filter_congr fun e _ => ?_
      rw [Bool.eq_iff_iff]; simp; omega
    · refine List.filter_congr fun e _ => ?_
      rw [Bool.eq_iff_iff]; simp; omega
theorem byPage_perm {es : List Ent} (h : EntsOk es) : (byPage es).Perm es := by
  refine (byPage_aux es 16).trans (List.Perm.of_eq (List.filter_eq_self.2 fun e he => ?_))
  have := h.page e he
  simp; omega
theorem byPage_sorted {es : List Ent} (h : EntsOk es) : (byPage es).Pairwise entLt := by
  unfold byPage
  refine List.pairwise_flatMap.2 ⟨fun p _ => ?_, ?_⟩
  · have h1 : (es.filter fun e => e.r.page == (p : Int)).Pairwise fun x y => x.r.num < y.r.num := h.nums.filter _
    refine h1.imp_of_mem fun {a b} ha hb hlt => .inr ⟨?_, hlt⟩
    have h2 := (List.mem_filter.1 ha).2
    have h3 := (List.mem_filter.1 hb).2
    simp at h2 h3; omega
  · refine (List.pairwise_lt_range (n := 16)).imp fun {p q} hpq x hx y hy => .inl ?_
    have h2 := (List.mem_filter.1 hx).2
    have h3 := (List.mem_filter.1 hy).2
    simp at h2 h3; omega
theorem entLt_irrefl (x : Ent) : ¬ entLt x x := by unfold entLt; omega
/-- One list is sorted so. -/
theorem sorted_unique {l m : List Ent} (hp : l.Perm m) (hl : l.Pairwise entLt) (hm : m.Pairwise entLt) : l = m :=
  List.Perm.eq_of_pairwise (le := entLt) (fun a b _ _ h1 h2 => by unfold entLt at h1 h2; omega) hl hm hp
/-- Is it ready? -/
def isReady (now : Int) (es : List Ent) (e : Ent) : Bool := (e.r.state == 0) && (decide (e.r.after ≤ now) && !(es.any fun o => o.r.blocks e.r))
def readyE (now : Int) (es : List Ent) : List Ent := (byPage es).filter (isReady now es)
theorem any_byPage {es : List Ent} (h : EntsOk es) (f : Ent → Bool) : (byPage es).any f = es.any f := by
  rw [Bool.eq_iff_iff]; simp [(byPage_perm h).mem_iff]
end Go.Proofs.YticobikhndlejaaGreatDoor

/- THE QUEUE IN PLAIN LEAN: requests without their places in memory, and what each call makes of them. -/
namespace Go.Proofs.YticobikhndlejaaGreatDoor

/-- A command. -/
structure Cmd where
  write : Bool
  page : Nat
  count : Nat
  nums : List Int
  deriving DecidableEq
/-- A queue. -/
structure St where
  depth : Nat
  rs : List Req
  last : Int
  held : Int
  cs : List Cmd
  now : Int
  head : Nat
  disk : List Int
  deriving DecidableEq
/-- Where the search for a page stands after i pages. -/
def wrapAt (head i : Nat) : Nat := if 16 ≤ head + i then head + i - 16 else head + i
/-- The page where the next command begins: the first one that has something, from head on. -/
def beginE (ne : Nat → Bool) (head : Nat) : Option Nat := ((List.range 16).map (wrapAt head)).find? ne
/-- The requests by pages, those of one page as they lie. -/
def byPageR (l : List Req) : List Req := (List.range 16).flatMap fun p : Nat => l.filter fun r => r.page == (p : Int)
def isReadyR (now : Int) (l : List Req) (r : Req) : Bool := (r.state == 0) && (decide (r.after ≤ now) && !(l.any fun o => o.blocks r))
def readyR (now : Int) (l : List Req) : List Req := (byPageR l).filter (isReadyR now l)
def pageR (L : List Req) (k : Nat) : List Req := L.filter fun r => r.page == (k : Int)
def isKindR (write : Bool) (r : Req) : Bool := (r.write == write) && !r.alone
def kindR (L : List Req) (write : Bool) (k : Nat) : List Req := (pageR L k).filter (isKindR write)
def runLenR (K : Nat → List Req) (at_ most : Nat) : Nat := ((List.range most).takeWhile fun i => !(K (at_ + i)).isEmpty).length
def gatherR (K : Nat → List Req) (at_ n : Nat) : List Req := (List.range n).flatMap fun i => K (at_ + i)
def nextR (L : List Req) (head : Nat) : Nat × Nat × List Req :=
  match beginE (fun k => decide (0 < (pageR L k).length)) head with
  | none => (0, 0, [])
  | some p =>
    match pageR L p with
    | [] => (0, 0, [])
    | f :: _ =>
      if f.alone then (p, 1, [f])
      else (p, runLenR (kindR L f.write) p (min 4 (16 - p)), gatherR (kindR L f.write) p (runLenR (kindR L f.write) p (min 4 (16 - p))))
def newReq (n : Int) (write : Bool) (page : Int) (d : B4) : Req := ⟨n, write, page, d, 0, 0, 0, false, false, false⟩
def sentR (r : Req) : Req := { r with state := 1, inAir := true }
def tellR (r : Req) : Req := { r with told := true }
/-- The disk's bytes of a page. -/
def dget (disk : List Int) (p : Int) : B4 := ⟨disk.getD (4 * p.toNat) 0, disk.getD (4 * p.toNat + 1) 0, disk.getD (4 * p.toNat + 2) 0, disk.getD (4 * p.toNat + 3) 0⟩
def dput (disk : List Int) (p : Int) (d : B4) : List Int := (((disk.set (4 * p.toNat) d.a).set (4 * p.toNat + 1) d.b).set (4 * p.toNat + 2) d.c).set (4 * p.toNat + 3) d.d

/-- The bytes that ask writes. -/
def askD (v : Int) (n : Nat) : B4 := ⟨v, (n : Int) % 256, (n : Int) % 256 / 2, 1⟩
def askL (v : Int) (n : Nat) : List Int := [v, (n : Int) % 256, (n : Int) % 256 / 2, 1]

namespace St
def new (depth : Nat) : St := ⟨depth, [], 0, 0, [], 0, 0, List.replicate 64 0⟩
def add (t : St) (write : Bool) (page : Int) (d : B4) : St := { t with rs := t.rs ++ [newReq (t.last + 1) write page d], last := t.last + 1, held := t.held + 1 }
def tick (t : St) : St := { t with now := t.now + 1 }
/-- One that is not told. -/
def find (t : St) (n : Int) : Option Req := t.rs.find? fun r => r.num == n && !r.told
/-- Request n is told: it is dropped, if it is not under way. -/
def tellRs (rs : List Req) (n : Int) : List Req := (rs.map fun r => if r.num = n then tellR r else r).filter fun r => !(r.num == n && (r.told && !r.inAir))
def tell (t : St) (n : Int) : St := { t with rs := tellRs t.rs n, held := t.held - 1 }
def giveR (r : Req) : Req := { r with state := 4 }
def give (t : St) (n : Int) : St := { t with rs := t.rs.map fun r => if r.num = n then giveR r else r }
/-- The next command. -/
def cmd (t : St) : Option Cmd :=
  if t.depth ≤ t.cs.length then none else
    match (nextR (readyR t.now t.rs) t.head).2.2 with
    | [] => none
    | f :: l => some ⟨f.write, (nextR (readyR t.now t.rs) t.head).1, (nextR (readyR t.now t.rs) t.head).2.1, (f :: l).map (·.num)⟩
def sent (t : St) (c : Cmd) : St := { t with rs := t.rs.map fun r => if r.num ∈ c.nums then sentR r else r, cs := t.cs ++ [c], head := c.page + c.count }
/-- What a try's end makes of a request. -/
def landR (now : Int) (disk : List Int) (fault : Bool) (r : Req) : Req :=
  let r1 : Req := { r with tries := r.tries + 1, inAir := false, data := if !fault && !r.write then dget disk r.page else r.data }
  if r.state = 1 then
    if !fault then { r1 with state := 2 }
    else if 4 ≤ r.tries + 1 then { r1 with state := 3 }
    else { r1 with state := 0, alone := true, after := now + min 8 (2 ^ r.tries.toNat) }
  else r1
def landD (disk : List Int) (fault : Bool) (r : Req) : List Int := if !fault && r.write then dput disk r.page r.data else disk
/-- A try of request n ends. -/
def land (fault : Bool) (t : St) (n : Int) : St :=
  match t.rs.find? fun r => r.num == n with
  | none => t
  | some r => { t with rs := (t.rs.map fun x => if x.num = n then landR t.now t.disk fault x else x).filter fun x => !(x.num == n && (x.told && !x.inAir)), disk := landD t.disk fault r }
def complete (t : St) (k : Nat) (fault : Bool) : Option St :=
  match t.cs[k]? with
  | none => none
  | some c => some (c.nums.foldl (land fault) { t with cs := t.cs.eraseIdx k })
def waiting (t : St) : List Int := (t.rs.filter fun r => r.state == 0).map (·.num)
/-- What a crash makes of the disk: the writes under way, in order; kept says which. -/
def kept (rs : List Req) : List Int → (Nat → Bool) → Nat → List Int → List Int
  | [], _, _, d => d
  | n :: l, f, i, d => kept rs l f (i + 1) (if f i then (match rs.find? fun r => r.num == n with | none => d | some r => dput d r.page r.data) else d)
def crash (t : St) (f : Nat → Bool) : St :=
  { t with rs := [], held := 0, cs := [], head := 0, disk := kept t.rs ((t.cs.filter (·.write)).flatMap (·.nums)) f 0 t.disk }
end St
/-- The requests of a list to a page. -/
def pageL (L : List Ent) (k : Nat) : List Ent := L.filter fun e => e.r.page == (k : Int)
def isKind (write : Bool) (e : Ent) : Bool := (e.r.write == write) && !e.r.alone
def nextK (L : List Ent) (write : Bool) (k : Nat) : List Ent := (pageL L k).filter (isKind write)
/-- How many pages the command takes. -/
def runLen (K : Nat → List Ent) (at_ most : Nat) : Nat := ((List.range most).takeWhile fun i => !(K (at_ + i)).isEmpty).length
def gather (K : Nat → List Ent) (at_ n : Nat) : List Ent := (List.range n).flatMap fun i => K (at_ + i)
/-- The next command's page, how many pages it has, its requests. -/
def nextE (L : List Ent) (head : Nat) : Nat × Nat × List Ent :=
  match beginE (fun k => decide (0 < (pageL L k).length)) head with
  | none => (0, 0, [])
  | some p =>
    match pageL L p with
    | [] => (0, 0, [])
    | f :: _ => if f.r.alone then (p, 1, [f]) else
      let n := runLen (nextK L f.r.write) p (min 4 (16 - p))
      (p, n, gather (nextK L f.r.write) p n)

theorem byPage_map (es : List Ent) : (byPage es).map (·.r) = byPageR (es.map (·.r)) := by
  unfold byPage byPageR
  rw [List.map_flatMap]
  congr 1
  funext p
  rw [List.filter_map]; rfl
theorem isReady_map (now : Int) (es : List Ent) (e : Ent) : isReady now es e = isReadyR now (es.map (·.r)) e.r := by
  unfold isReady isReadyR
  rw [List.any_map]; rfl
theorem readyE_map (now : Int) (es : List Ent) : (readyE now es).map (·.r) = readyR now (es.map (·.r)) := by
  unfold readyE readyR
  rw [← byPage_map, List.filter_map]
  congr 1
  refine List.filter_congr fun e _ => isReady_map now es e
theorem pageL_map (L : List Ent) (k : Nat) : (pageL L k).map (·.r) = pageR (L.map (·.r)) k := by
  unfold pageL pageR
  rw [List.filter_map]; rfl
theorem nextK_map (L : List Ent) (w : Bool) (k : Nat) : (nextK L w k).map (·.r) = kindR (L.map (·.r)) w k := by
  unfold nextK kindR
  rw [← pageL_map, List.filter_map]; rfl
theorem runLen_map (L : List Ent) (w : Bool) (p m : Nat) : runLen (nextK L w) p m = runLenR (kindR (L.map (·.r)) w) p m := by
  unfold runLen runLenR
  congr 2
  funext i
  rw [← nextK_map]; simp
theorem gather_map (L : List Ent) (w : Bool) (p n : Nat) : (gather (nextK L w) p n).map (·.r) = gatherR (kindR (L.map (·.r)) w) p n := by
  unfold gather gatherR
  rw [List.map_flatMap]
  congr 1
  funext i
  exact nextK_map L w (p + i)
theorem nextE_map (L : List Ent) (head : Nat) : ((nextE L head).1, (nextE L head).2.1, (nextE L head).2.2.map (·.r)) = nextR (L.map (·.r)) head := by
  unfold nextE nextR
  have h1 : (fun k => decide (0 < (pageL L k).length)) = fun k => decide (0 < (pageR (L.map (·.r)) k).length) := by
    funext k; rw [← pageL_map, List.length_map]
  rw [h1]
  cases beginE (fun k => decide (0 < (pageR (L.map (·.r)) k).length)) head with
  | none => rfl
  | some p =>
    simp only
    rw [← pageL_map]
    cases pageL L p with
    | nil => rfl
    | cons f t =>
      simp only [List.map_cons]
      cases f.r.alone
      · simp only [Bool.false_eq_true, if_false]
        rw [gather_map, runLen_map]
      · rfl
end Go.Proofs.YticobikhndlejaaGreatDoor

/- WHAT HOLDS OF EVERY QUEUE, and that each call keeps it. Plain Lean. -/
namespace Go.Proofs.YticobikhndlejaaGreatDoor

def BOk (d : B4) : Prop := (0 ≤ d.a ∧ d.a ≤ 255) ∧ (0 ≤ d.b ∧ d.b ≤ 255) ∧ (0 ≤ d.c ∧ d.c ≤ 255) ∧ (0 ≤ d.d ∧ d.d ≤ 255)
def Req.live (r : Req) : Bool := (r.state == 0) || r.inAir
structure ROk (r : Req) : Prop where
  page : 0 ≤ r.page ∧ r.page < 16
  st : 0 ≤ r.state ∧ r.state ≤ 4
  tries : 0 ≤ r.tries ∧ r.tries ≤ 4
  try3 : r.live = true → r.tries ≤ 3
  air : r.inAir = true → r.state = 1 ∨ r.state = 4
  uair : r.state = 1 → r.inAir = true
  told : r.told = true → r.state = 4 ∧ r.inAir = true
  byte : BOk r.data
structure RsOk (last : Int) (rs : List Req) (air : List Int) : Prop where
  nums : rs.Pairwise (·.num < ·.num)
  num : ∀ r ∈ rs, 1 ≤ r.num ∧ r.num ≤ last
  ok : ∀ r ∈ rs, ROk r
  nodup : air.Nodup
  fly : ∀ n ∈ air, ∃ r ∈ rs, r.num = n ∧ r.inAir = true
  airs : ∀ r ∈ rs, r.inAir = true → r.num ∈ air
  free : ∀ r ∈ rs, r.inAir = true → ∀ o ∈ rs, o.blocks r = false
structure St.OkA (t : St) (air : List Int) : Prop where
  depth : 1 ≤ t.depth ∧ t.depth ≤ 4
  head : t.head ≤ 16
  dlen : t.disk.length = 64
  dbyte : ∀ b ∈ t.disk, 0 ≤ b ∧ b ≤ 255
  last : 0 ≤ t.last
  now : 0 ≤ t.now
  rs : RsOk t.last t.rs air
  held : t.held = ((t.rs.filter fun r => !r.told).length : Int)
  h40 : t.held ≤ 40
structure CmdOk (rs : List Req) (c : Cmd) : Prop where
  count : 1 ≤ c.count ∧ c.count ≤ 4
  page : c.page + c.count ≤ 16
  len : c.count ≤ c.nums.length
  wlen : c.write = true → c.nums.length = c.count
  ins : ∀ n ∈ c.nums, ∃ r ∈ rs, r.num = n ∧ r.write = c.write ∧ (c.page : Int) ≤ r.page ∧ r.page < c.page + c.count
  all : ∀ p : Int, (c.page : Int) ≤ p → p < c.page + c.count → ∃ r ∈ rs, r.num ∈ c.nums ∧ r.page = p
structure St.Ok (t : St) : Prop where
  a : t.OkA (t.cs.flatMap (·.nums))
  len : t.cs.length ≤ t.depth
  cmds : ∀ c ∈ t.cs, CmdOk t.rs c

theorem blocks_live {o r : Req} (h : o.blocks r = true) : o.live = true := by
  simp [Req.blocks] at h; simp [Req.live]; exact h.2.2.2
theorem blocks_eq {o r o' r' : Req} (h1 : o'.num = o.num) (h2 : o'.page = o.page) (h3 : o'.write = o.write) (h4 : r'.num = r.num) (h5 : r'.page = r.page) (h6 : r'.write = r.write) (hl : o'.live = true → o.live = true) (h : o.blocks r = false) : o'.blocks r' = false := by
  cases hb : o'.blocks r' with
  | false => rfl
  | true =>
    have hl' := hl (blocks_live hb)
    have : o.blocks r = true := by
      simp [Req.blocks, h1, h2, h3, h4, h5, h6] at hb
      simp [Req.live] at hl'
      simp [Req.blocks, hb, hl']
    rw [this] at h; exact h
theorem rnum_inj {rs : List Req} (h : rs.Pairwise (·.num < ·.num)) {a b : Req} (ha : a ∈ rs) (hb : b ∈ rs) (he : a.num = b.num) : a = b := by
  induction rs with
  | nil => cases ha
  | cons x l ih =>
    rw [List.pairwise_cons] at h
    rcases List.mem_cons.1 ha with e | ha' <;> rcases List.mem_cons.1 hb with e' | hb'
    · rw [e, e']
    · have := h.1 b hb'; rw [e] at he; omega
    · have := h.1 a ha'; rw [e'] at he; omega
    · exact ih h.2 ha' hb'
theorem find_num {rs : List Req} (h : rs.Pairwise (·.num < ·.num)) {r : Req} (hr : r ∈ rs) : (rs.find? fun x => x.num == r.num) = some r := by
  cases hf : rs.find? fun x => x.num == r.num with
  | none => exact absurd (List.find?_eq_none.1 hf r hr) (by simp)
  | some x =>
    have h1 := List.find?_some hf
    have h2 := List.mem_of_find?_eq_some hf
    simp at h1
    rw [rnum_inj h h2 hr h1]
/-- Requests that are turned one by one. -/
theorem RsOk.map {last : Int} {rs : List Req} {air air' : List Int} (h : RsOk last rs air) (f : Req → Req) (hn : ∀ r, (f r).num = r.num) (hp : ∀ r, (f r).page = r.page) (hw : ∀ r, (f r).write = r.write)
    (hok : ∀ r ∈ rs, ROk (f r)) (hl : ∀ r ∈ rs, (f r).live = true → r.live = true) (hnd : air'.Nodup) (hfly : ∀ n ∈ air', ∃ r ∈ rs, r.num = n ∧ (f r).inAir = true) (hairs : ∀ r ∈ rs, (f r).inAir = true → r.num ∈ air')
    (hfree : ∀ r ∈ rs, (f r).inAir = true → r.inAir = true ∨ ∀ o ∈ rs, o.blocks r = false) : RsOk last (rs.map f) air' := by
  refine ⟨List.pairwise_map.2 (h.nums.imp fun {a b} hab => by rw [hn, hn]; exact hab), fun r hr => ?_, fun r hr => ?_, hnd, fun n hn' => ?_, fun r hr ha => ?_, fun r hr ha o ho => ?_⟩
  · obtain ⟨x, hx, rfl⟩ := List.mem_map.1 hr
    rw [hn]; exact h.num x hx
  · obtain ⟨x, hx, rfl⟩ := List.mem_map.1 hr
    exact hok x hx
  · obtain ⟨r, hr, h1, h2⟩ := hfly n hn'
    exact ⟨f r, List.mem_map_of_mem hr, by rw [hn]; exact h1, h2⟩
  · obtain ⟨x, hx, rfl⟩ := List.mem_map.1 hr
    rw [hn]; exact hairs x hx ha
  · obtain ⟨x, hx, rfl⟩ := List.mem_map.1 hr
    obtain ⟨y, hy, rfl⟩ := List.mem_map.1 ho
    refine blocks_eq (hn y) (hp y) (hw y) (hn x) (hp x) (hw x) (hl y hy) ?_
    rcases hfree x hx ha with h1 | h1
    · exact h.free x hx h1 y hy
    · exact h1 y hy
/-- Requests that are not under way are dropped. -/
theorem RsOk.filter {last : Int} {rs : List Req} {air : List Int} (h : RsOk last rs air) (p : Req → Bool) (hp : ∀ r ∈ rs, r.inAir = true → p r = true) : RsOk last (rs.filter p) air :=
  ⟨h.nums.filter _, fun r hr => h.num r (List.mem_filter.1 hr).1, fun r hr => h.ok r (List.mem_filter.1 hr).1, h.nodup, fun n hn => by
    obtain ⟨r, hr, h1, h2⟩ := h.fly n hn
    exact ⟨r, List.mem_filter.2 ⟨hr, hp r hr h2⟩, h1, h2⟩, fun r hr => h.airs r (List.mem_filter.1 hr).1, fun r hr ha o ho => h.free r (List.mem_filter.1 hr).1 ha o (List.mem_filter.1 ho).1⟩
theorem RsOk.add {last : Int} {rs : List Req} {air : List Int} (h : RsOk last rs air) (hl : 0 ≤ last) (w : Bool) (p : Int) (hp : 0 ≤ p ∧ p < 16) (d : B4) (hd : BOk d) : RsOk (last + 1) (rs ++ [newReq (last + 1) w p d]) air := by
  refine ⟨?_, fun r hr => ?_, fun r hr => ?_, h.nodup, fun n hn => ?_, fun r hr ha => ?_, fun r hr ha o ho => ?_⟩
  · rw [List.pairwise_append]
    refine ⟨h.nums, by simp, fun a ha b hb => ?_⟩
    have := h.num a ha
    rw [List.mem_singleton.1 hb]; show a.num < last + 1; omega
  · rcases List.mem_append.1 hr with hr | hr
    · have := h.num r hr; omega
    · rw [List.mem_singleton.1 hr]; show 1 ≤ last + 1 ∧ last + 1 ≤ last + 1; omega
  · rcases List.mem_append.1 hr with hr | hr
    · exact h.ok r hr
    · rw [List.mem_singleton.1 hr]
      exact ⟨hp, by simp [newReq], by simp [newReq], by simp [newReq], by simp [newReq], by simp [newReq], by simp [newReq], hd⟩
  · obtain ⟨r, hr, h1, h2⟩ := h.fly n hn
    exact ⟨r, List.mem_append_left _ hr, h1, h2⟩
  · rcases List.mem_append.1 hr with hr | hr
    · exact h.airs r hr ha
    · rw [List.mem_singleton.1 hr] at ha; simp [newReq] at ha
  · rcases List.mem_append.1 hr with hr | hr
    · rcases List.mem_append.1 ho with ho | ho
      · exact h.free r hr ha o ho
      · rw [List.mem_singleton.1 ho]
        have := h.num r hr
        have h2 : ¬ (last + 1 < r.num) := by omega
        simp [Req.blocks, newReq, h2]
    · rw [List.mem_singleton.1 hr] at ha; simp [newReq] at ha

/-! ### the calls -/
theorem ok_new {d : Nat} (h : 1 ≤ d ∧ d ≤ 4) : (St.new d).Ok :=
  ⟨⟨h, by simp [St.new], by simp [St.new], fun b hb => by simp [St.new] at hb; omega, by simp [St.new], by simp [St.new], ⟨by simp [St.new], by simp [St.new], by simp [St.new], by simp [St.new], by simp [St.new], by simp [St.new], by simp [St.new]⟩, by simp [St.new], by simp [St.new]⟩, by simp [St.new], by simp [St.new]⟩
theorem CmdOk.mono {rs rs' : List Req} {c : Cmd} (h : CmdOk rs c) (hr : ∀ r ∈ rs, r.num ∈ c.nums → ∃ r' ∈ rs', r'.num = r.num ∧ r'.write = r.write ∧ r'.page = r.page) : CmdOk rs' c := by
  refine ⟨h.count, h.page, h.len, h.wlen, fun n hn => ?_, fun p h1 h2 => ?_⟩
  · obtain ⟨r, hm, e1, e2, e3, e4⟩ := h.ins n hn
    obtain ⟨r', hm', f1, f2, f3⟩ := hr r hm (e1 ▸ hn)
    exact ⟨r', hm', by omega, f2.trans e2, by omega, by omega⟩
  · obtain ⟨r, hm, e1, e2⟩ := h.all p h1 h2
    obtain ⟨r', hm', f1, f2, f3⟩ := hr r hm e1
    exact ⟨r', hm', f1 ▸ e1, by omega⟩
theorem CmdOk.air {t : St} (h : t.Ok) {c : Cmd} (hc : c ∈ t.cs) {n : Int} (hn : n ∈ c.nums) : ∃ r ∈ t.rs, r.num = n ∧ r.inAir = true :=
  h.a.rs.fly n (List.mem_flatMap.2 ⟨c, hc, hn⟩)
theorem ok_add {t : St} (h : t.Ok) (hh : t.held < 40) (w : Bool) (p : Int) (hp : 0 ≤ p ∧ p < 16) (d : B4) (hd : BOk d) : (t.add w p d).Ok := by
  refine ⟨⟨h.a.depth, h.a.head, h.a.dlen, h.a.dbyte, ?_, h.a.now, h.a.rs.add h.a.last w p hp d hd, ?_, ?_⟩, h.len, fun c hc => (h.cmds c hc).mono fun r hr _ => ⟨r, List.mem_append_left _ hr, rfl, rfl, rfl⟩⟩
  · have := h.a.last; simp only [St.add]; omega
  · have := h.a.held
    simp only [St.add, List.filter_append, List.length_append]
    simp [newReq]; omega
  · simp only [St.add]; omega
theorem ok_tick {t : St} (h : t.Ok) : t.tick.Ok :=
  ⟨⟨h.a.depth, h.a.head, h.a.dlen, h.a.dbyte, h.a.last, by have := h.a.now; simp only [St.tick]; omega, h.a.rs, h.a.held, h.a.h40⟩, h.len, h.cmds⟩
theorem find_some {t : St} {n : Int} {r : Req} (h : t.find n = some r) : r ∈ t.rs ∧ r.num = n ∧ r.told = false := by
  have h1 := List.find?_some h
  have h2 := List.mem_of_find?_eq_some h
  simp at h1
  exact ⟨h2, h1.1, h1.2⟩
theorem filter_len_map {rs : List Req} (f : Req → Req) (p : Req → Bool) (hp : ∀ r ∈ rs, p (f r) = p r) : ((rs.map f).filter p).length = (rs.filter p).length := by
  rw [List.filter_map, List.length_map]
  congr 1
  exact List.filter_congr fun r hr => hp r hr
theorem ok_give {t : St} (h : t.Ok) {n : Int} {r : Req} (hf : t.find n = some r) : (t.give n).Ok := by
  obtain ⟨hr, hn, ht⟩ := find_some hf
  have key : ∀ x ∈ t.rs, x.num = n → x = r := fun x hx hxn => rnum_inj h.a.rs.nums hx hr (by omega)
  have hair : ∀ x : Req, (if x.num = n then St.giveR x else x).inAir = x.inAir := fun x => by split <;> rfl
  refine ⟨⟨h.a.depth, h.a.head, h.a.dlen, h.a.dbyte, h.a.last, h.a.now, h.a.rs.map _ (fun x => by split <;> rfl) (fun x => by split <;> rfl) (fun x => by split <;> rfl) (fun x hx => ?_) (fun x hx => ?_) h.a.rs.nodup (fun m hm => ?_) (fun x hx ha => ?_) (fun x hx ha => ?_), ?_, h.a.h40⟩, h.len, fun c hc => (h.cmds c hc).mono fun x hx _ => ⟨_, List.mem_map_of_mem hx, ?_⟩⟩
  · have ho := h.a.rs.ok x hx
    split
    · rename_i hxn
      have hxr := key x hx hxn
      exact ⟨ho.page, by simp [St.giveR], ho.tries, fun hl => ho.try3 (by simp [Req.live, St.giveR] at hl; simp [Req.live, hl]), fun _ => .inr rfl, by simp [St.giveR], fun h => by rw [hxr] at h; simp [St.giveR, ht] at h, ho.byte⟩
    · exact ho
  · split
    · intro hl
      simp [Req.live, St.giveR] at hl
      simp [Req.live, hl]
    · exact id
  · obtain ⟨x, hx, h1, h2⟩ := h.a.rs.fly m hm
    exact ⟨x, hx, h1, by rw [hair]; exact h2⟩
  · rw [hair] at ha; exact h.a.rs.airs x hx ha
  · rw [hair] at ha; exact .inl ha
  · show t.held = _
    rw [h.a.held]
    simp only [St.give]
    rw [filter_len_map]
    intro x _
    split <;> rfl
  · refine ⟨?_, ?_, ?_⟩ <;> (split <;> rfl)
theorem filter_split {rs : List Req} (h : rs.Pairwise (·.num < ·.num)) {r : Req} (hr : r ∈ rs) : ∃ l1 l2, rs = l1 ++ r :: l2 ∧ (∀ x ∈ l1, x.num ≠ r.num) ∧ (∀ x ∈ l2, x.num ≠ r.num) := by
  obtain ⟨l1, l2, rfl⟩ := List.append_of_mem hr
  rw [List.pairwise_append, List.pairwise_cons] at h
  exact ⟨l1, l2, rfl, fun x hx => by have := h.2.2 x hx r (by simp); omega, fun x hx => by have := h.2.1.1 x hx; omega⟩
theorem map_split {l1 l2 : List Req} {r : Req} (f : Req → Req) (h1 : ∀ x ∈ l1, x.num ≠ r.num) (h2 : ∀ x ∈ l2, x.num ≠ r.num) : ((l1 ++ r :: l2).map fun x => if x.num = r.num then f x else x) = l1 ++ f r :: l2 := by
  have g : ∀ l : List Req, (∀ x ∈ l, x.num ≠ r.num) → (l.map fun x => if x.num = r.num then f x else x) = l := fun l hl => by
    conv => rhs; rw [← List.map_id l]
    exact List.map_congr_left fun x hx => if_neg (hl x hx)
  rw [List.map_append, List.map_cons, g l1 h1, g l2 h2, if_pos rfl]
theorem drop_split {l1 l2 : List Req} {r : Req} (hn : ∀ x ∈ l1, x.num ≠ r.num) (hn2 : ∀ x ∈ l2, x.num ≠ r.num) (y : Req) (hy : y.num = r.num) : ((l1 ++ y :: l2).filter fun x => !(x.num == r.num && (x.told && !x.inAir))) = if y.told && !y.inAir then l1 ++ l2 else l1 ++ y :: l2 := by
  have g : ∀ l : List Req, (∀ x ∈ l, x.num ≠ r.num) → (l.filter fun x => !(x.num == r.num && (x.told && !x.inAir))) = l := fun l hl => List.filter_eq_self.2 fun x hx => by simp [hl x hx]
  rw [List.filter_append, g l1 hn]
  cases hc : y.told && !y.inAir with
  | true => rw [List.filter_cons_of_neg (by simp [hy, hc]), g l2 hn2]; rfl
  | false => rw [List.filter_cons_of_pos (by simp [hy, hc]), g l2 hn2]; rfl
theorem ok_tell {t : St} (h : t.Ok) {n : Int} {r : Req} (hf : t.find n = some r) (hs : 2 ≤ r.state) : (t.tell n).Ok := by
  obtain ⟨hr, hn, ht⟩ := find_some hf
  have key : ∀ x ∈ t.rs, x.num = n → x = r := fun x hx hxn => rnum_inj h.a.rs.nums hx hr (by omega)
  have hair : ∀ x : Req, (if x.num = n then tellR x else x).inAir = x.inAir := fun x => by split <;> rfl
  -- dropped first, then marked: the same list
  have hro := h.a.rs.ok r hr
  have hcm : ∀ c ∈ t.cs, CmdOk (St.tellRs t.rs n) c := fun c hc => (h.cmds c hc).mono fun x hx hxc => by
    obtain ⟨y, hy, hyn, hya⟩ := CmdOk.air h hc hxc
    have hxy := rnum_inj h.a.rs.nums hy hx hyn
    refine ⟨if x.num = n then tellR x else x, List.mem_filter.2 ⟨List.mem_map_of_mem hx, ?_⟩, ?_⟩
    · have := hair x
      rw [this, ← hxy, hya]; simp
    · refine ⟨?_, ?_, ?_⟩ <;> (split <;> rfl)
  have hheld : t.held - 1 = (((St.tellRs t.rs n).filter fun r => !r.told).length : Int) := by
    rw [h.a.held]
    obtain ⟨l1, l2, e, h1, h2⟩ := filter_split h.a.rs.nums hr
    unfold St.tellRs
    subst hn
    rw [e, map_split tellR h1 h2, drop_split h1 h2 (tellR r) rfl]
    have ha : (tellR r).told = true := rfl
    rw [List.filter_append, List.filter_cons_of_pos (by simp [ht])]
    split
    · simp [List.filter_append]; omega
    · rw [List.filter_append, List.filter_cons_of_neg (by simp [ha])]; simp; omega
  refine ⟨⟨h.a.depth, h.a.head, h.a.dlen, h.a.dbyte, h.a.last, h.a.now, ?_, hheld, by have := h.a.h40; simp only [St.tell]; omega⟩, h.len, hcm⟩
  show RsOk t.last (St.tellRs t.rs n) _
  by_cases ha : r.inAir = true
  · have hst : r.state = 4 := by rcases hro.air ha with h1 | h1 <;> omega
    refine RsOk.filter (h.a.rs.map _ (fun x => by split <;> rfl) (fun x => by split <;> rfl) (fun x => by split <;> rfl) (fun x hx => ?_) (fun x hx => ?_) h.a.rs.nodup (fun m hm => ?_) (fun x hx ha => ?_) (fun x hx ha => ?_)) _ ?_
    · have ho := h.a.rs.ok x hx
      split
      · rename_i hxn
        have hxr := key x hx hxn
        subst hxr
        exact ⟨ho.page, ho.st, ho.tries, ho.try3, ho.air, ho.uair, fun _ => ⟨hst, ha⟩, ho.byte⟩
      · exact ho
    · split <;> exact id
    · obtain ⟨x, hx, h1, h2⟩ := h.a.rs.fly m hm
      exact ⟨x, hx, h1, by rw [hair]; exact h2⟩
    · rw [hair] at ha; exact h.a.rs.airs x hx ha
    · rw [hair] at ha; exact .inl ha
    · intro x _ hxa
      simp [hxa]
  · have ha' : r.inAir = false := by simpa using ha
    have he : St.tellRs t.rs n = t.rs.filter fun x => x.num != n := by
      obtain ⟨l1, l2, e, h1, h2⟩ := filter_split h.a.rs.nums hr
      unfold St.tellRs
      subst hn
      have g : ∀ l : List Req, (∀ x ∈ l, x.num ≠ r.num) → (l.filter fun x => x.num != r.num) = l := fun l hl => List.filter_eq_self.2 fun x hx => by simpa using hl x hx
      rw [e, map_split tellR h1 h2, drop_split h1 h2 (tellR r) rfl, List.filter_append, g l1 h1, List.filter_cons_of_neg (by simp), g l2 h2]
      simp [tellR, ha']
    rw [he]
    refine h.a.rs.filter _ fun x hx hxa => ?_
    simp only [bne_iff_ne, ne_eq]
    intro hxn
    have := key x hx hxn
    subst this
    exact ha hxa
end Go.Proofs.YticobikhndlejaaGreatDoor
