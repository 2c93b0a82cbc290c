/- THE PROGRAM IN PLAIN LEAN: requests, the table's entries, which are ready, which command is the next. No program in sight. -/
import Derived.Test.YticobikhndlejaaDoorBase
namespace Go.Proofs.YticobikhndlejaaDoor

structure B4 where
  (a b c d : Int)
  deriving DecidableEq
/-- A request as it lies in memory. -/
structure Req where
  num : Int
  write : Bool
  page : Int
  data : B4
  state : Int
  tries : Int
  after : Int
  alone : Bool
  inAir : Bool
  told : Bool
  deriving DecidableEq
/-- An entry of the table: the request, its block, when it was laid into the map. -/
structure Ent where
  r : Req
  p : Nat
  born : Nat

def reqCells (r : Req) : Array Value :=
  #[.int .i64 r.num, .bool r.write, .int .i64 r.page, .int .u8 r.data.a, .int .u8 r.data.b, .int .u8 r.data.c, .int .u8 r.data.d, .int .i64 r.state, .int .i64 r.tries, .int .i64 r.after, .bool r.alone, .bool r.inAir, .bool r.told]
/-- o is in r's way. -/
def Req.blocks (o r : Req) : Bool := decide (o.num < r.num) && ((o.page == r.page) && ((o.write || r.write) && ((o.state == 0) || o.inAir)))
/-- The order: by pages, those of one page by their numbers. -/
def Req.cmp (r o : Req) : Int := if r.page ≠ o.page then r.page - o.page else r.num - o.num
/-- The order of the table's entries. -/
def entLt (x y : Ent) : Prop := x.r.page < y.r.page ∨ (x.r.page = y.r.page ∧ x.r.num < y.r.num)
/-- The entries by pages, those of one page as they lie in l. -/
def byPage (l : List Ent) : List Ent := (List.range 16).flatMap fun p : Nat => l.filter fun e => e.r.page == (p : Int)
/-- What is asked of the table's entries. -/
structure EntsOk (es : List Ent) : Prop where
  page : ∀ e ∈ es, 0 ≤ e.r.page ∧ e.r.page < 16
  num : ∀ e ∈ es, 0 ≤ e.r.num ∧ e.r.num ≤ 2 ^ 60
  nums : es.Pairwise fun x y => x.r.num < y.r.num
theorem EntsOk.nodup {es : List Ent} (h : EntsOk es) : (es.map (·.r.num)).Nodup := List.pairwise_map.2 (h.nums.imp fun hlt heq => by omega)
theorem perm_filter_parts (l : List Ent) (q : Ent → Bool) : l.Perm (l.filter q ++ l.filter (fun e => !q e)) := (List.filter_append_perm q l).symm
theorem byPage_aux (l : List Ent) : ∀ n : Nat, ((List.range n).flatMap fun p : Nat => l.filter fun e => e.r.page == (p : Int)).Perm (l.filter fun e => decide (0 ≤ e.r.page ∧ e.r.page < (n : Int)))
  | 0 => by
    have : (l.filter fun e => decide (0 ≤ e.r.page ∧ e.r.page < ((0 : Nat) : Int))) = [] := List.filter_eq_nil_iff.2 fun e _ => by simp
    rw [this]; simp
  | n + 1 => by
    rw [List.range_succ, List.flatMap_append]
    simp only [List.flatMap_cons, List.flatMap_nil, List.append_nil]
    refine ((byPage_aux l n).append_right _).trans ?_
    have h1 := perm_filter_parts (l.filter fun e => decide (0 ≤ e.r.page ∧ e.r.page < ((n + 1 : Nat) : Int))) (fun e => decide (e.r.page < (n : Int)))
    refine List.Perm.trans ?_ h1.symm
    rw [List.filter_filter, List.filter_filter]
    refine List.Perm.of_eq ?_
    congr 1
    · refine List.filter_congr fun e _ => ?_
      rw [Bool.eq_iff_iff]; simp; omega
    · refine List.filter_congr fun e _ => ?_
      rw [Bool.eq_iff_iff]; simp; omega
theorem byPage_perm {es : List Ent} (h : EntsOk es) : (byPage es).Perm es := by
  refine (byPage_aux es 16).trans (List.Perm.of_eq (List.filter_eq_self.2 fun e he => ?_))
  have := h.page e he
  simp; omega
theorem byPage_sorted {es : List Ent} (h : EntsOk es) : (byPage es).Pairwise entLt := by
  unfold byPage
  refine List.pairwise_flatMap.2 ⟨fun p _ => ?_, ?_⟩
  · have h1 : (es.filter fun e => e.r.page == (p : Int)).Pairwise fun x y => x.r.num < y.r.num := h.nums.filter _
    refine h1.imp_of_mem fun {a b} ha hb hlt => .inr ⟨?_, hlt⟩
    have h2 := (List.mem_filter.1 ha).2
    have h3 := (List.mem_filter.1 hb).2
    simp at h2 h3; omega
  · refine (List.pairwise_lt_range (n := 16)).imp fun {p q} hpq x hx y hy => .inl ?_
    have h2 := (List.mem_filter.1 hx).2
    have h3 := (List.mem_filter.1 hy).2
    simp at h2 h3; omega
theorem entLt_irrefl (x : Ent) : ¬ entLt x x := by unfold entLt; omega
/-- One list is sorted so. -/
theorem sorted_unique {l m : List Ent} (hp : l.Perm m) (hl : l.Pairwise entLt) (hm : m.Pairwise entLt) : l = m :=
  List.Perm.eq_of_pairwise (le := entLt) (fun a b _ _ h1 h2 => by unfold entLt at h1 h2; omega) hl hm hp
/-- Is it ready? -/
def isReady (now : Int) (es : List Ent) (e : Ent) : Bool := (e.r.state == 0) && (decide (e.r.after ≤ now) && !(es.any fun o => o.r.blocks e.r))
def readyE (now : Int) (es : List Ent) : List Ent := (byPage es).filter (isReady now es)
theorem any_byPage {es : List Ent} (h : EntsOk es) (f : Ent → Bool) : (byPage es).any f = es.any f := by
  rw [Bool.eq_iff_iff]; simp [(byPage_perm h).mem_iff]
end Go.Proofs.YticobikhndlejaaDoor
