/- Part 15 of the proof (see the last part). -/
import Derived.Test.YticobikhndlejaaGreatDoorAlN
namespace Go.Proofs.YticobikhndlejaaGreatDoor
section
open Go.RowKit Go.Shelf Go.Lib
theorem zErr_alloc(w:World):(w.alloc zErr).heap[w.heap.size]?=some zErr:=World.alloc_heap_new w _
theorem chg_two{F S T:Nat->Prop}{w w1 w':World}{o:Obj}(h1:Chg F (w.alloc o) w1)(h2:Chg S w1 w')(hF:∀ k,F k->T k)(hS:∀ k,S k->T k\/w.heap.size<=k):Chg T w w':=
 (((Chg.refl T w).alloc o).then (h1.mono fun k _ hk=>hF k hk)).trans (h2.mono fun k _ hk=>hS k hk)
section
variable {q:Nat} {t:St} {F:Nat->Prop} {w:World}
theorem QT.alloc(h:QT w q t F)(o:Obj):QT (w.alloc o) q t fun k=>F k/\k<w.heap.size:=h.lt.below ((Below.refl _ _).alloc (Nat.le_refl _) _)
theorem new_p(d:Nat)(w:World)(hg:ErrVar w)(hd:1<=d/\d<=4):Calls Tryx.prog 32 #[.int .i64 d] w fun x w'=>∃ q,x=.returned (.tuple #[ptr q,plErr 0 (-1) 0])/\QT w' q (St.new d) (fun k=>w.heap.size<k)/\Below w.heap.size w w':=by
 refine (plNew_of d 0 (-1) 0 w (fun X err w'=>∃ q,X=ptr q/\err=.nilIface/\QT w' q (St.new d) (fun k=>w.heap.size<k)/\Below (w.heap.size+1) (w.alloc zErr) w') ?_ ?_).mono ?_
 ·refine (new_c d _ hd).mono fun x w' ⟨q,h1,h2,h3,h4⟩=>⟨ptr q,.nilIface,h1,q,rfl,rfl,h2.mono fun k hk=>by simp at hk;omega,by simpa using h4⟩
 ·rintro X err w' ⟨q,rfl,rfl,h1,h2⟩
  have hz:=zErr_alloc w
  exact⟨(hg.alloc _).chg (chgB (by simpa using h2) fun _=>False) fun x=>x,.nil,(h2.block _ (by simp)).trans hz⟩
 ·rintro x w' ⟨X,err,w1,rfl,⟨q,rfl,rfl,h1,h2⟩,hc⟩
  refine⟨q,rfl,h1.kept hc fun k hk e=>by omega,?_⟩
  exact Chg.below (chg_two (F:=fun _=>False) (chgB (by simpa using h2) _) hc (fun _ x=>x) fun k hk=>.inr (by omega))
theorem new_bad_p(d:Int)(w:World)(hg:ErrVar w)(hd:d<1\/4<d):Calls Tryx.prog 32 #[.int .i64 d] w fun x w'=>x=.returned (.tuple #[.pointer none,plErr 1 (-1) 0])/\Below w.heap.size w w':=by
 refine (plNew_of d 1 (-1) 0 w (fun X err w'=>X=.pointer none/\err=errK 1/\w'=w.alloc zErr) ?_ ?_).mono ?_
 ·refine (new_no d _ hd).mono fun x w' ⟨h1,h2⟩=>⟨_,_,h1,rfl,rfl,h2⟩
 ·rintro X err w' ⟨rfl,rfl,rfl⟩
  exact⟨hg.alloc _,.kind 1 (by omega),zErr_alloc w⟩
 ·rintro x w' ⟨X,err,w1,rfl,⟨rfl,rfl,rfl⟩,hc⟩
  exact⟨rfl,Chg.below (((Chg.refl (fun _=>False) w).alloc _).trans (hc.mono fun k _ hk=>.inr (by omega)))⟩
theorem read_p(h:QT w q t F)(hk:t.Ok)(hs:t.Small)(hg:ErrVar w)(hF:¬F 0)(hh:t.held<40)(page:Int)(hp:0<=page/\page<16):
  Calls Tryx.prog 25 #[ptr q,.int .i64 page] w fun x w'=>x=.returned (.tuple #[.int .i64 (t.last+1),plErr 0 (-1) 0])/\QT w' q (t.add false page ⟨0,0,0,0⟩) (fun k=>F k\/w.heap.size<k)/\Chg F w w':=by
 refine (plRead_of q page 0 (-1) 0 w (fun X err w'=>X=.int .i64 (t.last+1)/\err=.nilIface/\QT w' q (t.add false page ⟨0,0,0,0⟩) (fun k=>(F k/\k<w.heap.size)\/(w.alloc zErr).heap.size<=k)/\Chg (fun k=>F k/\k<w.heap.size) (w.alloc zErr) w') ?_ ?_).mono ?_
 ·exact (read_c (h.alloc zErr) hk hs hh page hp).mono fun x w' ⟨h1,h2,h3⟩=>⟨_,_,h1,rfl,rfl,h2,h3⟩
 ·rintro X err w' ⟨rfl,rfl,h1,h2⟩
  exact⟨(hg.alloc _).chg h2 fun x=>hF x.1,.nil,(h2.block _ (by simp) (by omega)).trans (zErr_alloc w)⟩
 ·rintro x w' ⟨X,err,w1,rfl,⟨rfl,rfl,h1,h2⟩,hc⟩
  refine⟨rfl,(h1.kept hc fun k hk e=>?_).mono fun k hk=>?_,chg_two h2 hc (fun k x=>x.1) fun k hk=>.inr (by omega)⟩
  ·simp at hk;omega
  ·simp at hk;exact hk.imp (fun x=>x.1) (fun x=>by omega)
theorem read_full_p(h:QT w q t F)(hg:ErrVar w)(hh:40<=t.held)(page:Int)(hp:0<=page/\page<16):
  Calls Tryx.prog 25 #[ptr q,.int .i64 page] w fun x w'=>x=.returned (.tuple #[.int .i64 0,plErr 4 (-1) 0])/\Below w.heap.size w w':=by
 refine (plRead_of q page 4 (-1) 0 w (fun X err w'=>X=.int .i64 0/\err=errK 4/\w'=w.alloc zErr) ?_ ?_).mono ?_
 ·exact (read_full_c (h.alloc zErr) hh page hp).mono fun x w' ⟨h1,h2⟩=>⟨_,_,h1,rfl,rfl,h2⟩
 ·rintro X err w' ⟨rfl,rfl,rfl⟩
  exact⟨hg.alloc _,.kind 4 (by omega),zErr_alloc w⟩
 ·rintro x w' ⟨X,err,w1,rfl,⟨rfl,rfl,rfl⟩,hc⟩
  exact⟨rfl,Chg.below (((Chg.refl (fun _=>False) w).alloc _).trans (hc.mono fun k _ hk=>.inr (by omega)))⟩
theorem DatV.below{w W:World}{v:Value}{d:B4}(h:DatV w v d)(hb:Below w.heap.size w W):DatV W v d:=h.kept (chgB hb fun _=>False) fun _ x=>x.elim
theorem write_p(h:QT w q t F)(hk:t.Ok)(hs:t.Small)(hg:ErrVar w)(hF:¬F 0)(hh:t.held<40)(page:Int)(hp:0<=page/\page<16)(d:B4)(cap:Nat)(a:Option Addr)(hd:DatV w (.slice a 4 cap) d):
  Calls Tryx.prog 33 #[ptr q,.int .i64 page,.slice a 4 cap] w fun x w'=>x=.returned (.tuple #[.int .i64 (t.last+1),plErr 0 (-1) 0])/\QT w' q (t.add true page d) (fun k=>F k\/w.heap.size<k)/\Chg F w w':=by
 refine (plWrite_of q (.slice a 4 cap) page 0 (-1) 0 w (fun X err w'=>X=.int .i64 (t.last+1)/\err=.nilIface/\QT w' q (t.add true page d) (fun k=>(F k/\k<w.heap.size)\/(w.alloc zErr).heap.size<=k)/\Chg (fun k=>F k/\k<w.heap.size) (w.alloc zErr) w') ?_ ?_).mono ?_
 ·exact (write_c (h.alloc zErr) hk hs hh page hp _ d cap a rfl (hd.below ((Below.refl _ _).alloc (Nat.le_refl _) _))).mono fun x w' ⟨h1,h2,h3⟩=>⟨_,_,h1,rfl,rfl,h2,h3⟩
 ·rintro X err w' ⟨rfl,rfl,h1,h2⟩
  exact⟨(hg.alloc _).chg h2 fun x=>hF x.1,.nil,(h2.block _ (by simp) (by omega)).trans (zErr_alloc w)⟩
 ·rintro x w' ⟨X,err,w1,rfl,⟨rfl,rfl,h1,h2⟩,hc⟩
  refine⟨rfl,(h1.kept hc fun k hk e=>?_).mono fun k hk=>?_,chg_two h2 hc (fun k x=>x.1) fun k hk=>.inr (by omega)⟩
  ·simp at hk;omega
  ·simp at hk;exact hk.imp (fun x=>x.1) (fun x=>by omega)
theorem write_full_p(h:QT w q t F)(hg:ErrVar w)(hh:40<=t.held)(page:Int)(hp:0<=page/\page<16)(cap:Nat)(a:Option Addr):
  Calls Tryx.prog 33 #[ptr q,.int .i64 page,.slice a 4 cap] w fun x w'=>x=.returned (.tuple #[.int .i64 0,plErr 4 (-1) 0])/\Below w.heap.size w w':=by
 refine (plWrite_of q (.slice a 4 cap) page 4 (-1) 0 w (fun X err w'=>X=.int .i64 0/\err=errK 4/\w'=w.alloc zErr) ?_ ?_).mono ?_
 ·exact (write_full_c (h.alloc zErr) hh page hp cap a).mono fun x w' ⟨h1,h2⟩=>⟨_,_,h1,rfl,rfl,h2⟩
 ·rintro X err w' ⟨rfl,rfl,rfl⟩
  exact⟨hg.alloc _,.kind 4 (by omega),zErr_alloc w⟩
 ·rintro x w' ⟨X,err,w1,rfl,⟨rfl,rfl,rfl⟩,hc⟩
  exact⟨rfl,Chg.below (((Chg.refl (fun _=>False) w).alloc _).trans (hc.mono fun k _ hk=>.inr (by omega)))⟩
theorem complete_no_p(h:QT w q t F)(hg:ErrVar w)(k:Int)(fault:Bool)(hk:k<0\/(t.cs.length:Int)<=k):
  Calls Tryx.prog 19 #[ptr q,.int .i64 k,.bool fault] w fun x w'=>x=.returned (plErr 10 (-1) 0)/\Below w.heap.size w w':=by
 refine (plComplete_of q fault k 10 (-1) 0 w (fun err w'=>err=errK 10/\Below (w.alloc zErr).heap.size (w.alloc zErr) w') ?_ ?_).mono ?_
 ·exact (complete_no_c (h.alloc zErr) k fault hk).mono fun x w' ⟨h1,h2⟩=>⟨_,h1,rfl,h2⟩
 ·rintro err w' ⟨rfl,h2⟩
  exact⟨(hg.alloc _).chg (chgB h2 fun _=>False) fun x=>x,.kind 10 (by omega),(h2.block _ (by simp)).trans (zErr_alloc w)⟩
 ·rintro x w' ⟨err,w1,rfl,⟨rfl,h2⟩,hc⟩
  exact⟨rfl,Chg.below (chg_two (F:=fun _=>False) (chgB h2 _) hc (fun _ x=>x) fun k hk=>.inr (by omega))⟩
theorem complete_p(h:QT w q t F)(hk:t.Ok)(hs:t.Small)(hg:ErrVar w)(hF:¬F 0)(k:Nat)(fault:Bool)(t':St)(hc:t.complete k fault=some t'):
  Calls Tryx.prog 19 #[ptr q,.int .i64 k,.bool fault] w fun x w'=>x=.returned (plErr 0 (-1) 0)/\QT w' q t' F/\Chg F w w':=by
 refine (plComplete_of q fault k 0 (-1) 0 w (fun err w'=>err=.nilIface/\QT w' q t' (fun k=>F k/\k<w.heap.size)/\Chg (fun k=>F k/\k<w.heap.size) (w.alloc zErr) w') ?_ ?_).mono ?_
 ·exact (complete_c (h.alloc zErr) hk hs k fault t' hc).mono fun x w' ⟨h1,h2,h3⟩=>⟨_,h1,rfl,h2,h3⟩
 ·rintro err w' ⟨rfl,h1,h2⟩
  exact⟨(hg.alloc _).chg h2 fun x=>hF x.1,.nil,(h2.block _ (by simp) (by omega)).trans (zErr_alloc w)⟩
 ·rintro x w' ⟨err,w1,rfl,⟨rfl,h1,h2⟩,hc⟩
  exact⟨rfl,(h1.kept hc fun k hk e=>by omega).mono fun k hk=>hk.1,chg_two h2 hc (fun k x=>x.1) fun k hk=>.inr (by omega)⟩
end
theorem zz_at(w:World):((w.alloc zAns).alloc zErr).heap[w.heap.size]?=some zAns/\((w.alloc zAns).alloc zErr).heap[w.heap.size+1]?=some zErr/\((w.alloc zAns).alloc zErr).heap.size=w.heap.size+2:=by
 refine⟨(Below.heap_alloc _ _ _ (by simp)).trans (World.alloc_heap_new w _),?_,by simp⟩
 rw[show w.heap.size+1=(w.alloc zAns).heap.size from by simp];exact World.alloc_heap_new _ _
theorem zz_below(w:World):Below w.heap.size w ((w.alloc zAns).alloc zErr):=((Below.refl _ _).alloc (Nat.le_refl _) _).alloc (by simp) _
section
variable {q:Nat} {t:St} {F:Nat->Prop} {w:World}
theorem poll_none_p(h:QT w q t F)(hg:ErrVar w)(n:Int)(hf:t.find n=none):
  Calls Tryx.prog 16 #[ptr q,.int .i64 n] w fun x w'=>x=.returned (.tuple #[noAns,plErr 5 (-1) 0])/\Below w.heap.size w w':=by
 obtain⟨z1,z2,z3⟩:=zz_at w
 have hb:=zz_below w
 have h0:=(h.below hb)
 refine (plPoll_of q n 5 (-1) 0 w (fun v tr err w'=>v=.slice none 0 0/\tr=0/\err=errK 5/\Below ((w.alloc zAns).alloc zErr).heap.size ((w.alloc zAns).alloc zErr) w') ?_ ?_).mono ?_
 ·exact (poll_none_c h0 n hf).mono fun x w' ⟨e1,e2⟩=>⟨none,0,0,0,errK 5,e1,rfl,rfl,rfl,e2⟩
 ·rintro v tr err w' ⟨rfl,rfl,rfl,e2⟩
  exact⟨(hg.chg (chgB hb fun _=>False) fun x=>x).chg (chgB e2 fun _=>False) fun x=>x,.kind 5 (by omega),(e2.block _ (by omega)).trans z1,(e2.block _ (by omega)).trans z2⟩
 ·rintro x w' ⟨v,tr,err,w1,rfl,⟨rfl,rfl,rfl,e2⟩,hs,hc⟩
  exact⟨rfl,Chg.below (((chgB hb fun _=>False).of_below e2).trans (hc.mono fun k _ hk=>.inr (by omega)))⟩
theorem poll_pend_p(h:QT w q t F)(hg:ErrVar w)(n:Int)(r:Req)(hf:t.find n=some r)(hs:r.state=0\/r.state=1):
  Calls Tryx.prog 16 #[ptr q,.int .i64 n] w fun x w'=>x=.returned (.tuple #[noAns,plErr 6 n r.tries])/\Below w.heap.size w w':=by
 obtain⟨z1,z2,z3⟩:=zz_at w
 have hb:=zz_below w
 have h0:=(h.below hb)
 refine (plPoll_of q n 6 n r.tries w (fun v tr err w'=>v=.slice none 0 0/\tr=0/\(∃ b,err=errR b/\ReqErr w' b n r.tries 6)/\Below ((w.alloc zAns).alloc zErr).heap.size ((w.alloc zAns).alloc zErr) w') ?_ ?_).mono ?_
 ·exact (poll_pend_c h0 n r hf hs).mono fun x w' ⟨b,e1,e2,e3,e4⟩=>⟨none,0,0,0,errR b,e1,rfl,rfl,⟨b,rfl,e2⟩,e4⟩
 ·rintro v tr err w' ⟨rfl,rfl,⟨b,rfl,hr⟩,e2⟩
  exact⟨(hg.chg (chgB hb fun _=>False) fun x=>x).chg (chgB e2 fun _=>False) fun x=>x,.req b n r.tries 6 (by omega) hr,(e2.block _ (by omega)).trans z1,(e2.block _ (by omega)).trans z2⟩
 ·rintro x w' ⟨v,tr,err,w1,rfl,⟨rfl,rfl,_,e2⟩,hs,hc⟩
  exact⟨rfl,Chg.below (((chgB hb fun _=>False).of_below e2).trans (hc.mono fun k _ hk=>.inr (by omega)))⟩
theorem QT.zz(h:QT w q t F):QT ((w.alloc zAns).alloc zErr) q t fun k=>F k/\k<w.heap.size:=h.lt.below (zz_below w)
theorem chg_zz{S T:Nat->Prop}{w1 w':World}(h1:Chg (fun k=>F k/\k<w.heap.size) ((w.alloc zAns).alloc zErr) w1)(h2:Chg S w1 w')(hF:∀ k,F k->T k)(hS:∀ k,S k->T k\/w.heap.size<=k):Chg T w w':=
 ((chgB (zz_below w) T).then (h1.mono fun k _ hk=>hF k hk.1)).trans (h2.mono fun k _ hk=>hS k hk)
theorem poll_bad_p(h:QT w q t F)(hk:t.Ok)(hsm:t.Small)(hg:ErrVar w)(hF:¬F 0)(n:Int)(r:Req)(k:Int)(hf:t.find n=some r)(hs:(r.state=3/\k=7)\/(r.state=4/\k=8)):
  Calls Tryx.prog 16 #[ptr q,.int .i64 n] w fun x w'=>x=.returned (.tuple #[noAns,plErr k n r.tries])/\QT w' q (t.tell n) F/\Chg F w w':=by
 obtain⟨z1,z2,z3⟩:=zz_at w
 have hb:=zz_below w
 refine (plPoll_of q n k n r.tries w (fun v tr err w'=>v=.slice none 0 0/\tr=0/\(∃ b,err=errR b/\ReqErr w' b n r.tries k)/\QT w' q (t.tell n) (fun k=>F k/\k<w.heap.size)/\Chg (fun k=>F k/\k<w.heap.size) ((w.alloc zAns).alloc zErr) w') ?_ ?_).mono ?_
 ·exact (poll_bad_c h.zz hk hsm n r k hf hs).mono fun x w' ⟨b,e1,e2,e3,e4,e5⟩=>⟨none,0,0,0,errR b,e1,rfl,rfl,⟨b,rfl,e2⟩,e4,e5⟩
 ·rintro v tr err w' ⟨rfl,rfl,⟨b,rfl,hr⟩,e1,e2⟩
  exact⟨(hg.chg (chgB hb fun _=>False) fun x=>x).chg e2 fun x=>hF x.1,.req b n r.tries k (by rcases hs with ⟨_,h⟩ |⟨_,h⟩ <;> omega) hr,(e2.block _ (by omega) (by omega)).trans z1,(e2.block _ (by omega) (by omega)).trans z2⟩
 ·rintro x w' ⟨v,tr,err,w1,rfl,⟨rfl,rfl,_,e1,e2⟩,hs,hc⟩
  exact⟨rfl,(e1.kept hc fun k hk e=>by omega).mono fun k hk=>hk.1,chg_zz e2 hc (fun k x=>x) fun k hk=>.inr (by omega)⟩
theorem poll_write_p(h:QT w q t F)(hk:t.Ok)(hsm:t.Small)(hg:ErrVar w)(hF:¬F 0)(n:Int)(r:Req)(hf:t.find n=some r)(hs:r.state=2)(hw:r.write=true):
  Calls Tryx.prog 16 #[ptr q,.int .i64 n] w fun x w'=>x=.returned (.tuple #[.agg #[.slice none 0 0,.int .i64 r.tries],plErr 0 (-1) 0])/\QT w' q (t.tell n) F/\Chg F w w':=by
 obtain⟨z1,z2,z3⟩:=zz_at w
 have hb:=zz_below w
 refine (plPoll_of q n 0 (-1) 0 w (fun v tr err w'=>v=.slice none 0 0/\tr=r.tries/\err=.nilIface/\QT w' q (t.tell n) (fun k=>F k/\k<w.heap.size)/\Chg (fun k=>F k/\k<w.heap.size) ((w.alloc zAns).alloc zErr) w') ?_ ?_).mono ?_
 ·exact (poll_write_c h.zz hk hsm n r hf hs hw).mono fun x w' ⟨e1,e4,e5⟩=>⟨none,0,0,r.tries,.nilIface,e1,rfl,rfl,rfl,e4,e5⟩
 ·rintro v tr err w' ⟨rfl,rfl,rfl,e1,e2⟩
  exact⟨(hg.chg (chgB hb fun _=>False) fun x=>x).chg e2 fun x=>hF x.1,.nil,(e2.block _ (by omega) (by omega)).trans z1,(e2.block _ (by omega) (by omega)).trans z2⟩
 ·rintro x w' ⟨v,tr,err,w1,rfl,⟨rfl,rfl,rfl,e1,e2⟩,hs,hc⟩
  exact⟨rfl,(e1.kept hc fun k hk e=>by omega).mono fun k hk=>hk.1,chg_zz e2 hc (fun k x=>x) fun k hk=>.inr (by omega)⟩
theorem poll_read_p(h:QT w q t F)(hk:t.Ok)(hsm:t.Small)(hg:ErrVar w)(hF:¬F 0)(n:Int)(r:Req)(hf:t.find n=some r)(hs:r.state=2)(hw:r.write=false):
  Calls Tryx.prog 16 #[ptr q,.int .i64 n] w fun x w'=>∃ v F',x=.returned (.tuple #[.agg #[v,.int .i64 r.tries],plErr 0 (-1) 0])/\QT w' q (t.tell n) F'/\(∀ k,F' k->F k\/w.heap.size<=k)/\(∀ k,v.ownBlock=some k->¬F' k)/\Chg F w w'/\w'.ownsRow w.heap.size 5 1 v 4 (b4Cells r.data):=by
 obtain⟨z1,z2,z3⟩:=zz_at w
 have hb:=zz_below w
 refine (plPoll_of q n 0 (-1) 0 w (fun v tr err w'=>tr=r.tries/\err=.nilIface/\∃ F',QT w' q (t.tell n) F'/\(∀ k,F' k->(F k/\k<w.heap.size)\/w.heap.size+2<=k)/\(∀ k,v.ownBlock=some k->¬F' k)/\Chg (fun k=>F k/\k<w.heap.size) ((w.alloc zAns).alloc zErr) w'/\w'.ownsRow (w.heap.size+2) 5 1 v 4 (b4Cells r.data)) ?_ ?_).mono ?_
 ·refine (poll_read_c h.zz hk hsm n r hf hs hw).mono ?_
  rintro x w' ⟨v,F',e1,e2,e3,e4,e5,e6⟩
  obtain⟨va,vc,rfl⟩:=own_slice e6
  exact⟨va,4,vc,r.tries,.nilIface,e1,rfl,rfl,F',e2,fun k hk=>by have:=e3 k hk;rw[z3]at this;exact this,e4,e5,by rw[z3]at e6;exact e6⟩
 ·rintro v tr err w' ⟨rfl,rfl,F',e1,e2,e3,e4,e5⟩
  exact⟨(hg.chg (chgB hb fun _=>False) fun x=>x).chg e4 fun x=>hF x.1,.nil,(e4.block _ (by omega) (by omega)).trans z1,(e4.block _ (by omega) (by omega)).trans z2⟩
 ·rintro x w' ⟨v,tr,err,w1,rfl,⟨rfl,rfl,F',e1,e2,e3,e4,e5⟩,hs,hc⟩
  refine⟨v,F',rfl,e1.kept hc fun k hk e=>by have:=e2 k hk;omega,fun k hk=>(e2 k hk).imp (fun x=>x.1) fun x=>by omega,e3,chg_zz e4 hc (fun k x=>x) fun k hk=>.inr (by omega),?_⟩
  exact ownsRow_chg (ownsRow_low e5 (by omega)) hc fun k hk hh=>by have:=(e5.lt k hk).1;omega
end
end
section
open Go.RowKit Go.Shelf Go.Lib
set_option maxRecDepth 100000
theorem cancel_none(q:Nat)(s:Sta)(F:Nat->Prop)(w:World)(n:Int)(h:QAt w q s F)(hf:findE s.es n=none):
  Calls Tryx.prog 35 #[ptr q,.int .i64 n] w fun x w'=>x=.returned (errK 5)/\w'=w:=by
 obtain⟨tb,mb,clock,fv,hq,hF⟩:=h
 have c1:=hq.c1
 have HQ:=Lib.hid hq
 have hfc:=find_any tb mb clock s.last s.held n s.es
 rw[hf]at hfc
 have HC:=Lib.hid hfc
 clear hq hF hfc hf
 go_enter Tryx.func35,Tryz.ntmps35
 go_wp2_with fail
 refine (HC.out w HQ.out.tab).mono ?_
 rintro x w1 ⟨rfl,rfl⟩
 dsimp only
 go_wp2_with fail
 go_ret
 exact⟨rfl,rfl⟩
theorem cancel_done(q:Nat)(s:Sta)(F:Nat->Prop)(w:World)(n:Int)(e:Ent)(h:QAt w q s F)(hf:findE s.es n=some e)(hs:2<=e.r.state):
  Calls Tryx.prog 35 #[ptr q,.int .i64 n] w fun x w'=>∃ b,x=.returned (errR b)/\ReqErr w' b n e.r.tries 9/\w.heap.size<=b/\Below w.heap.size w w':=by
 obtain⟨tb,mb,clock,fv,hq,hF⟩:=h
 obtain⟨hem,hen,het⟩:=findE_some hf
 have c1:=hq.c1
 have hreq:=hq.tab.reqs e hem
 have c7:=hreq.at.c7
 have HQ:=Lib.hid hq
 have hfc:=find_any tb mb clock s.last s.held n s.es
 rw[hf]at hfc
 have HC:=Lib.hid hfc
 have HFL:=Lib.hid (fail_any e.p e.r 9 w hreq)
 have HN:=Lib.hid hen
 have hge:e.r.state>=2:=hs
 clear hq hF hfc hf hreq hem hen het
 go_enter Tryx.func35,Tryz.ntmps35
 go_wp2_with fail
 refine (HC.out w HQ.out.tab).mono ?_
 rintro x w1 ⟨rfl,rfl⟩
 dsimp only
 go_wp2_with fail
 refine HFL.out.mono ?_
 rintro x w2 ⟨b,rfl,hE,hb,hB2⟩
 have HE:=Lib.hid hE
 have HB2:=Lib.hid hB2
 clear hE hB2
 go_wp2_with fail
 go_ret
 exact⟨b,rfl,by have:=HE.out;rw[HN.out]at this;exact this,hb,HB2.out⟩
def giveR(r:Req):Req:={r with state:=4}
theorem foot_upd{q tb mb:Nat}{fv:Value}{s:Sta}{n:Int}{f:Req->Req}{k:Nat}(hk:QFoot q tb mb fv {s with es:=updE s.es n f} k):QFoot q tb mb fv s k:=by
 rcases hk with h | h | h | h |⟨x,hx,h⟩ | h
 ·exact .inl h
 ·exact .inr (.inl h)
 ·exact .inr (.inr (.inl h))
 ·exact .inr (.inr (.inr (.inl h)))
 ·obtain⟨y,hy,rfl⟩:=List.mem_map.1 hx
  exact .inr (.inr (.inr (.inr (.inl ⟨y,hy,by rw[h];split <;> rfl⟩))))
 ·exact .inr (.inr (.inr (.inr (.inr h))))
theorem cancel_ok(q:Nat)(s:Sta)(F:Nat->Prop)(w:World)(n:Int)(e:Ent)(h:QAt w q s F)(hf:findE s.es n=some e)(hs:e.r.state<2):
  Calls Tryx.prog 35 #[ptr q,.int .i64 n] w fun x w'=>x=.returned .nilIface/\QAt w' q {s with es:=updE s.es n giveR} F/\Chg F w w':=by
 obtain⟨tb,mb,clock,fv,hq,hF⟩:=h
 obtain⟨hem,hen,het⟩:=findE_some hf
 have c1:=hq.c1
 have hreq:=hq.tab.reqs e hem
 have c7:=hreq.at.c7
 have f7:w.frozen? ⟨e.p,7,none⟩=false:=free_of hreq
 have HQ:=Lib.hid hq
 have hfc:=find_any tb mb clock s.last s.held n s.es
 rw[hf]at hfc
 have HC:=Lib.hid hfc
 have HN:=Lib.hid hen
 have HM:=Lib.hid hem
 have HF:=Lib.hid hF
 have HR:=Lib.hid hreq
 have hge:¬e.r.state>=2:=by omega
 clear hq hF hfc hf hreq hem hen het
 go_enter Tryx.func35,Tryz.ntmps35
 go_wp2_with fail
 refine (HC.out w HQ.out.tab).mono ?_
 rintro x w1 ⟨rfl,rfl⟩
 dsimp only
 go_wp2_with fail
 go_ret
 have hc:Chg (fun k=>k=e.p) w1 (w1.setCell ⟨e.p,7,none⟩ (.int .i64 4)):=chg_set _
 have hT:=HQ.out.tab.upd (W:=w1.setCell ⟨e.p,7,none⟩ (.int .i64 4)) HM.out giveR (fun r=>⟨rfl,rfl⟩) (heap_setCell (i:=7) _ HR.out) hc
 rw[HN.out]at hT
 exact⟨rfl,⟨tb,mb,clock,fv,HQ.out.tabs clock {s with es:=updE s.es n giveR} ⟨rfl,rfl,rfl,rfl⟩ rfl hT hc (fun k hk=>.inr (.inr ⟨e,HM.out,hk⟩)),fun k hk=>HF.out k (foot_upd hk)⟩,hc.mono fun k _ hk=>HF.out k (foot_tabs3 HM.out (.inr (.inr hk)))⟩
theorem plCancel_of(q:Nat)(n k r t:Int)(w:World)(P:Value->World->Prop)
  (hM:Calls Tryx.prog 35 #[ptr q,.int .i64 n] (w.alloc zErr) fun x w'=>∃ err,x=.returned err/\P err w')
  (hP:∀ err w',P err w'->ErrVar w'/\ErrIs w' err k r t/\w'.heap[w.heap.size]?=some zErr):
  Calls Tryx.prog 15 #[ptr q,.int .i64 n] w fun x w'=>∃ err w1,x=.returned (plErr k r t)/\P err w1/\Chg (fun k=>k=w.heap.size) w1 w':=by
 have HM:=Lib.hid hM
 have HP:=Lib.hid hP
 clear hM hP
 go_enter Tryx.func15,Tryz.ntmps15
 go_wp2_with fail
 refine HM.out.mono ?_
 rintro x w1 ⟨err,rfl,hp⟩
 obtain⟨hg,he,hz⟩:=HP.out err w1 hp
 have HT:=Lib.hid (told_any hg he)
 have HPP:=Lib.hid hp
 have HZ:=Lib.hid hz
 clear hp hg he hz
 go_wp2_with fail
 refine HT.out.mono ?_
 rintro x w2 ⟨rfl,hB⟩
 have hz2:w2.heap[w.heap.size]?=some zErr:=(hB.block _ (lt_of_heap HZ.out)).trans HZ.out
 have z0:w2.cell? ⟨w.heap.size,0,none⟩=some (.int .i64 0):=cell_of hz2 rfl
 have z1:w2.cell? ⟨w.heap.size,1,none⟩=some (.int .i64 0):=cell_of hz2 rfl
 have z2:w2.cell? ⟨w.heap.size,2,none⟩=some (.int .i64 0):=cell_of hz2 rfl
 have z3:w2.cell? ⟨w.heap.size,3,none⟩=some (.bool false):=cell_of hz2 rfl
 have zf:∀ i,w2.frozen? ⟨w.heap.size,i,none⟩=false:=fun i=>free_of hz2
 have HB:=Lib.hid hB
 have HZ2:=Lib.hid hz2
 clear hB hz2
 go_wp2_with fail
 obtain⟨e5,hc5⟩:=err_set (W:=w2) (.int .i64 k) (.int .i64 r) (.int .i64 t) (.bool true) HZ2.out
 obtain⟨W5,hW5⟩:∃ W5,((((w2.setCell ⟨w.heap.size,0,none⟩ (.int .i64 k)).setCell ⟨w.heap.size,1,none⟩ (.int .i64 r)).setCell ⟨w.heap.size,2,none⟩ (.int .i64 t)).setCell ⟨w.heap.size,3,none⟩ (.bool true))=W5:=⟨_,rfl⟩
 rw[hW5]at e5 hc5 ⊢
 have y0:W5.cell? ⟨w.heap.size,0,none⟩=some (.int .i64 k):=cell_of e5 rfl
 have y1:W5.cell? ⟨w.heap.size,1,none⟩=some (.int .i64 r):=cell_of e5 rfl
 have y2:W5.cell? ⟨w.heap.size,2,none⟩=some (.int .i64 t):=cell_of e5 rfl
 have y3:W5.cell? ⟨w.heap.size,3,none⟩=some (.bool true):=cell_of e5 rfl
 refine bodyPost_ret (v:=plErr k r t) (by simp[results,Tryz.results15,go_sem,y0,y1,y2,y3]) rfl ⟨err,w1,rfl,HPP.out,(chgB HB.out _).then hc5⟩
section
variable {q:Nat} {t:St} {F:Nat->Prop} {w:World}
theorem cancel_none_p(h:QT w q t F)(hg:ErrVar w)(n:Int)(hf:t.find n=none):
  Calls Tryx.prog 15 #[ptr q,.int .i64 n] w fun x w'=>x=.returned (plErr 5 (-1) 0)/\Below w.heap.size w w':=by
 refine (plCancel_of q n 5 (-1) 0 w (fun err w'=>err=errK 5/\w'=w.alloc zErr) ?_ ?_).mono ?_
 ·obtain⟨s,h1,rfl⟩:=h.alloc zErr
  exact (cancel_none q s _ _ n h1 (er_find_none hf)).mono fun x w' ⟨e1,e2⟩=>⟨_,e1,rfl,e2⟩
 ·rintro err w' ⟨rfl,rfl⟩
  exact⟨hg.alloc _,.kind 5 (by omega),zErr_alloc w⟩
 ·rintro x w' ⟨err,w1,rfl,⟨rfl,rfl⟩,hc⟩
  exact⟨rfl,Chg.below (((Chg.refl (fun _=>False) w).alloc _).trans (hc.mono fun k _ hk=>.inr (by omega)))⟩
theorem cancel_done_p(h:QT w q t F)(hg:ErrVar w)(n:Int)(r:Req)(hf:t.find n=some r)(hs:2<=r.state):
  Calls Tryx.prog 15 #[ptr q,.int .i64 n] w fun x w'=>x=.returned (plErr 9 n r.tries)/\Below w.heap.size w w':=by
 refine (plCancel_of q n 9 n r.tries w (fun err w'=>(∃ b,err=errR b/\ReqErr w' b n r.tries 9)/\Below (w.alloc zErr).heap.size (w.alloc zErr) w') ?_ ?_).mono ?_
 ·obtain⟨s,h1,rfl⟩:=h.alloc zErr
  obtain⟨e,he,rfl⟩:=er_find_some hf
  exact (cancel_done q s _ _ n e h1 he hs).mono fun x w' ⟨b,e1,e2,_,e3⟩=>⟨_,e1,⟨b,rfl,e2⟩,e3⟩
 ·rintro err w' ⟨⟨b,rfl,e2⟩,e3⟩
  exact⟨(hg.alloc _).chg (chgB e3 fun _=>False) fun x=>x,.req b n r.tries 9 (by omega) e2,(e3.block _ (by simp)).trans (zErr_alloc w)⟩
 ·rintro x w' ⟨err,w1,rfl,⟨_,e3⟩,hc⟩
  exact⟨rfl,Chg.below (chg_two (F:=fun _=>False) (chgB e3 _) hc (fun _ x=>x) fun k hk=>.inr (by omega))⟩
theorem cancel_ok_p(h:QT w q t F)(hk:t.Ok)(hsm:t.Small)(hg:ErrVar w)(hF:¬F 0)(n:Int)(r:Req)(hf:t.find n=some r)(hs:r.state<2):
  Calls Tryx.prog 15 #[ptr q,.int .i64 n] w fun x w'=>x=.returned (plErr 0 (-1) 0)/\QT w' q (t.give n) F/\Chg F w w':=by
 refine (plCancel_of q n 0 (-1) 0 w (fun err w'=>err=.nilIface/\QT w' q (t.give n) (fun k=>F k/\k<w.heap.size)/\Chg (fun k=>F k/\k<w.heap.size) (w.alloc zErr) w') ?_ ?_).mono ?_
 ·obtain⟨s,h1,rfl⟩:=h.alloc zErr
  obtain⟨e,he,rfl⟩:=er_find_some hf
  exact (cancel_ok q s _ _ n e h1 he hs).mono fun x w' ⟨e1,e2,e3⟩=>⟨_,e1,rfl,⟨_,e2,er_give giveR⟩,e3⟩
 ·rintro err w' ⟨rfl,h1,h2⟩
  exact⟨(hg.alloc _).chg h2 fun x=>hF x.1,.nil,(h2.block _ (by simp) (by omega)).trans (zErr_alloc w)⟩
 ·rintro x w' ⟨err,w1,rfl,⟨rfl,h1,h2⟩,hc⟩
  exact⟨rfl,(h1.kept hc fun k hk e=>by omega).mono fun k hk=>hk.1,chg_two h2 hc (fun k x=>x.1) fun k hk=>.inr (by omega)⟩
end
end
section
open Go.RowKit Go.Shelf Go.Lib
inductive Lab where
 | glob | me | qs | bs | is | row | loose | x (i:Nat) | m (i:Nat)
 deriving DecidableEq
structure LP where
 x:Nat
 m:Nat
 t:St
 u:St
def pCells(p:LP):List Value:=[ptr p.x,ptr p.m]
structure LB(wb w:World)(wl:Nat)(ow:Nat->Lab)(qv bv iv:Value)(ps:List LP)(bs is:List Value):Prop where
 err:ErrVar w
 glob:ow 0=.glob
 me:w.heap[wl]?=some (.cells #[qv,bv,iv] 71 (0,0))
 own:ow wl=.me
 q:w.ownsRow 0 114 2 qv ps.length (ps.flatMap pCells)
 qo:∀ k,qv.ownBlock=some k->ow k=.qs
 b:w.ownsRow 0 41 1 bv bs.length bs
 bo:∀ k,bv.ownBlock=some k->ow k=.bs
 i:w.ownsRow 0 24 1 iv is.length is
 io:∀ k,iv.ownBlock=some k->ow k=.is
 br:∀ (j:Nat) (v:Value),bs[j]?=some v->∃ n,w.ownsRow 0 5 1 v n (List.replicate n (.int .u8 ((j % 256:Nat):Int)))/\∀ k,v.ownBlock=some k->ow k=.row
 ir:∀ (j:Nat) (v:Value),is[j]?=some v->∃ n,w.ownsRow 0 3 1 v n (List.replicate n (.int .i64 (-(j:Int))))/\∀ k,v.ownBlock=some k->ow k=.row
 xs:∀ (j:Nat) (p:LP),ps[j]?=some p->QT w p.x p.t (fun k=>ow k=.x j)
 ms:∀ (j:Nat) (p:LP),ps[j]?=some p->RT w p.m p.u (fun k=>ow k=.m j)
 bel:Below wb.heap.size wb w
 old:∀ k,k<wb.heap.size->ow k=.glob
theorem Below.chgS{n:Nat}{S:Nat->Prop}{a w W:World}(hb:Below n a w)(hc:Chg S w W)(hn:n<=w.heap.size)(hS:∀ k,k<n->¬S k):Below n a W:=
 ⟨hc.os.trans hb.os,hc.tape.trans hb.tape,hc.output.trans hb.output,Nat.le_trans hb.size hc.size,fun k hk=>(hc.block k (by omega) (hS k hk)).trans (hb.block k hk)⟩
section
variable {wb w W:World} {wl:Nat} {ow:Nat->Lab} {qv bv iv:Value} {ps:List LP} {bs is:List Value}
theorem LB.zero(h:LB wb w wl ow qv bv iv ps bs is):0<w.heap.size:=lt_of_cell h.err
theorem LB.chg(h:LB wb w wl ow qv bv iv ps bs is){S:Nat->Prop}(hc:Chg S w W)(hS:∀ k,S k->ow k=.loose):LB wb W wl ow qv bv iv ps bs is:=by
 have g:∀ {l:Lab},l≠.loose->∀ k,ow k=l->¬S k:=fun hl k hk hs=>hl (hk.symm.trans (hS k hs))
 refine⟨h.err.chg hc (g (by simp) 0 h.glob),h.glob,(hc.block _ (lt_of_heap h.me) (g (by simp) _ h.own)).trans h.me,h.own,ownsRow_chg h.q hc fun k hk=>g (by simp) k (h.qo k hk),h.qo,
  ownsRow_chg h.b hc fun k hk=>g (by simp) k (h.bo k hk),h.bo,ownsRow_chg h.i hc fun k hk=>g (by simp) k (h.io k hk),h.io,fun j v hv=>?_,fun j v hv=>?_,
  fun j p hp=>(h.xs j p hp).kept hc (g (by simp)),fun j p hp=>(h.ms j p hp).kept hc (g (by simp)),Below.chgS h.bel hc h.bel.size fun k hk=>g (by simp) k (h.old k hk),h.old⟩
 ·obtain⟨n,h1,h2⟩:=h.br j v hv
  exact⟨n,ownsRow_chg h1 hc fun k hk=>g (by simp) k (h2 k hk),h2⟩
 ·obtain⟨n,h1,h2⟩:=h.ir j v hv
  exact⟨n,ownsRow_chg h1 hc fun k hk=>g (by simp) k (h2 k hk),h2⟩
theorem LB.below(h:LB wb w wl ow qv bv iv ps bs is)(hb:Below w.heap.size w W):LB wb W wl ow qv bv iv ps bs is:=h.chg (chgB hb fun _=>False) fun _ x=>x.elim
theorem LB.relabel(h:LB wb w wl ow qv bv iv ps bs is){ow':Nat->Lab}(ho:∀ k,k<w.heap.size->ow k≠.loose->ow' k=ow k):LB wb w wl ow' qv bv iv ps bs is:=by
 have g:∀ {ty:TypeId} {sz n b:Nat} {v:Value} {xs:List Value} {l:Lab},l≠.loose->w.ownsRow b ty sz v n xs->(∀ k,v.ownBlock=some k->ow k=l)->∀ k,v.ownBlock=some k->ow' k=l:=fun hn hr hl k hk=>by
  obtain⟨cur,hcur⟩:=own_heap hr hk
  rw[ho k (lt_of_heap hcur) (by rw[hl k hk];exact hn)];exact hl k hk
 refine⟨h.err,(ho 0 h.zero (by rw[h.glob];simp)).trans h.glob,h.me,(ho _ (lt_of_heap h.me) (by rw[h.own];simp)).trans h.own,h.q,g (by simp) h.q h.qo,h.b,g (by simp) h.b h.bo,h.i,g (by simp) h.i h.io,fun j v hv=>?_,fun j v hv=>?_,
  fun j p hp=>(h.xs j p hp).lt.mono fun k hk=>(ho k hk.2 (by rw[hk.1];simp)).trans hk.1,fun j p hp=>(h.ms j p hp).lt.mono fun k hk=>(ho k hk.2 (by rw[hk.1];simp)).trans hk.1,h.bel,fun k hk=>(ho k (Nat.lt_of_lt_of_le hk h.bel.size) (by rw[h.old k hk];simp)).trans (h.old k hk)⟩
 ·obtain⟨n,h1,h2⟩:=h.br j v hv
  exact⟨n,h1,g (by simp) h1 h2⟩
 ·obtain⟨n,h1,h2⟩:=h.ir j v hv
  exact⟨n,h1,g (by simp) h1 h2⟩
theorem LB.other(h:LB wb w wl ow qv bv iv ps bs is){S:Nat->Prop}(hc:Chg S w W){l:Lab}(hS:∀ k,S k->ow k=l)(hl:∀ m∈[Lab.glob,.me,.qs,.bs,.is,.row],m≠l){ps':List LP}(hp:ps'.flatMap pCells=ps.flatMap pCells)(hn:ps'.length=ps.length)
  (hx:∀ (j:Nat) (p:LP),ps'[j]?=some p->QT W p.x p.t (fun k=>ow k=.x j)) (hm:∀ (j:Nat) (p:LP),ps'[j]?=some p->RT W p.m p.u (fun k=>ow k=.m j)):LB wb W wl ow qv bv iv ps' bs is:=by
 have g:∀ {m:Lab},m∈[Lab.glob,.me,.qs,.bs,.is,.row]->∀ k,ow k=m->¬S k:=fun hm' k hk hs=>hl _ hm' (hk.symm.trans (hS k hs))
 refine⟨h.err.chg hc (g (by simp) 0 h.glob),h.glob,(hc.block _ (lt_of_heap h.me) (g (by simp) _ h.own)).trans h.me,h.own,by rw[hp,hn];exact ownsRow_chg h.q hc fun k hk=>g (by simp) k (h.qo k hk),h.qo,
  ownsRow_chg h.b hc fun k hk=>g (by simp) k (h.bo k hk),h.bo,ownsRow_chg h.i hc fun k hk=>g (by simp) k (h.io k hk),h.io,fun j v hv=>?_,fun j v hv=>?_,hx,hm,Below.chgS h.bel hc h.bel.size fun k hk=>g (by simp) k (h.old k hk),h.old⟩
 ·obtain⟨n,h1,h2⟩:=h.br j v hv
  exact⟨n,ownsRow_chg h1 hc fun k hk=>g (by simp) k (h2 k hk),h2⟩
 ·obtain⟨n,h1,h2⟩:=h.ir j v hv
  exact⟨n,ownsRow_chg h1 hc fun k hk=>g (by simp) k (h2 k hk),h2⟩
theorem set_pcells:∀ (ps:List LP) (j:Nat) {p p':LP},ps[j]?=some p->pCells p'=pCells p->(ps.set j p').flatMap pCells=ps.flatMap pCells
 | [],_,_,_,h,_=>by simp at h
 | a :: ps,0,p,p',h,e=>by
   simp only[List.getElem?_cons_zero,Option.some.injEq]at h
   subst h
   simp[e]
 | a :: ps,j+1,p,p',h,e=>by
   rw[List.getElem?_cons_succ]at h
   simp[set_pcells ps j h e]
theorem LB.stepX(h:LB wb w wl ow qv bv iv ps bs is){j:Nat}{p:LP}(hp:ps[j]?=some p){t':St}{F':Nat->Prop}(hq:QT W p.x t' F')(hF:∀ k,F' k->ow k=.x j\/w.heap.size<=k)(hc:Chg (fun k=>ow k=.x j) w W):
  ∃ ow',LB wb W wl ow' qv bv iv (ps.set j {p with t:=t'}) bs is/\(∀ k,k<w.heap.size->ow' k=ow k)/\∀ k,w.heap.size<=k->¬F' k->ow' k=.loose:=by
 classical
 refine⟨fun k=>if k<w.heap.size then ow k else if F' k then .x j else .loose,?_,fun k hk=>by simp[hk],fun k hk hf=>by simp[show ¬k<w.heap.size by omega,hf]⟩
 have h1:=h.relabel (ow':=fun k=>if k<w.heap.size then ow k else if F' k then .x j else .loose) fun k hk _=>by simp[hk]
 have hc':Chg (fun k=>ow k=.x j/\k<w.heap.size) w W:=hc.mono fun k hk hs=>⟨hs,hk⟩
 refine h1.other hc' (l:=.x j) (fun k hk=>by simp[hk.1,hk.2]) (by simp) (set_pcells ps j hp rfl) (by simp) (fun i p' hp'=>?_) fun i p' hp'=>?_
 ·rw[List.getElem?_set]at hp'
  split at hp'
  ·rename_i hij
   subst hij
   have hjl:=(List.getElem?_eq_some_iff.1 hp).1
   rw[if_pos hjl]at hp'
   simp only[Option.some.injEq]at hp'
   subst hp'
   refine hq.mono fun k hk=>?_
   by_cases hlt:k<w.heap.size
   ·simp only[hlt,if_true]
    exact (hF k hk).resolve_right (by omega)
   ·simp[hlt,hk]
  ·rename_i hij
   refine (h1.xs i p' hp').kept hc' fun k hk hs=>?_
   simp only[hs.2,if_true]at hk
   rw[hs.1]at hk
   exact hij (by simpa using hk)
 ·have hpm:∃ p0,ps[i]?=some p0/\p'.m=p0.m/\p'.u=p0.u:=by
   rw[List.getElem?_set]at hp'
   split at hp'
   ·rename_i hij
    subst hij
    have hjl:=(List.getElem?_eq_some_iff.1 hp).1
    rw[if_pos hjl]at hp'
    simp only[Option.some.injEq]at hp'
    subst hp'
    exact⟨p,hp,rfl,rfl⟩
   ·exact⟨p',hp',rfl,rfl⟩
  obtain⟨p0,e1,e2,e3⟩:=hpm
  rw[e2,e3]
  refine (h1.ms i p0 e1).kept hc' fun k hk hs=>?_
  simp only[hs.2,if_true]at hk
  rw[hs.1]at hk
  cases hk
theorem LB.stepM(h:LB wb w wl ow qv bv iv ps bs is){j:Nat}{p:LP}(hp:ps[j]?=some p){u':St}{F':Nat->Prop}(hq:RT W p.m u' F')(hF:∀ k,F' k->ow k=.m j\/w.heap.size<=k)(hc:Chg (fun k=>ow k=.m j) w W):
  ∃ ow',LB wb W wl ow' qv bv iv (ps.set j {p with u:=u'}) bs is/\(∀ k,k<w.heap.size->ow' k=ow k)/\∀ k,w.heap.size<=k->¬F' k->ow' k=.loose:=by
 classical
 refine⟨fun k=>if k<w.heap.size then ow k else if F' k then .m j else .loose,?_,fun k hk=>by simp[hk],fun k hk hf=>by simp[show ¬k<w.heap.size by omega,hf]⟩
 have h1:=h.relabel (ow':=fun k=>if k<w.heap.size then ow k else if F' k then .m j else .loose) fun k hk _=>by simp[hk]
 have hc':Chg (fun k=>ow k=.m j/\k<w.heap.size) w W:=hc.mono fun k hk hs=>⟨hs,hk⟩
 refine h1.other hc' (l:=.m j) (fun k hk=>by simp[hk.1,hk.2]) (by simp) (set_pcells ps j hp rfl) (by simp) (fun i p' hp'=>?_) fun i p' hp'=>?_
 ·have hpm:∃ p0,ps[i]?=some p0/\p'.x=p0.x/\p'.t=p0.t:=by
   rw[List.getElem?_set]at hp'
   split at hp'
   ·rename_i hij
    subst hij
    have hjl:=(List.getElem?_eq_some_iff.1 hp).1
    rw[if_pos hjl]at hp'
    simp only[Option.some.injEq]at hp'
    subst hp'
    exact⟨p,hp,rfl,rfl⟩
   ·exact⟨p',hp',rfl,rfl⟩
  obtain⟨p0,e1,e2,e3⟩:=hpm
  rw[e2,e3]
  refine (h1.xs i p0 e1).kept hc' fun k hk hs=>?_
  simp only[hs.2,if_true]at hk
  rw[hs.1]at hk
  cases hk
 ·rw[List.getElem?_set]at hp'
  split at hp'
  ·rename_i hij
   subst hij
   have hjl:=(List.getElem?_eq_some_iff.1 hp).1
   rw[if_pos hjl]at hp'
   simp only[Option.some.injEq]at hp'
   subst hp'
   refine hq.mono fun k hk=>?_
   by_cases hlt:k<w.heap.size
   ·simp only[hlt,if_true]
    exact (hF k hk).resolve_right (by omega)
   ·simp[hlt,hk]
  ·rename_i hij
   refine (h1.ms i p' hp').kept hc' fun k hk hs=>?_
   simp only[hs.2,if_true]at hk
   rw[hs.1]at hk
   exact hij (by simpa using hk)
theorem LB.addB(h:LB wb w wl ow qv bv iv ps bs is){f bv':Value}{n:Nat}(hf:w.ownsRow 0 5 1 f n (List.replicate n (.int .u8 ((bs.length % 256:Nat):Int))))(hfl:∀ k,f.ownBlock=some k->ow k=.loose)(hc:Chg (fun k=>k=wl\/bv.ownBlock=some k) w W)
  (hme:W.heap[wl]?=some (.cells #[qv,bv',iv] 71 (0,0))) (hrow:W.ownsRow 0 41 1 bv' (bs ++ [f]).length (bs ++ [f])) (hbv:∀ k,bv'.ownBlock=some k->bv.ownBlock=some k\/w.heap.size<=k):
  ∃ ow',LB wb W wl ow' qv bv' iv ps (bs ++ [f]) is/\∀ k,k<w.heap.size->f.ownBlock≠some k->ow' k=ow k:=by
 classical
 obtain⟨ow',how⟩:∃ ow':Nat->Lab,ow'=fun k=>if f.ownBlock=some k then .row else if k<w.heap.size then ow k else if bv'.ownBlock=some k then .bs else .loose:=⟨_,rfl⟩
 have o1:∀ k,k<w.heap.size->f.ownBlock≠some k->ow' k=ow k:=fun k hk hf=>by rw[how];simp[hk,hf]
 refine⟨ow',?_,o1⟩
 have o2:∀ k,f.ownBlock=some k->ow' k=.row:=fun k hk=>by rw[how];simp[hk]
 have h1:=h.relabel (ow':=ow') fun k hk hl=>o1 k hk fun e=>hl (hfl k e)
 have hwl:=lt_of_heap h.me
 have gS:∀ k,(k=wl\/bv.ownBlock=some k)->ow' k=.me\/ow' k=.bs:=fun k hk=>hk.imp (fun e=>(congrArg ow' e).trans h1.own) (h1.bo k)
 have g:∀ {m:Lab},m≠.me->m≠.bs->∀ k,ow' k=m->¬(k=wl\/bv.ownBlock=some k):=fun a1 a2 k hk hs=>(gS k hs).elim (fun e=>a1 (hk.symm.trans e)) fun e=>a2 (hk.symm.trans e)
 refine⟨h1.err.chg hc (g (by simp) (by simp) 0 h1.glob),h1.glob,hme,h1.own,ownsRow_chg h1.q hc fun k hk=>g (by simp) (by simp) k (h1.qo k hk),h1.qo,hrow,fun k hk=>?_,
  ownsRow_chg h1.i hc fun k hk=>g (by simp) (by simp) k (h1.io k hk),h1.io,fun j v hv=>?_,fun j v hv=>?_,fun j p hp=>(h1.xs j p hp).kept hc (g (by simp) (by simp)),fun j p hp=>(h1.ms j p hp).kept hc (g (by simp) (by simp)),Below.chgS h1.bel hc h1.bel.size fun k hk=>g (by simp) (by simp) k (h1.old k hk),h1.old⟩
 ·rcases hbv k hk with e | e
  ·exact h1.bo k e
  ·have:f.ownBlock≠some k:=fun e2=>by
    obtain⟨cur,hcur⟩:=own_heap hf e2
    have:=lt_of_heap hcur;omega
   rw[how]
   simp[this,hk,show ¬k<w.heap.size by omega]
 ·rcases Nat.lt_or_ge j bs.length with hlt | hge
  ·rw[List.getElem?_append_left hlt]at hv
   obtain⟨n,h2,h3⟩:=h1.br j v hv
   exact⟨n,ownsRow_chg h2 hc fun k hk=>g (by simp) (by simp) k (h3 k hk),h3⟩
  ·rw[List.getElem?_append_right hge]at hv
   obtain⟨hl,e⟩:=List.getElem?_eq_some_iff.1 hv
   have hj:j=bs.length:=by simp at hl;omega
   subst hj
   simp at hv
   subst hv
   exact⟨n,ownsRow_chg hf hc fun k hk=>g (by simp) (by simp) k (o2 k hk),o2⟩
 ·obtain⟨n,h2,h3⟩:=h1.ir j v hv
  exact⟨n,ownsRow_chg h2 hc fun k hk=>g (by simp) (by simp) k (h3 k hk),h3⟩
theorem LB.addI(h:LB wb w wl ow qv bv iv ps bs is){f zv':Value}{n:Nat}(hf:w.ownsRow 0 3 1 f n (List.replicate n (.int .i64 (-(is.length:Int)))))(hfl:∀ k,f.ownBlock=some k->ow k=.loose)(hc:Chg (fun k=>k=wl\/iv.ownBlock=some k) w W)
  (hme:W.heap[wl]?=some (.cells #[qv,bv,zv'] 71 (0,0))) (hrow:W.ownsRow 0 24 1 zv' (is ++ [f]).length (is ++ [f])) (hbv:∀ k,zv'.ownBlock=some k->iv.ownBlock=some k\/w.heap.size<=k):
  ∃ ow',LB wb W wl ow' qv bv zv' ps bs (is ++ [f])/\∀ k,k<w.heap.size->f.ownBlock≠some k->ow' k=ow k:=by
 classical
 obtain⟨ow',how⟩:∃ ow':Nat->Lab,ow'=fun k=>if f.ownBlock=some k then .row else if k<w.heap.size then ow k else if zv'.ownBlock=some k then .is else .loose:=⟨_,rfl⟩
 have o1:∀ k,k<w.heap.size->f.ownBlock≠some k->ow' k=ow k:=fun k hk hf=>by rw[how];simp[hk,hf]
 refine⟨ow',?_,o1⟩
 have o2:∀ k,f.ownBlock=some k->ow' k=.row:=fun k hk=>by rw[how];simp[hk]
 have h1:=h.relabel (ow':=ow') fun k hk hl=>o1 k hk fun e=>hl (hfl k e)
 have hwl:=lt_of_heap h.me
 have gS:∀ k,(k=wl\/iv.ownBlock=some k)->ow' k=.me\/ow' k=.is:=fun k hk=>hk.imp (fun e=>(congrArg ow' e).trans h1.own) (h1.io k)
 have g:∀ {m:Lab},m≠.me->m≠.is->∀ k,ow' k=m->¬(k=wl\/iv.ownBlock=some k):=fun a1 a2 k hk hs=>(gS k hs).elim (fun e=>a1 (hk.symm.trans e)) fun e=>a2 (hk.symm.trans e)
 refine⟨h1.err.chg hc (g (by simp) (by simp) 0 h1.glob),h1.glob,hme,h1.own,ownsRow_chg h1.q hc fun k hk=>g (by simp) (by simp) k (h1.qo k hk),h1.qo,
  ownsRow_chg h1.b hc fun k hk=>g (by simp) (by simp) k (h1.bo k hk),h1.bo,hrow,fun k hk=>?_,fun j v hv=>?_,fun j v hv=>?_,fun j p hp=>(h1.xs j p hp).kept hc (g (by simp) (by simp)),fun j p hp=>(h1.ms j p hp).kept hc (g (by simp) (by simp)),Below.chgS h1.bel hc h1.bel.size fun k hk=>g (by simp) (by simp) k (h1.old k hk),h1.old⟩
 ·rcases hbv k hk with e | e
  ·exact h1.io k e
  ·have:f.ownBlock≠some k:=fun e2=>by
    obtain⟨cur,hcur⟩:=own_heap hf e2
    have:=lt_of_heap hcur;omega
   rw[how]
   simp[this,hk,show ¬k<w.heap.size by omega]
 ·obtain⟨n,h2,h3⟩:=h1.br j v hv
  exact⟨n,ownsRow_chg h2 hc fun k hk=>g (by simp) (by simp) k (h3 k hk),h3⟩
 ·rcases Nat.lt_or_ge j is.length with hlt | hge
  ·rw[List.getElem?_append_left hlt]at hv
   obtain⟨n,h2,h3⟩:=h1.ir j v hv
   exact⟨n,ownsRow_chg h2 hc fun k hk=>g (by simp) (by simp) k (h3 k hk),h3⟩
  ·rw[List.getElem?_append_right hge]at hv
   obtain⟨hl,e⟩:=List.getElem?_eq_some_iff.1 hv
   have hj:j=is.length:=by simp at hl;omega
   subst hj
   simp at hv
   subst hv
   exact⟨n,ownsRow_chg hf hc fun k hk=>g (by simp) (by simp) k (o2 k hk),o2⟩
end
theorem eqInt(d:Nat)(T:TypeId)(a:Int)(w:World)(h:Tryx.prog.underlying T=some (.int .i64)):(Op.equalIn (d+1) T (.int .i64 a) (.int .i64 a)).run Tryx.prog w=.ok true w:=by
 simp[Op.equalIn,run_underlying h]
theorem eqBool(d:Nat)(T:TypeId)(a:Bool)(w:World)(h:Tryx.prog.underlying T=some .bool):(Op.equalIn (d+1) T (.bool a) (.bool a)).run Tryx.prog w=.ok true w:=by
 simp[Op.equalIn,run_underlying h]
theorem eqW(k r t:Int)(w:World):(binOp BinOp.eql 39 (plErr k r t) (plErr k r t)).run Tryx.prog w=.ok (.bool true) w:=by
 have p0:∀ w,(part 37 #[.int .i64 k,.int .i64 r,.int .i64 t,.bool true] 0).run Tryx.prog w=.ok (.int .i64 k) w:=fun _=>by kernel_rfl
 have p1:∀ w,(part 3 #[.int .i64 k,.int .i64 r,.int .i64 t,.bool true] 1).run Tryx.prog w=.ok (.int .i64 r) w:=fun _=>by kernel_rfl
 have p2:∀ w,(part 3 #[.int .i64 k,.int .i64 r,.int .i64 t,.bool true] 2).run Tryx.prog w=.ok (.int .i64 t) w:=fun _=>by kernel_rfl
 have p3:∀ w,(part 4 #[.int .i64 k,.int .i64 r,.int .i64 t,.bool true] 3).run Tryx.prog w=.ok (.bool true) w:=fun _=>by kernel_rfl
 have q0:∀ w,(Op.equalIn 9999 37 (.int .i64 k) (.int .i64 k)).run Tryx.prog w=.ok true w:=fun w=>eqInt 9998 _ k w Tryx.underlying37
 have q1:∀ a w,(Op.equalIn 9999 3 (.int .i64 a) (.int .i64 a)).run Tryx.prog w=.ok true w:=fun a w=>eqInt 9998 _ a w Tryx.underlying3
 have q3:∀ w,(Op.equalIn 9999 4 (.bool true) (.bool true)).run Tryx.prog w=.ok true w:=fun w=>eqBool 9998 _ true w Tryx.underlying4
 have st:Tryx.prog.stoodInHeld 39=false:=by kernel_rfl
 unfold binOp Op.equal
 rw[show Op.maxDepth=9998+1+1 from rfl]
 simp only[go_sem]
 unfold Op.equalIn
 simp[run_underlying Tryx.underlying39,plErr,p0,p1,p2,p3,q0,q1,q3,st]
theorem wrong_l(k r t:Int)(w:World):Calls Tryx.prog 81 #[plErr k r t,.int .i64 k,.int .i64 r,.int .i64 t] w fun y w'=>y=.returned (.bool true)/\Below w.heap.size w w':=by
 have he:=fun w=>eqW k r t w
 go_enter Tryx.func81,Tryz.ntmps81
 go_wp2_with fail
 go_ret
 exact⟨rfl,by go_grown⟩
theorem fine_l(w:World):Calls Tryx.prog 57 #[plErr 0 (-1) 0] w fun y w'=>y=.returned (.bool true)/\Below w.heap.size w w':=by
 have he:=fun w=>eqW 0 (-1) 0 w
 go_enter Tryx.func57,Tryz.ntmps57
 go_wp2_with fail
 go_ret
 exact⟨rfl,by go_grown⟩
theorem none_l(k:Int)(w:World):Calls Tryx.prog 56 #[plErr k (-1) 0,.int .i64 k] w fun y w'=>y=.returned (.bool true)/\Below w.heap.size w w':=by
 go_enter Tryx.func56,Tryz.ntmps56
 go_wp2_with fail
 refine (wrong_l k (-1) 0 _).mono ?_
 rintro y w2 ⟨rfl,hB⟩
 go_wp2_with fail
 go_ret
 exact⟨rfl,Below.trans (by go_grown) (hB.mono (by simp))⟩
end
section
open Go.RowKit Go.Shelf Go.Lib
set_option maxRecDepth 100000
set_option maxHeartbeats 8000000
theorem sameInts_l(w:World)(va vb:Value)(xs:List Int)(b1 b2:Nat)(ha:w.ownsRow b1 3 1 va xs.length (xs.map fun n=>Value.int .i64 n))(hb:w.ownsRow b2 3 1 vb xs.length (xs.map fun n=>Value.int .i64 n))(hx:xs.length<=1000000):
  Calls Tryx.prog 88 #[va,vb] w fun y w'=>y=.returned (.bool true)/\Below w.heap.size w w':=by
 obtain⟨aa,ac,rfl⟩:=own_slice ha
 obtain⟨ba,bc,rfl⟩:=own_slice hb
 obtain⟨n,hn⟩:∃ n,xs.length=n:=⟨_,rfl⟩
 rw[hn]at ha hb hx ⊢
 have HA:=Lib.hid ha
 have HB:=Lib.hid hb
 have HN:=Lib.hid hn
 clear ha hb hn
 go_enter Tryx.func88,Tryz.ntmps88
 go_wp2_with fail
 go_loopg [5] n (fun k i wr=>∃ (j:Nat),k=n - j/\j<=n/\i=.int .i64 j/\Hid (Below w.heap.size w wr))
 case atStart=>exact ⟨0,by simp,by omega,rfl,Lib.hid (Below.refl _ _)⟩
 case round=>
  obtain⟨j,rfl,hj,rfl,hB⟩:=hrel
  by_cases hlt:j<n
  ·have hltI:(j:Int)<(n:Int):=by omega
   have hj0:(0:Int)<=(j:Int):=by omega
   obtain⟨x,hx2⟩:∃ x,xs[j]?=some x:=⟨_,List.getElem?_eq_getElem (by rw[HN.out];exact hlt)⟩
   obtain⟨ga,rfl,_,_,p1⟩:=row_at (ownsRow_chg HA.out (chgB hB.out fun _=>False) fun _ _ z=>z) (j:=j) (x:=.int .i64 x) (by rw[List.getElem?_map,hx2];rfl) (by rw[List.length_map,HN.out])
   obtain⟨gb,rfl,_,_,p2⟩:=row_at (ownsRow_chg HB.out (chgB hB.out fun _=>False) fun _ _ z=>z) (j:=j) (x:=.int .i64 x) (by rw[List.getElem?_map,hx2];rfl) (by rw[List.length_map,HN.out])
   clear hx2
   go_wp2_with fail
   go_quiet (fail)
   go_wp2_with fail
   go_roundg (n - (j+1))
   case measure=>omega
   case rel=>exact ⟨j+1,rfl,by omega,by go_num,Lib.hid (below_drewN hB.out _)⟩
  ·obtain rfl:j=n:=by omega
   go_wp2_with fail
   go_ret
   exact⟨rfl,hB.out⟩
section
variable {wb w:World} {wl:Nat} {ow:Nat->Lab} {qv bv iv:Value} {ps:List LP} {bs is:List Value}
theorem own_maxLen{base n size:Nat}{ty:TypeId}{v:Value}{xs:List Value}(h:w.ownsRow base ty size v n xs):n<=9223372036854775807:=by
 rcases h.2 with ⟨_,h0⟩ |⟨g,cap,cur,e,hb,h3,h4,h5,h6,h7⟩
 ·omega
 ·simp only[maxLen]at h5
  omega
theorem looks_l(h:LB wb w wl ow qv bv iv ps bs is)(hb:bs.length<=1000000)(hi:is.length<=1000000):
  Calls Tryx.prog 31 #[ptr wl] w fun y w'=>y=.returned (.bool true)/\Below w.heap.size w w':=by
 obtain⟨ba,bc,rfl⟩:=own_slice h.b
 obtain⟨ia,ic,rfl⟩:=own_slice h.i
 obtain⟨nb,hnb⟩:∃ nb,bs.length=nb:=⟨_,rfl⟩
 obtain⟨ni,hni⟩:∃ ni,is.length=ni:=⟨_,rfl⟩
 have HL:=Lib.hid h
 rw[hnb]at hb
 rw[hni]at hi
 have HNB:=Lib.hid hnb
 have HNI:=Lib.hid hni
 clear h hnb hni
 go_enter Tryx.func31,Tryz.ntmps31
 go_wp2_with fail
 go_loopg [3] nb (fun k i wr=>∃ (j:Nat),k=nb - j/\j<=nb/\i=.int .i64 j/\Hid (Below w.heap.size w wr))
 case atStart=>exact ⟨0,by simp,by omega,rfl,Lib.hid (Below.refl _ _)⟩
 case round=>
  obtain⟨j,rfl,hj,rfl,hB⟩:=hrel
  have hL:=HL.out.below hB.out
  have m1:wr.cell? ⟨wl,1,none⟩=some (.slice ba nb bc):=by rw[<-HNB.out];exact cell_of hL.me rfl
  by_cases hlt:j<nb
  ·have hltI:(j:Int)<(nb:Int):=by omega
   have hj0:(0:Int)<=(j:Int):=by omega
   have hrow:=hL.b
   obtain⟨v,hv⟩:∃ v,bs[j]?=some v:=⟨_,List.getElem?_eq_getElem (by rw[HNB.out];exact hlt)⟩
   obtain⟨n,hvr,_⟩:=hL.br j v hv
   obtain⟨va,vc,rfl⟩:=own_slice hvr
   rw[HNB.out]at hrow
   obtain⟨gb,rfl,_,_,p1⟩:=row_at hrow hv HNB.out
   have HV:=Lib.hid hvr
   have HJ:=Lib.hid hv
   have HB1:=hB
   clear hrow hvr hv hL
   have hn9:=own_maxLen HV.out
   go_wp2_with fail
   obtain⟨wo,rfl⟩:∃ z,z=wr:=⟨_,rfl⟩
   go_loopg [4] n (fun k i wr=>∃ (j2:Nat),k=n - j2/\j2<=n/\i=.int .i64 j2/\Hid (Below w.heap.size w wr))
   case atStart=>exact ⟨0,by simp,by omega,rfl,hB⟩
   case round=>
    obtain⟨j2,rfl,hj2,rfl,hB2⟩:=hrel
    have hL:=HL.out.below hB2.out
    have m1:wr.cell? ⟨wl,1,none⟩=some (.slice (some ⟨gb,0,none⟩) nb bc):=by rw[<-HNB.out];exact cell_of hL.me rfl
    have hrow:=hL.b
    rw[HNB.out]at hrow
    obtain⟨gb',e,_,_,p1⟩:=row_at hrow HJ.out HNB.out
    simp only[Option.some.injEq,Addr.mk.injEq,and_true]at e
    subst e
    by_cases hlt2:j2<n
    ·have hltI2:(j2:Int)<(n:Int):=by omega
     have hj20:(0:Int)<=(j2:Int):=by omega
     obtain⟨n',hvr,_⟩:=hL.br j _ HJ.out
     have hnn:n'=n:=by
      have h1:=hvr.1
      rcases hvr.2 with ⟨e,h0⟩ |⟨g,cap,cur,e,_⟩
      ·cases e;omega
      ·cases e;rfl
     subst hnn
     obtain⟨gv,rfl,_,_,p2⟩:=row_at hvr (j:=j2) (x:=.int .u8 ((j % 256:Nat):Int)) (by rw[List.getElem?_replicate,if_pos hlt2]) (by simp)
     obtain⟨b8,hb8⟩:∃ b8,((j % 256:Nat):Int)=b8:=⟨_,rfl⟩
     rw[hb8]at p2
     have hmod:IntKind.u8.wrap (j:Int)=b8:=by rw[IntKind.wrap_u8];omega
     clear hb8
     clear hrow hvr hL
     go_wp2_with fail
     go_roundg (n' - (j2+1))
     case measure=>omega
     case rel=>exact ⟨j2+1,rfl,by omega,by go_num,hB2⟩
    ·obtain rfl:j2=n:=by omega
     clear hrow hL
     go_wp2_with fail
     go_roundg (nb - (j+1))
     case measure=>omega
     case rel=>exact ⟨j+1,rfl,by omega,by go_num,hB2⟩
  ·obtain rfl:j=nb:=by omega
   go_wp2_with fail
   obtain⟨wp,rfl⟩:∃ z,z=wr:=⟨_,rfl⟩
   go_loopg [5] ni (fun k i wr=>∃ (j:Nat),k=ni - j/\j<=ni/\i=.int .i64 j/\Hid (Below w.heap.size w wr))
   case atStart=>exact ⟨0,by simp,by omega,rfl,hB⟩
   case round=>
    obtain⟨j,rfl,hj,rfl,hB⟩:=hrel
    have hL:=HL.out.below hB.out
    have m1:wr.cell? ⟨wl,2,none⟩=some (.slice ia ni ic):=by rw[<-HNI.out];exact cell_of hL.me rfl
    by_cases hlt:j<ni
    ·have hltI:(j:Int)<(ni:Int):=by omega
     have hj0:(0:Int)<=(j:Int):=by omega
     have hrow:=hL.i
     obtain⟨v,hv⟩:∃ v,is[j]?=some v:=⟨_,List.getElem?_eq_getElem (by rw[HNI.out];exact hlt)⟩
     obtain⟨n,hvr,_⟩:=hL.ir j v hv
     obtain⟨va,vc,rfl⟩:=own_slice hvr
     rw[HNI.out]at hrow
     obtain⟨gb,rfl,_,_,p1⟩:=row_at hrow hv HNI.out
     have HV:=Lib.hid hvr
     have HJ:=Lib.hid hv
     clear hrow hvr hv hL
     have hn9:=own_maxLen HV.out
     go_wp2_with fail
     obtain⟨wo,rfl⟩:∃ z,z=wr:=⟨_,rfl⟩
     go_loopg [6] n (fun k i wr=>∃ (j2:Nat),k=n - j2/\j2<=n/\i=.int .i64 j2/\Hid (Below w.heap.size w wr))
     case atStart=>exact ⟨0,by simp,by omega,rfl,hB⟩
     case round=>
      obtain⟨j2,rfl,hj2,rfl,hB2⟩:=hrel
      have hL:=HL.out.below hB2.out
      have m1:wr.cell? ⟨wl,2,none⟩=some (.slice (some ⟨gb,0,none⟩) ni ic):=by rw[<-HNI.out];exact cell_of hL.me rfl
      have hrow:=hL.i
      rw[HNI.out]at hrow
      obtain⟨gb',e,_,_,p1⟩:=row_at hrow HJ.out HNI.out
      simp only[Option.some.injEq,Addr.mk.injEq,and_true]at e
      subst e
      by_cases hlt2:j2<n
      ·have hltI2:(j2:Int)<(n:Int):=by omega
       have hj20:(0:Int)<=(j2:Int):=by omega
       obtain⟨n',hvr,_⟩:=hL.ir j _ HJ.out
       have hnn:n'=n:=by
        have h1:=hvr.1
        rcases hvr.2 with ⟨e,h0⟩ |⟨g,cap,cur,e,_⟩
        ·cases e;omega
        ·cases e;rfl
       subst hnn
       obtain⟨gv,rfl,_,_,p2⟩:=row_at hvr (j:=j2) (x:=.int .i64 (-(j:Int))) (by rw[List.getElem?_replicate,if_pos hlt2]) (by simp)
       clear hrow hvr hL
       go_wp2_with fail
       go_roundg (n' - (j2+1))
       case measure=>omega
       case rel=>exact ⟨j2+1,rfl,by omega,by go_num,hB2⟩
      ·obtain rfl:j2=n:=by omega
       clear hrow hL
       go_wp2_with fail
       go_roundg (ni - (j+1))
       case measure=>omega
       case rel=>exact ⟨j+1,rfl,by omega,by go_num,hB2⟩
    ·obtain rfl:j=ni:=by omega
     clear hL
     go_wp2_with fail
     go_ret
     exact⟨rfl,hB.out⟩
end
theorem Tryz.infoSB:(Tryx.prog.info? 41).map (fun i=>(i.zero,i.size,i.bytes))=some (some (.slice none 0 0),1,24):=by kernel_rfl
theorem Tryz.infoSI:(Tryx.prog.info? 24).map (fun i=>(i.zero,i.size,i.bytes))=some (some (.slice none 0 0),1,24):=by kernel_rfl
theorem fill_row{W:World}{ty:TypeId}{b:Value}{g cap:Nat}{cur':Array Value}(hm:W.heap[g]?=some (.cells cur' ty (0,0)))(hs:cur'.size=cap)(hcap:cap<=maxLen)(hall:∀ i,i<cap->cur'[i]?=some b):
  W.ownsRow 0 ty 1 (.slice (some ⟨g,0,none⟩) cap cap) cap (List.replicate cap b):=by
 refine⟨by simp,.inr ⟨g,cap,cur',rfl,Nat.zero_le _,hm,Nat.le_refl _,hcap,by omega,?_⟩⟩
 apply List.ext_getElem?
 intro i
 rw[List.getElem?_replicate]
 split
 ·rename_i hi
  rw[List.getElem?_take_of_lt (by omega),Array.getElem?_toList]
  exact hall i hi
 ·rename_i hi
  rw[List.getElem?_eq_none]
  simp
  omega
section
variable {wb w:World} {wl:Nat} {ow:Nat->Lab} {qv bv iv:Value} {ps:List LP} {bs is:List Value}
theorem mine_l(h:LB wb w wl ow qv bv iv ps bs is)(hb:bs.length<=1000000){base n:Nat}{v:Value}{xs:List Value}(hr:w.ownsRow base 5 1 v n xs)(hl:∀ k,v.ownBlock=some k->ow k=.loose):
  Calls Tryx.prog 82 #[ptr wl,v] w fun y w'=>∃ ow' bv' f,y=.returned (.tuple #[])/\LB wb w' wl ow' qv bv' iv ps (bs ++ [f]) is/\(∀ k,k<w.heap.size->v.ownBlock≠some k->ow' k=ow k)/\Chg (fun k=>k=wl\/bv.ownBlock=some k\/v.ownBlock=some k) w w':=by
 obtain⟨ba,bc,rfl⟩:=own_slice h.b
 obtain⟨nb,hnb⟩:∃ nb,bs.length=nb:=⟨_,rfl⟩
 obtain⟨i0,hi,hz0,hz1,hz2⟩:=info_parts Tryz.infoSB
 have hrow:=h.b
 have m1:w.cell? ⟨wl,1,none⟩=some (.slice ba bs.length bc):=cell_of h.me rfl
 rw[hnb]at m1 hb hrow
 have hwl:=lt_of_heap h.me
 have mf:∀ i,w.frozen? ⟨wl,i,none⟩=false:=fun i=>free_of h.me
 have HL:=Lib.hid h
 have HNB:=Lib.hid hnb
 have HO:=Lib.hid hl
 rcases hr.2 with ⟨rfl,h0⟩ |⟨g,cap,cur,rfl,hbg,h3,h4,h5,h6,h7⟩
 ·clear hr h hnb hl
  go_enter Tryx.func82,Tryz.ntmps82
  go_wp2_with fail
  go_loopg [5] 0 (fun k i wr=>i=.int .i64 0/\wr=w)
  case atStart=>exact ⟨rfl,rfl⟩
  case round=>
   obtain⟨rfl,rfl⟩:=hrel
   have hR:=HL
   have hrow2:=hrow
   go_wp2_with (at_builtin;refine wpList_append_lies _ rfl _ _ 68 rfl 0 41 i0 (.slice none 0 0) 1 24 Tryx.underlying68 hi hz0 hz1 hz2 rfl (by decide) _ _ _ rfl (hrow2.alloc _) ⟨wr.heap.size,0,none⟩ 1 1 [.slice none 0 0] rfl rfl (World.news_of_block (World.alloc_heap_new wr _)) (by simp[Value.oneCell']) (by omega) ?_ ?_ ?_ (wr.heap.size+1) (by simp) ?_)
   ·unfold maxLen;omega
   ·omega
   ·exact Nat.zero_le _
   intro gg vc' w3 hown' hgrow hat _
   have hc3:Chg (fun k=>(Value.slice ba nb bc).ownBlock=some k) wr w3:=((Chg.refl _ wr).alloc _).grown hgrow fun k hk=>.inl hk
   have hnw:(Value.slice ba nb bc).ownBlock≠some wl:=fun e=>by have h1:=hR.out.bo wl (by rw[HNB.out];exact e);rw[hR.out.own]at h1;cases h1
   have hme3:=(hc3.block _ (lt_of_heap hR.out.me) hnw).trans hR.out.me
   have mf3:∀ i,w3.frozen? ⟨wl,i,none⟩=false:=fun i=>free_of hme3
   have m3:w3.cell? ⟨wl,1,none⟩=some (.slice ba bs.length bc):=cell_of hme3 rfl
   have HOW:=Lib.hid hown'
   have HC3:=Lib.hid hc3
   have HG3:=Lib.hid hgrow
   have HME:=Lib.hid hme3
   clear hown' hc3 hgrow hme3 hnw hrow2
   go_wp2_with fail
   go_end0
   have hs:Chg (fun k=>k=wl) w3 (w3.setCell ⟨wl,1,none⟩ (.slice (some ⟨gg,0,none⟩) (nb+1) vc')):=chg_set _
   have hbwl:∀ k,(Value.slice (some ⟨gg,0,none⟩) (nb+1) vc').ownBlock=some k->(Value.slice ba nb bc).ownBlock=some k\/wr.heap.size<=k:=fun k hk=>by
    simp only[Value.ownBlock,Option.some.injEq]at hk;subst hk;exact hat.imp id fun e=>by omega
   have hne:∀ k,(Value.slice (some ⟨gg,0,none⟩) (nb+1) vc').ownBlock=some k->k≠wl:=fun k hk e=>by
    obtain⟨cur2,hcur⟩:=own_heap HOW.out hk
    rw[e]at hcur
    exact ne_of_heap hcur HME.out (by simp) rfl
   obtain⟨ow',h8,h9⟩:=hR.out.addB (f:=.slice none 0 0) (bv':=.slice (some ⟨gg,0,none⟩) (nb+1) vc') (by rw[HNB.out];exact World.ownsRow_nil _ _ _ _) (fun k hk=>by cases hk) (W:=w3.setCell ⟨wl,1,none⟩ (.slice (some ⟨gg,0,none⟩) (nb+1) vc')) ((HC3.out.mono fun k _ hk=>.inr (by rw[HNB.out];exact hk)).then (hs.mono fun k _ hk=>.inl hk)) (heap_setCell (i:=1) _ HME.out) (by rw[List.length_append,HNB.out];exact ownsRow_chg HOW.out hs fun k hk e=>hne k hk e) fun k hk=>by rw[HNB.out];exact hbwl k hk
   refine⟨ow',_,_,rfl,h8,fun k hk hv=>h9 k (Nat.lt_of_lt_of_le hk (Chg.refl (fun k=>(Value.slice none 0 0).ownBlock=some k) wr).size) hv,?_⟩
   exact (((Chg.refl (fun k=>(Value.slice none 0 0).ownBlock=some k) wr).mono fun k _ hk=>.inr (.inr hk)).then (HC3.out.mono fun k _ hk=>.inr (.inl (by rw[HNB.out];exact hk)))).then (hs.mono fun k _ hk=>.inl hk)
 ·have hgl:ow g=.loose:=hl g rfl
  have hgw:g≠wl:=fun e=>by rw[e,h.own]at hgl;cases hgl
  clear h hnb hl
  have hcap:=h5
  unfold maxLen at hcap
  go_enter Tryx.func82,Tryz.ntmps82
  go_wp2_with fail
  go_loopg [5] cap (fun k i wr=>∃ (j:Nat) (cur':Array Value),k=cap - j/\j<=cap/\i=.int .i64 j/\Hid (Chg (fun k=>k=g) w wr/\wr.heap[g]?=some (.cells cur' 5 (0,0))/\cur'.size=cap/\∀ i,i<j->cur'[i]?=some (.int .u8 ((nb % 256:Nat):Int))))
  case atStart=>exact ⟨0,cur,by simp,by omega,rfl,Lib.hid ⟨Chg.refl _ _,h3,by omega,fun i hi=>by omega⟩⟩
  case round=>
   obtain⟨j,cur',rfl,hj,rfl,hC⟩:=hrel
   obtain⟨hC1,hC2,hC3,hC4⟩:=hC.out
   have hR:=Lib.hid (HL.out.chg hC1 fun k hk=>hk ▸ hgl)
   have m2:wr.cell? ⟨wl,1,none⟩=some (.slice ba nb bc):=by rw[<-HNB.out];exact cell_of hR.out.me rfl
   by_cases hlt:j<cap
   ·have hltI:(j:Int)<(cap:Int):=by omega
    have hj0:(0:Int)<=(j:Int):=by omega
    have gf:∀ i,wr.frozen? ⟨g,i,none⟩=false:=fun i=>free_of hC2
    obtain⟨x0,hx0⟩:∃ x,cur'[j]?=some x:=⟨_,Array.getElem?_eq_getElem (by omega)⟩
    have gc:wr.cell? ⟨g,j,none⟩=some x0:=cell_of hC2 hx0
    obtain⟨b8,hb8⟩:∃ b8,((nb % 256:Nat):Int)=b8:=⟨_,rfl⟩
    have hmod:IntKind.u8.wrap (nb:Int)=b8:=by rw[IntKind.wrap_u8];omega
    have HB8:=Lib.hid hb8
    clear hC1 hC2 hC3 hC4 hb8 hx0
    go_wp2_with fail
    go_roundg (cap - (j+1))
    case measure=>omega
    case rel=>
     obtain⟨hC1,hC2,hC3,hC4⟩:=hC.out
     refine⟨j+1,cur'.setIfInBounds j (.int .u8 b8),rfl,by omega,by go_num,Lib.hid ⟨hC1.then (chg_set _),heap_setCell (i:=j) _ hC2,by simpa using hC3,fun i hi=>?_⟩⟩
     rw[Array.getElem?_setIfInBounds]
     split
     ·rw[if_pos (by omega),HB8.out]
     ·exact hC4 i (by omega)
   ·obtain rfl:j=cap:=by omega
    have hrow2:=hR.out.b
    rw[HNB.out]at hrow2
    have hfr:=fill_row hC2 hC3 h5 hC4
    have HFR:=Lib.hid hfr
    clear hC1 hC2 hC3 hC4 hfr
    go_wp2_with (at_builtin;refine wpList_append_lies _ rfl _ _ 68 rfl 0 41 i0 (.slice none 0 0) 1 24 Tryx.underlying68 hi hz0 hz1 hz2 rfl (by decide) _ _ _ rfl (hrow2.alloc _) ⟨wr.heap.size,0,none⟩ 1 1 [.slice (some ⟨g,0,none⟩) j j] rfl rfl (World.news_of_block (World.alloc_heap_new wr _)) (by simp[Value.oneCell']) (by omega) ?_ ?_ ?_ (wr.heap.size+1) (by simp) ?_)
    ·unfold maxLen;omega
    ·omega
    ·exact Nat.zero_le _
    intro gg vc' w3 hown' hgrow hat _
    have hc3:Chg (fun k=>(Value.slice ba nb bc).ownBlock=some k) wr w3:=((Chg.refl _ wr).alloc _).grown hgrow fun k hk=>.inl hk
    have hnw:(Value.slice ba nb bc).ownBlock≠some wl:=fun e=>by have h1:=hR.out.bo wl (by rw[HNB.out];exact e);rw[hR.out.own]at h1;cases h1
    have hme3:=(hc3.block _ (lt_of_heap hR.out.me) hnw).trans hR.out.me
    have mf3:∀ i,w3.frozen? ⟨wl,i,none⟩=false:=fun i=>free_of hme3
    have m3:w3.cell? ⟨wl,1,none⟩=some (.slice ba bs.length bc):=cell_of hme3 rfl
    have HOW:=Lib.hid hown'
    have HC3:=Lib.hid hc3
    have HG3:=Lib.hid hgrow
    have HME:=Lib.hid hme3
    clear hown' hc3 hgrow hme3 hnw hrow2
    go_wp2_with fail
    go_end0
    have hs:Chg (fun k=>k=wl) w3 (w3.setCell ⟨wl,1,none⟩ (.slice (some ⟨gg,0,none⟩) (nb+1) vc')):=chg_set _
    have hbwl:∀ k,(Value.slice (some ⟨gg,0,none⟩) (nb+1) vc').ownBlock=some k->(Value.slice ba nb bc).ownBlock=some k\/wr.heap.size<=k:=fun k hk=>by
     simp only[Value.ownBlock,Option.some.injEq]at hk;subst hk;exact hat.imp id fun e=>by omega
    have hne:∀ k,(Value.slice (some ⟨gg,0,none⟩) (nb+1) vc').ownBlock=some k->k≠wl:=fun k hk e=>by
     obtain⟨cur2,hcur⟩:=own_heap HOW.out hk
     rw[e]at hcur
     exact ne_of_heap hcur HME.out (by simp) rfl
    obtain⟨ow',h8,h9⟩:=hR.out.addB (f:=.slice (some ⟨g,0,none⟩) j j) (bv':=.slice (some ⟨gg,0,none⟩) (nb+1) vc') (by rw[HNB.out];exact HFR.out) (fun k hk=>by cases hk;exact hgl) (W:=w3.setCell ⟨wl,1,none⟩ (.slice (some ⟨gg,0,none⟩) (nb+1) vc')) ((HC3.out.mono fun k _ hk=>.inr (by rw[HNB.out];exact hk)).then (hs.mono fun k _ hk=>.inl hk)) (heap_setCell (i:=1) _ HME.out) (by rw[List.length_append,HNB.out];exact ownsRow_chg HOW.out hs fun k hk e=>hne k hk e) fun k hk=>by rw[HNB.out];exact hbwl k hk
    refine⟨ow',_,_,rfl,h8,fun k hk hv=>h9 k (Nat.lt_of_lt_of_le hk (hC.out.1.mono fun k _ hk=>show (Value.slice (some ⟨g,0,none⟩) n j).ownBlock=some k by rw[hk];rfl).size) hv,?_⟩
    exact (((hC.out.1.mono fun k _ hk=>show (Value.slice (some ⟨g,0,none⟩) n j).ownBlock=some k by rw[hk];rfl).mono fun k _ hk=>.inr (.inr hk)).then (HC3.out.mono fun k _ hk=>.inr (.inl (by rw[HNB.out];exact hk)))).then (hs.mono fun k _ hk=>.inl hk)
theorem owned_l(h:LB wb w wl ow qv bv iv ps bs is)(hb:is.length<=1000000){base n:Nat}{v:Value}{xs:List Value}(hr:w.ownsRow base 3 1 v n xs)(hl:∀ k,v.ownBlock=some k->ow k=.loose):
  Calls Tryx.prog 89 #[ptr wl,v] w fun y w'=>∃ ow' zv' f,y=.returned (.tuple #[])/\LB wb w' wl ow' qv bv zv' ps bs (is ++ [f])/\(∀ k,k<w.heap.size->v.ownBlock≠some k->ow' k=ow k)/\Chg (fun k=>k=wl\/iv.ownBlock=some k\/v.ownBlock=some k) w w':=by
 obtain⟨ba,bc,rfl⟩:=own_slice h.i
 obtain⟨nb,hnb⟩:∃ nb,is.length=nb:=⟨_,rfl⟩
 obtain⟨i0,hi,hz0,hz1,hz2⟩:=info_parts Tryz.infoSI
 have hrow:=h.i
 have m1:w.cell? ⟨wl,2,none⟩=some (.slice ba is.length bc):=cell_of h.me rfl
 rw[hnb]at m1 hb hrow
 have hwl:=lt_of_heap h.me
 have mf:∀ i,w.frozen? ⟨wl,i,none⟩=false:=fun i=>free_of h.me
 have HL:=Lib.hid h
 have HNB:=Lib.hid hnb
 have HO:=Lib.hid hl
 rcases hr.2 with ⟨rfl,h0⟩ |⟨g,cap,cur,rfl,hbg,h3,h4,h5,h6,h7⟩
 ·clear hr h hnb hl
  go_enter Tryx.func89,Tryz.ntmps89
  go_wp2_with fail
  go_loopg [5] 0 (fun k i wr=>i=.int .i64 0/\wr=w)
  case atStart=>exact ⟨rfl,rfl⟩
  case round=>
   obtain⟨rfl,rfl⟩:=hrel
   have hR:=HL
   have hrow2:=hrow
   go_wp2_with (at_builtin;refine wpList_append_lies _ rfl _ _ 69 rfl 0 24 i0 (.slice none 0 0) 1 24 Tryx.underlying69 hi hz0 hz1 hz2 rfl (by decide) _ _ _ rfl (hrow2.alloc _) ⟨wr.heap.size,0,none⟩ 1 1 [.slice none 0 0] rfl rfl (World.news_of_block (World.alloc_heap_new wr _)) (by simp[Value.oneCell']) (by omega) ?_ ?_ ?_ (wr.heap.size+1) (by simp) ?_)
   ·unfold maxLen;omega
   ·omega
   ·exact Nat.zero_le _
   intro gg vc' w3 hown' hgrow hat _
   have hc3:Chg (fun k=>(Value.slice ba nb bc).ownBlock=some k) wr w3:=((Chg.refl _ wr).alloc _).grown hgrow fun k hk=>.inl hk
   have hnw:(Value.slice ba nb bc).ownBlock≠some wl:=fun e=>by have h1:=hR.out.io wl (by rw[HNB.out];exact e);rw[hR.out.own]at h1;cases h1
   have hme3:=(hc3.block _ (lt_of_heap hR.out.me) hnw).trans hR.out.me
   have mf3:∀ i,w3.frozen? ⟨wl,i,none⟩=false:=fun i=>free_of hme3
   have m3:w3.cell? ⟨wl,2,none⟩=some (.slice ba is.length bc):=cell_of hme3 rfl
   have HOW:=Lib.hid hown'
   have HC3:=Lib.hid hc3
   have HG3:=Lib.hid hgrow
   have HME:=Lib.hid hme3
   clear hown' hc3 hgrow hme3 hnw hrow2
   go_wp2_with fail
   go_end0
   have hs:Chg (fun k=>k=wl) w3 (w3.setCell ⟨wl,2,none⟩ (.slice (some ⟨gg,0,none⟩) (nb+1) vc')):=chg_set _
   have hbwl:∀ k,(Value.slice (some ⟨gg,0,none⟩) (nb+1) vc').ownBlock=some k->(Value.slice ba nb bc).ownBlock=some k\/wr.heap.size<=k:=fun k hk=>by
    simp only[Value.ownBlock,Option.some.injEq]at hk;subst hk;exact hat.imp id fun e=>by omega
   have hne:∀ k,(Value.slice (some ⟨gg,0,none⟩) (nb+1) vc').ownBlock=some k->k≠wl:=fun k hk e=>by
    obtain⟨cur2,hcur⟩:=own_heap HOW.out hk
    rw[e]at hcur
    exact ne_of_heap hcur HME.out (by simp) rfl
   obtain⟨ow',h8,h9⟩:=hR.out.addI (f:=.slice none 0 0) (zv':=.slice (some ⟨gg,0,none⟩) (nb+1) vc') (by rw[HNB.out];exact World.ownsRow_nil _ _ _ _) (fun k hk=>by cases hk) (W:=w3.setCell ⟨wl,2,none⟩ (.slice (some ⟨gg,0,none⟩) (nb+1) vc')) ((HC3.out.mono fun k _ hk=>.inr (by rw[HNB.out];exact hk)).then (hs.mono fun k _ hk=>.inl hk)) (heap_setCell (i:=2) _ HME.out) (by rw[List.length_append,HNB.out];exact ownsRow_chg HOW.out hs fun k hk e=>hne k hk e) fun k hk=>by rw[HNB.out];exact hbwl k hk
   refine⟨ow',_,_,rfl,h8,fun k hk hv=>h9 k (Nat.lt_of_lt_of_le hk (Chg.refl (fun k=>(Value.slice none 0 0).ownBlock=some k) wr).size) hv,?_⟩
   exact (((Chg.refl (fun k=>(Value.slice none 0 0).ownBlock=some k) wr).mono fun k _ hk=>.inr (.inr hk)).then (HC3.out.mono fun k _ hk=>.inr (.inl (by rw[HNB.out];exact hk)))).then (hs.mono fun k _ hk=>.inl hk)
 ·have hgl:ow g=.loose:=hl g rfl
  have hgw:g≠wl:=fun e=>by rw[e,h.own]at hgl;cases hgl
  clear h hnb hl
  have hcap:=h5
  unfold maxLen at hcap
  go_enter Tryx.func89,Tryz.ntmps89
  go_wp2_with fail
  go_loopg [5] cap (fun k i wr=>∃ (j:Nat) (cur':Array Value),k=cap - j/\j<=cap/\i=.int .i64 j/\Hid (Chg (fun k=>k=g) w wr/\wr.heap[g]?=some (.cells cur' 3 (0,0))/\cur'.size=cap/\∀ i,i<j->cur'[i]?=some (.int .i64 (-(nb:Int)))))
  case atStart=>exact ⟨0,cur,by simp,by omega,rfl,Lib.hid ⟨Chg.refl _ _,h3,by omega,fun i hi=>by omega⟩⟩
  case round=>
   obtain⟨j,cur',rfl,hj,rfl,hC⟩:=hrel
   obtain⟨hC1,hC2,hC3,hC4⟩:=hC.out
   have hR:=Lib.hid (HL.out.chg hC1 fun k hk=>hk ▸ hgl)
   have m2:wr.cell? ⟨wl,2,none⟩=some (.slice ba nb bc):=by rw[<-HNB.out];exact cell_of hR.out.me rfl
   by_cases hlt:j<cap
   ·have hltI:(j:Int)<(cap:Int):=by omega
    have hj0:(0:Int)<=(j:Int):=by omega
    have gf:∀ i,wr.frozen? ⟨g,i,none⟩=false:=fun i=>free_of hC2
    obtain⟨x0,hx0⟩:∃ x,cur'[j]?=some x:=⟨_,Array.getElem?_eq_getElem (by omega)⟩
    have gc:wr.cell? ⟨g,j,none⟩=some x0:=cell_of hC2 hx0
    obtain⟨b8,hb8⟩:∃ b8:Int,-(nb:Int)=b8:=⟨_,rfl⟩
    have hmod:IntKind.i64.wrap (-(nb:Int))=b8:=by rw[IntKind.wrap_i64];omega
    have HB8:=Lib.hid hb8
    clear hC1 hC2 hC3 hC4 hb8 hx0
    go_wp2_with fail
    go_roundg (cap - (j+1))
    case measure=>omega
    case rel=>
     obtain⟨hC1,hC2,hC3,hC4⟩:=hC.out
     refine⟨j+1,cur'.setIfInBounds j (.int .i64 b8),rfl,by omega,by go_num,Lib.hid ⟨hC1.then (chg_set _),heap_setCell (i:=j) _ hC2,by simpa using hC3,fun i hi=>?_⟩⟩
     rw[Array.getElem?_setIfInBounds]
     split
     ·rw[if_pos (by omega),HB8.out]
     ·exact hC4 i (by omega)
   ·obtain rfl:j=cap:=by omega
    have hrow2:=hR.out.i
    rw[HNB.out]at hrow2
    have hfr:=fill_row hC2 hC3 h5 hC4
    have HFR:=Lib.hid hfr
    clear hC1 hC2 hC3 hC4 hfr
    go_wp2_with (at_builtin;refine wpList_append_lies _ rfl _ _ 69 rfl 0 24 i0 (.slice none 0 0) 1 24 Tryx.underlying69 hi hz0 hz1 hz2 rfl (by decide) _ _ _ rfl (hrow2.alloc _) ⟨wr.heap.size,0,none⟩ 1 1 [.slice (some ⟨g,0,none⟩) j j] rfl rfl (World.news_of_block (World.alloc_heap_new wr _)) (by simp[Value.oneCell']) (by omega) ?_ ?_ ?_ (wr.heap.size+1) (by simp) ?_)
    ·unfold maxLen;omega
    ·omega
    ·exact Nat.zero_le _
    intro gg vc' w3 hown' hgrow hat _
    have hc3:Chg (fun k=>(Value.slice ba nb bc).ownBlock=some k) wr w3:=((Chg.refl _ wr).alloc _).grown hgrow fun k hk=>.inl hk
    have hnw:(Value.slice ba nb bc).ownBlock≠some wl:=fun e=>by have h1:=hR.out.io wl (by rw[HNB.out];exact e);rw[hR.out.own]at h1;cases h1
    have hme3:=(hc3.block _ (lt_of_heap hR.out.me) hnw).trans hR.out.me
    have mf3:∀ i,w3.frozen? ⟨wl,i,none⟩=false:=fun i=>free_of hme3
    have m3:w3.cell? ⟨wl,2,none⟩=some (.slice ba is.length bc):=cell_of hme3 rfl
    have HOW:=Lib.hid hown'
    have HC3:=Lib.hid hc3
    have HG3:=Lib.hid hgrow
    have HME:=Lib.hid hme3
    clear hown' hc3 hgrow hme3 hnw hrow2
    go_wp2_with fail
    go_end0
    have hs:Chg (fun k=>k=wl) w3 (w3.setCell ⟨wl,2,none⟩ (.slice (some ⟨gg,0,none⟩) (nb+1) vc')):=chg_set _
    have hbwl:∀ k,(Value.slice (some ⟨gg,0,none⟩) (nb+1) vc').ownBlock=some k->(Value.slice ba nb bc).ownBlock=some k\/wr.heap.size<=k:=fun k hk=>by
     simp only[Value.ownBlock,Option.some.injEq]at hk;subst hk;exact hat.imp id fun e=>by omega
    have hne:∀ k,(Value.slice (some ⟨gg,0,none⟩) (nb+1) vc').ownBlock=some k->k≠wl:=fun k hk e=>by
     obtain⟨cur2,hcur⟩:=own_heap HOW.out hk
     rw[e]at hcur
     exact ne_of_heap hcur HME.out (by simp) rfl
    obtain⟨ow',h8,h9⟩:=hR.out.addI (f:=.slice (some ⟨g,0,none⟩) j j) (zv':=.slice (some ⟨gg,0,none⟩) (nb+1) vc') (by rw[HNB.out];exact HFR.out) (fun k hk=>by cases hk;exact hgl) (W:=w3.setCell ⟨wl,2,none⟩ (.slice (some ⟨gg,0,none⟩) (nb+1) vc')) ((HC3.out.mono fun k _ hk=>.inr (by rw[HNB.out];exact hk)).then (hs.mono fun k _ hk=>.inl hk)) (heap_setCell (i:=2) _ HME.out) (by rw[List.length_append,HNB.out];exact ownsRow_chg HOW.out hs fun k hk e=>hne k hk e) fun k hk=>by rw[HNB.out];exact hbwl k hk
    refine⟨ow',_,_,rfl,h8,fun k hk hv=>h9 k (Nat.lt_of_lt_of_le hk (hC.out.1.mono fun k _ hk=>show (Value.slice (some ⟨g,0,none⟩) n j).ownBlock=some k by rw[hk];rfl).size) hv,?_⟩
    exact (((hC.out.1.mono fun k _ hk=>show (Value.slice (some ⟨g,0,none⟩) n j).ownBlock=some k by rw[hk];rfl).mono fun k _ hk=>.inr (.inr hk)).then (HC3.out.mono fun k _ hk=>.inr (.inl (by rw[HNB.out];exact hk)))).then (hs.mono fun k _ hk=>.inl hk)
end
def oBits(s:ByteArray):List Bool:=s.data.toList.map fun b=>b.toNat % 2 == 1
theorem oBits_len(s:ByteArray):(oBits s).length=s.size:=by
 unfold oBits
 rw[List.length_map,Array.length_toList]
 rfl
theorem oBits_succ{s:ByteArray}{j:Nat}(hj:j<s.size):(oBits s).take (j+1)=(oBits s).take j ++ [s[j].toNat % 2 == 1]:=by
 have h:j<(oBits s).length:=by rw[oBits_len];exact hj
 rw[List.take_succ_eq_append_getElem h]
 congr 2
 simp[oBits]
 rfl
theorem Tryz.infoBL:(Tryx.prog.info? 4).map (fun i=>(i.zero,i.size,i.bytes))=some (some (.bool false),1,1):=by kernel_rfl
theorem bits_l(k:ByteArray)(w:World)(hkz:k.size<=1000000):Calls Tryx.prog 93 #[.string k] w fun y w'=>∃ v,y=.returned v/\w'.ownsRow w.heap.size 4 1 v k.size ((oBits k).map Value.bool)/\Below w.heap.size w w':=by
 obtain⟨i0,hi,hz0,hz1,hz2⟩:=info_parts Tryz.infoBL
 go_enter Tryx.func93,Tryz.ntmps93
 go_wp2_with fail
 go_loopg [3,4] k.size (fun kk lv iv wx=>∃ (j2:Nat),kk=k.size - j2/\j2<=k.size/\iv=.int .i64 j2/\wx.ownsRow w.heap.size 4 1 lv j2 (((oBits k).take j2).map Value.bool)/\Below w.heap.size w wx)
 case atStart=>exact ⟨0,by simp,by omega,rfl,World.ownsRow_nil _ _ _ _,Below.refl _ _⟩
 case round=>
  obtain⟨j2,rfl,hj2,rfl,hrl,hBl⟩:=hrel
  by_cases hl2:j2<k.size
  ·have hl2I:(j2:Int)<(k.size:Int):=by omega
   have g2:(0:Int)<=(j2:Int):=by omega
   have hsucc:=oBits_succ hl2
   obtain⟨b,hb⟩:∃ b:UInt8,k[j2]=b:=⟨_,rfl⟩
   rw[hb]at hsucc
   have hbn:=b.toNat_lt
   obtain⟨m2,hm2⟩:∃ m2,b.toNat % 2=m2:=⟨_,rfl⟩
   have hbr:((b.toNat:Int)).tmod 2=(m2:Int):=by rw[Int.tmod_eq_emod_of_nonneg (by omega)];omega
   rw[hm2]at hsucc
   have hmm:m2=0\/m2=1:=by omega
   have HSU:=Lib.hid hsucc
   have hszl:=hBl.size
   clear hsucc hm2
   rcases hmm with rfl | rfl
   all_goals
    go_wp2_with (at_builtin;refine wpList_append_own _ rfl _ _ 59 rfl w.heap.size 4 i0 (.bool false) 1 1 Tryx.underlying59 hi hz0 hz1 hz2 rfl (by decide) _ _ _ rfl (hrl.alloc _) ⟨wr.heap.size,0,none⟩ 1 1 [.bool _] rfl rfl (World.news_of_block (World.alloc_heap_new wr _)) (by simp[Value.oneCell']) ?_ ?_ ?_ ?_)
    ·unfold maxLen;omega
    ·omega
    ·simp;omega
    intro v' w4 hown' hgrow _
    have hB4:Below w.heap.size w w4:=(hBl.alloc hBl.size _).grown hgrow (by simp;omega) (fun k ek=>(hrl.lt k ek).1)
    have HO:=Lib.hid hown'
    clear hown' hgrow hrl
    go_wp2
    go_roundg (k.size - (j2+1))
    case measure=>omega
    case rel=>exact ⟨j2+1,rfl,by omega,by go_num,by rw[HSU.out,List.map_append,List.map_take];exact HO.out,hB4⟩
  ·obtain rfl:j2=k.size:=by omega
   have hall:(oBits k).take k.size=oBits k:=List.take_of_length_le (by rw[oBits_len];exact Nat.le_refl _)
   rw[hall]at hrl
   obtain⟨la,lc,rfl⟩:=own_slice hrl
   have HRL:=Lib.hid hrl
   clear hrl hall
   go_wp2_with fail
   go_ret
   exact⟨_,rfl,HRL.out,hBl⟩
theorem still_l(k:ByteArray)(w:World)(hkz:k.size<=1000000){base:Nat}{v:Value}(hv:w.ownsRow base 4 1 v k.size ((oBits k).map Value.bool)):Calls Tryx.prog 95 #[v,.string k] w fun y w'=>y=.returned (.bool true)/\Below w.heap.size w w':=by
 obtain⟨va,vc,rfl⟩:=own_slice hv
 have HV:=Lib.hid hv
 clear hv
 go_enter Tryx.func95,Tryz.ntmps95
 go_wp2_with fail
 go_loopg [5] k.size (fun kk iv wx=>∃ (j2:Nat),kk=k.size - j2/\j2<=k.size/\iv=.int .i64 j2/\Hid (Below w.heap.size w wx))
 case atStart=>exact ⟨0,by simp,by omega,rfl,Lib.hid (Below.refl _ _)⟩
 case round=>
  obtain⟨j2,rfl,hj2,rfl,hBl⟩:=hrel
  by_cases hl2:j2<k.size
  ·have hl2I:(j2:Int)<(k.size:Int):=by omega
   have g2:(0:Int)<=(j2:Int):=by omega
   have hat:((oBits k).map Value.bool)[j2]?=some (.bool (k[j2].toNat % 2 == 1)):=by
    have hsucc:=oBits_succ hl2
    have hl:j2<(oBits k).length:=by rw[oBits_len];exact hl2
    rw[List.take_succ_eq_append_getElem hl]at hsucc
    have e:=List.append_cancel_left hsucc
    simp only[List.cons.injEq,and_true]at e
    rw[List.getElem?_map,List.getElem?_eq_getElem hl,e]
    rfl
   obtain⟨b,hb⟩:∃ b:UInt8,k[j2]=b:=⟨_,rfl⟩
   rw[hb]at hat
   have hbn:=b.toNat_lt
   obtain⟨m2,hm2⟩:∃ m2,b.toNat % 2=m2:=⟨_,rfl⟩
   have hbr:((b.toNat:Int)).tmod 2=(m2:Int):=by rw[Int.tmod_eq_emod_of_nonneg (by omega)];omega
   rw[hm2]at hat
   have hmm:m2=0\/m2=1:=by omega
   obtain⟨g,rfl,_,_,p1⟩:=row_at (ownsRow_chg HV.out (chgB hBl.out fun _=>False) fun _ _ z=>z) hat (by rw[List.length_map,oBits_len])
   clear hat hm2
   rcases hmm with rfl | rfl
   all_goals
    go_wp2_with fail
    go_quiet (fail)
    go_wp2_with fail
    go_roundg (k.size - (j2+1))
    case measure=>omega
    case rel=>exact ⟨j2+1,rfl,by omega,by go_num,Lib.hid (below_drewN hBl.out _)⟩
  ·obtain rfl:j2=k.size:=by omega
   go_wp2_with fail
   go_ret
   exact⟨rfl,hBl.out⟩
section
variable {wb w:World} {wl:Nat} {ow:Nat->Lab} {qv bv iv:Value} {ps:List LP} {bs is:List Value}
theorem command_l(h:LB wb w wl ow qv bv iv ps bs is)(hi:is.length<=1000000)(cw:Bool)(cp cc:Int)(va vb:Value)(ns:List Int){b1 b2:Nat}(ha:w.ownsRow b1 3 1 va ns.length (ns.map fun n=>Value.int .i64 n))(hb:w.ownsRow b2 3 1 vb ns.length (ns.map fun n=>Value.int .i64 n))(hn:ns.length<=1000000)(hl:∀ k,va.ownBlock=some k->ow k=.loose):
  Calls Tryx.prog 85 #[ptr wl,.agg #[.bool cw,.int .i64 cp,.int .i64 cc,va],.agg #[.bool cw,.int .i64 cp,.int .i64 cc,vb]] w fun y w'=>∃ ow' iv' f,y=.returned (.bool true)/\LB wb w' wl ow' qv bv iv' ps bs (is ++ [f])/\(∀ k,k<w.heap.size->va.ownBlock≠some k->ow' k=ow k)/\Chg (fun k=>k=wl\/iv.ownBlock=some k\/va.ownBlock=some k) w w':=by
 obtain⟨aa,ac,rfl⟩:=own_slice ha
 obtain⟨ba,bc,rfl⟩:=own_slice hb
 obtain⟨W0,hW0⟩:∃ W0,(w.alloc (.cells #[.bool cw,.int .i64 cp,.int .i64 cc,.slice aa ns.length ac] 48)).alloc (.cells #[.bool cw,.int .i64 cp,.int .i64 cc,.slice ba ns.length bc] 48)=W0:=⟨_,rfl⟩
 have h1:W0.heap[w.heap.size+1]?=some (.cells #[.bool cw,.int .i64 cp,.int .i64 cc,.slice ba ns.length bc] 48 (0,0)):=by
  rw[<-hW0]
  have:=World.alloc_heap_new (w.alloc (.cells #[.bool cw,.int .i64 cp,.int .i64 cc,.slice aa ns.length ac] 48)) (.cells #[.bool cw,.int .i64 cp,.int .i64 cc,.slice ba ns.length bc] 48)
  rwa [show (w.alloc (.cells #[.bool cw,.int .i64 cp,.int .i64 cc,.slice aa ns.length ac] 48)).heap.size=w.heap.size+1 from by simp]at this
 have hb0:Below w.heap.size w W0:=by rw[<-hW0];exact ((Below.refl _ _).alloc (Nat.le_refl _) _).alloc (by simp) _
 have h0:W0.heap[w.heap.size]?=some (.cells #[.bool cw,.int .i64 cp,.int .i64 cc,.slice aa ns.length ac] 48 (0,0)):=by
  rw[<-hW0]
  refine (Below.heap_alloc _ _ _ (by simp)).trans ?_
  exact World.alloc_heap_new w _
 have a0:W0.cell? ⟨w.heap.size,0,none⟩=some (.bool cw):=cell_of h0 rfl
 have a1:W0.cell? ⟨w.heap.size,1,none⟩=some (.int .i64 cp):=cell_of h0 rfl
 have a2:W0.cell? ⟨w.heap.size,2,none⟩=some (.int .i64 cc):=cell_of h0 rfl
 have a3:W0.cell? ⟨w.heap.size,3,none⟩=some (.slice aa ns.length ac):=cell_of h0 rfl
 have b0:W0.cell? ⟨w.heap.size+1,0,none⟩=some (.bool cw):=cell_of h1 rfl
 have b1:W0.cell? ⟨w.heap.size+1,1,none⟩=some (.int .i64 cp):=cell_of h1 rfl
 have b2:W0.cell? ⟨w.heap.size+1,2,none⟩=some (.int .i64 cc):=cell_of h1 rfl
 have b3:W0.cell? ⟨w.heap.size+1,3,none⟩=some (.slice ba ns.length bc):=cell_of h1 rfl
 have HL:=Lib.hid (h.below hb0)
 have HA:=Lib.hid (ownsRow_chg ha (chgB hb0 fun _=>False) fun _ _ z=>z)
 have HS:=Lib.hid (sameInts_l W0 _ _ ns _ _ HA.out (ownsRow_chg hb (chgB hb0 fun _=>False) fun _ _ z=>z) hn)
 have HW0:=Lib.hid hW0
 have HB0:=Lib.hid hb0
 have HLO:=Lib.hid hl
 have l1:=lt_of_heap h1
 clear h ha hb hW0 hb0 h0 h1 hl
 go_enter Tryx.func85,Tryz.ntmps85
 go_upto_region 1 with fail
 rw[HW0.out]
 go_wp2_with fail
 refine HS.out.mono ?_
 rintro y w2 ⟨rfl,hB2⟩
 have l0:w.heap.size<W0.heap.size:=by omega
 have c0:w2.cell? ⟨w.heap.size,0,none⟩=some (.bool cw):=(hB2.cell (p:=⟨w.heap.size,0,none⟩) l0).trans a0
 have c1:w2.cell? ⟨w.heap.size,1,none⟩=some (.int .i64 cp):=(hB2.cell (p:=⟨w.heap.size,1,none⟩) l0).trans a1
 have c2:w2.cell? ⟨w.heap.size,2,none⟩=some (.int .i64 cc):=(hB2.cell (p:=⟨w.heap.size,2,none⟩) l0).trans a2
 have c3:w2.cell? ⟨w.heap.size,3,none⟩=some (.slice aa ns.length ac):=(hB2.cell (p:=⟨w.heap.size,3,none⟩) l0).trans a3
 have d0:w2.cell? ⟨w.heap.size+1,0,none⟩=some (.bool cw):=(hB2.cell (p:=⟨w.heap.size+1,0,none⟩) l1).trans b0
 have d1:w2.cell? ⟨w.heap.size+1,1,none⟩=some (.int .i64 cp):=(hB2.cell (p:=⟨w.heap.size+1,1,none⟩) l1).trans b1
 have d2:w2.cell? ⟨w.heap.size+1,2,none⟩=some (.int .i64 cc):=(hB2.cell (p:=⟨w.heap.size+1,2,none⟩) l1).trans b2
 have hLL:LB wb w2 wl ow qv bv iv ps bs is:=HL.out.below hB2
 have HO:=Lib.hid (owned_l hLL hi (ownsRow_chg HA.out (chgB hB2 fun _=>False) fun _ _ z=>z) HLO.out)
 have HB2:=Lib.hid (HB0.out.trans (hB2.mono HB0.out.size))
 clear a0 a1 a2 a3 b0 b1 b2 b3 hLL hB2
 cases cw
 all_goals
  go_wp2_with fail
  refine HO.out.mono ?_
  rintro y w3 ⟨ow',iv',f,rfl,h8,h9,h10⟩
  have H8:=Lib.hid h8
  clear h8
  go_wp2_with fail
  go_ret
  exact⟨ow',iv',f,rfl,H8.out,fun k hk hv=>h9 k (Nat.lt_of_lt_of_le hk HB2.out.size) hv,(chgB HB2.out _).then h10⟩
end
end
end Go.Proofs.YticobikhndlejaaGreatDoor
