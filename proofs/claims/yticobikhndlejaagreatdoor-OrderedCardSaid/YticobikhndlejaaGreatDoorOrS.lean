/- Part 19 of the proof (see the last part). -/
import Derived.Test.YticobikhndlejaaGreatDoorOrR
import Derived.LaidHandle
import Derived.Stop.Joined
namespace Go.Proofs.YticobikhndlejaaGreatDoor
section
open Go.RowKit Go.Shelf Go.Lib
set_option maxRecDepth 100000
theorem cancel_none(q:Nat)(s:Sta)(F:Nat->Prop)(w:World)(n:Int)(h:QAt w q s F)(hf:findE s.es n=none):
  Calls Tryx.prog 35 #[ptr q,.int .i64 n] w fun x w'=>x=.returned (errK 5)/\w'=w:=by
 obtain⟨tb,mb,clock,fv,hq,hF⟩:=h
 have c1:=hq.c1
 have HQ:=Lib.hid hq
 have hfc:=find_any tb mb clock s.last s.held n s.es
 rw[hf]at hfc
 have HC:=Lib.hid hfc
 clear hq hF hfc hf
 go_enter Tryx.func35,Tryz.ntmps35
 go_wp2_with fail
 refine (HC.out w HQ.out.tab).mono ?_
 rintro x w1 ⟨rfl,rfl⟩
 dsimp only
 go_wp2_with fail
 go_ret
 exact⟨rfl,rfl⟩
theorem cancel_done(q:Nat)(s:Sta)(F:Nat->Prop)(w:World)(n:Int)(e:Ent)(h:QAt w q s F)(hf:findE s.es n=some e)(hs:2<=e.r.state):
  Calls Tryx.prog 35 #[ptr q,.int .i64 n] w fun x w'=>∃ b,x=.returned (errR b)/\ReqErr w' b n e.r.tries 9/\w.heap.size<=b/\Below w.heap.size w w':=by
 obtain⟨tb,mb,clock,fv,hq,hF⟩:=h
 obtain⟨hem,hen,het⟩:=findE_some hf
 have c1:=hq.c1
 have hreq:=hq.tab.reqs e hem
 have c7:=hreq.at.c7
 have HQ:=Lib.hid hq
 have hfc:=find_any tb mb clock s.last s.held n s.es
 rw[hf]at hfc
 have HC:=Lib.hid hfc
 have HFL:=Lib.hid (fail_any e.p e.r 9 w hreq)
 have HN:=Lib.hid hen
 have hge:e.r.state>=2:=hs
 clear hq hF hfc hf hreq hem hen het
 go_enter Tryx.func35,Tryz.ntmps35
 go_wp2_with fail
 refine (HC.out w HQ.out.tab).mono ?_
 rintro x w1 ⟨rfl,rfl⟩
 dsimp only
 go_wp2_with fail
 refine HFL.out.mono ?_
 rintro x w2 ⟨b,rfl,hE,hb,hB2⟩
 have HE:=Lib.hid hE
 have HB2:=Lib.hid hB2
 clear hE hB2
 go_wp2_with fail
 go_ret
 exact⟨b,rfl,by have:=HE.out;rw[HN.out]at this;exact this,hb,HB2.out⟩
def giveR(r:Req):Req:={r with state:=4}
theorem foot_upd{q tb mb:Nat}{fv:Value}{s:Sta}{n:Int}{f:Req->Req}{k:Nat}(hk:QFoot q tb mb fv {s with es:=updE s.es n f} k):QFoot q tb mb fv s k:=by
 rcases hk with h | h | h | h |⟨x,hx,h⟩ | h
 ·exact .inl h
 ·exact .inr (.inl h)
 ·exact .inr (.inr (.inl h))
 ·exact .inr (.inr (.inr (.inl h)))
 ·obtain⟨y,hy,rfl⟩:=List.mem_map.1 hx
  exact .inr (.inr (.inr (.inr (.inl ⟨y,hy,by rw[h];split <;> rfl⟩))))
 ·exact .inr (.inr (.inr (.inr (.inr h))))
theorem cancel_ok(q:Nat)(s:Sta)(F:Nat->Prop)(w:World)(n:Int)(e:Ent)(h:QAt w q s F)(hf:findE s.es n=some e)(hs:e.r.state<2):
  Calls Tryx.prog 35 #[ptr q,.int .i64 n] w fun x w'=>x=.returned .nilIface/\QAt w' q {s with es:=updE s.es n giveR} F/\Chg F w w':=by
 obtain⟨tb,mb,clock,fv,hq,hF⟩:=h
 obtain⟨hem,hen,het⟩:=findE_some hf
 have c1:=hq.c1
 have hreq:=hq.tab.reqs e hem
 have c7:=hreq.at.c7
 have f7:w.frozen? ⟨e.p,7,none⟩=false:=free_of hreq
 have HQ:=Lib.hid hq
 have hfc:=find_any tb mb clock s.last s.held n s.es
 rw[hf]at hfc
 have HC:=Lib.hid hfc
 have HN:=Lib.hid hen
 have HM:=Lib.hid hem
 have HF:=Lib.hid hF
 have HR:=Lib.hid hreq
 have hge:¬e.r.state>=2:=by omega
 clear hq hF hfc hf hreq hem hen het
 go_enter Tryx.func35,Tryz.ntmps35
 go_wp2_with fail
 refine (HC.out w HQ.out.tab).mono ?_
 rintro x w1 ⟨rfl,rfl⟩
 dsimp only
 go_wp2_with fail
 go_ret
 have hc:Chg (fun k=>k=e.p) w1 (w1.setCell ⟨e.p,7,none⟩ (.int .i64 4)):=chg_set _
 have hT:=HQ.out.tab.upd (W:=w1.setCell ⟨e.p,7,none⟩ (.int .i64 4)) HM.out giveR (fun r=>⟨rfl,rfl⟩) (heap_setCell (i:=7) _ HR.out) hc
 rw[HN.out]at hT
 exact⟨rfl,⟨tb,mb,clock,fv,HQ.out.tabs clock {s with es:=updE s.es n giveR} ⟨rfl,rfl,rfl,rfl⟩ rfl hT hc (fun k hk=>.inr (.inr ⟨e,HM.out,hk⟩)),fun k hk=>HF.out k (foot_upd hk)⟩,hc.mono fun k _ hk=>HF.out k (foot_tabs3 HM.out (.inr (.inr hk)))⟩
theorem plCancel_of(q:Nat)(n k r t:Int)(w:World)(P:Value->World->Prop)
  (hM:Calls Tryx.prog 35 #[ptr q,.int .i64 n] (w.alloc zErr) fun x w'=>∃ err,x=.returned err/\P err w')
  (hP:∀ err w',P err w'->ErrVar w'/\ErrIs w' err k r t/\w'.heap[w.heap.size]?=some zErr):
  Calls Tryx.prog 15 #[ptr q,.int .i64 n] w fun x w'=>∃ err w1,x=.returned (plErr k r t)/\P err w1/\Chg (fun k=>k=w.heap.size) w1 w':=by
 have HM:=Lib.hid hM
 have HP:=Lib.hid hP
 clear hM hP
 go_enter Tryx.func15,Tryz.ntmps15
 go_wp2_with fail
 refine HM.out.mono ?_
 rintro x w1 ⟨err,rfl,hp⟩
 obtain⟨hg,he,hz⟩:=HP.out err w1 hp
 have HT:=Lib.hid (told_any hg he)
 have HPP:=Lib.hid hp
 have HZ:=Lib.hid hz
 clear hp hg he hz
 go_wp2_with fail
 refine HT.out.mono ?_
 rintro x w2 ⟨rfl,hB⟩
 have hz2:w2.heap[w.heap.size]?=some zErr:=(hB.block _ (lt_of_heap HZ.out)).trans HZ.out
 have z0:w2.cell? ⟨w.heap.size,0,none⟩=some (.int .i64 0):=cell_of hz2 rfl
 have z1:w2.cell? ⟨w.heap.size,1,none⟩=some (.int .i64 0):=cell_of hz2 rfl
 have z2:w2.cell? ⟨w.heap.size,2,none⟩=some (.int .i64 0):=cell_of hz2 rfl
 have z3:w2.cell? ⟨w.heap.size,3,none⟩=some (.bool false):=cell_of hz2 rfl
 have zf:∀ i,w2.frozen? ⟨w.heap.size,i,none⟩=false:=fun i=>free_of hz2
 have HB:=Lib.hid hB
 have HZ2:=Lib.hid hz2
 clear hB hz2
 go_wp2_with fail
 obtain⟨e5,hc5⟩:=err_set (W:=w2) (.int .i64 k) (.int .i64 r) (.int .i64 t) (.bool true) HZ2.out
 obtain⟨W5,hW5⟩:∃ W5,((((w2.setCell ⟨w.heap.size,0,none⟩ (.int .i64 k)).setCell ⟨w.heap.size,1,none⟩ (.int .i64 r)).setCell ⟨w.heap.size,2,none⟩ (.int .i64 t)).setCell ⟨w.heap.size,3,none⟩ (.bool true))=W5:=⟨_,rfl⟩
 rw[hW5]at e5 hc5 ⊢
 have y0:W5.cell? ⟨w.heap.size,0,none⟩=some (.int .i64 k):=cell_of e5 rfl
 have y1:W5.cell? ⟨w.heap.size,1,none⟩=some (.int .i64 r):=cell_of e5 rfl
 have y2:W5.cell? ⟨w.heap.size,2,none⟩=some (.int .i64 t):=cell_of e5 rfl
 have y3:W5.cell? ⟨w.heap.size,3,none⟩=some (.bool true):=cell_of e5 rfl
 refine bodyPost_ret (v:=plErr k r t) (by simp[results,Tryz.results15,go_sem,y0,y1,y2,y3]) rfl ⟨err,w1,rfl,HPP.out,(chgB HB.out _).then hc5⟩
section
variable {q:Nat} {t:St} {F:Nat->Prop} {w:World}
theorem cancel_none_p(h:QT w q t F)(hg:ErrVar w)(n:Int)(hf:t.find n=none):
  Calls Tryx.prog 15 #[ptr q,.int .i64 n] w fun x w'=>x=.returned (plErr 5 (-1) 0)/\Below w.heap.size w w':=by
 refine (plCancel_of q n 5 (-1) 0 w (fun err w'=>err=errK 5/\w'=w.alloc zErr) ?_ ?_).mono ?_
 ·obtain⟨s,h1,rfl⟩:=h.alloc zErr
  exact (cancel_none q s _ _ n h1 (er_find_none hf)).mono fun x w' ⟨e1,e2⟩=>⟨_,e1,rfl,e2⟩
 ·rintro err w' ⟨rfl,rfl⟩
  exact⟨hg.alloc _,.kind 5 (by omega),zErr_alloc w⟩
 ·rintro x w' ⟨err,w1,rfl,⟨rfl,rfl⟩,hc⟩
  exact⟨rfl,Chg.below (((Chg.refl (fun _=>False) w).alloc _).trans (hc.mono fun k _ hk=>.inr (by omega)))⟩
theorem cancel_done_p(h:QT w q t F)(hg:ErrVar w)(n:Int)(r:Req)(hf:t.find n=some r)(hs:2<=r.state):
  Calls Tryx.prog 15 #[ptr q,.int .i64 n] w fun x w'=>x=.returned (plErr 9 n r.tries)/\Below w.heap.size w w':=by
 refine (plCancel_of q n 9 n r.tries w (fun err w'=>(∃ b,err=errR b/\ReqErr w' b n r.tries 9)/\Below (w.alloc zErr).heap.size (w.alloc zErr) w') ?_ ?_).mono ?_
 ·obtain⟨s,h1,rfl⟩:=h.alloc zErr
  obtain⟨e,he,rfl⟩:=er_find_some hf
  exact (cancel_done q s _ _ n e h1 he hs).mono fun x w' ⟨b,e1,e2,_,e3⟩=>⟨_,e1,⟨b,rfl,e2⟩,e3⟩
 ·rintro err w' ⟨⟨b,rfl,e2⟩,e3⟩
  exact⟨(hg.alloc _).chg (chgB e3 fun _=>False) fun x=>x,.req b n r.tries 9 (by omega) e2,(e3.block _ (by simp)).trans (zErr_alloc w)⟩
 ·rintro x w' ⟨err,w1,rfl,⟨_,e3⟩,hc⟩
  exact⟨rfl,Chg.below (chg_two (F:=fun _=>False) (chgB e3 _) hc (fun _ x=>x) fun k hk=>.inr (by omega))⟩
theorem cancel_ok_p(h:QT w q t F)(hk:t.Ok)(hsm:t.Small)(hg:ErrVar w)(hF:¬F 0)(n:Int)(r:Req)(hf:t.find n=some r)(hs:r.state<2):
  Calls Tryx.prog 15 #[ptr q,.int .i64 n] w fun x w'=>x=.returned (plErr 0 (-1) 0)/\QT w' q (t.give n) F/\Chg F w w':=by
 refine (plCancel_of q n 0 (-1) 0 w (fun err w'=>err=.nilIface/\QT w' q (t.give n) (fun k=>F k/\k<w.heap.size)/\Chg (fun k=>F k/\k<w.heap.size) (w.alloc zErr) w') ?_ ?_).mono ?_
 ·obtain⟨s,h1,rfl⟩:=h.alloc zErr
  obtain⟨e,he,rfl⟩:=er_find_some hf
  exact (cancel_ok q s _ _ n e h1 he hs).mono fun x w' ⟨e1,e2,e3⟩=>⟨_,e1,rfl,⟨_,e2,er_give giveR⟩,e3⟩
 ·rintro err w' ⟨rfl,h1,h2⟩
  exact⟨(hg.alloc _).chg h2 fun x=>hF x.1,.nil,(h2.block _ (by simp) (by omega)).trans (zErr_alloc w)⟩
 ·rintro x w' ⟨err,w1,rfl,⟨rfl,h1,h2⟩,hc⟩
  exact⟨rfl,(h1.kept hc fun k hk e=>by omega).mono fun k hk=>hk.1,chg_two h2 hc (fun k x=>x.1) fun k hk=>.inr (by omega)⟩
end
theorem kpoll_done(wo q:Nat)(rv:Value)(F:Nat->Prop)(t:St)(rs:List KReq)(w:World)(i:Nat)(num:Int)(wrt:Bool)(page:Int)(data:ByteArray)(how:Int)(read:ByteArray)(h:KB w wo q rv F t rs)(hi:rs[i]?=some ⟨num,wrt,page,data,how,read⟩)(hh:how=1\/how=2):
  Calls Tryx.prog 27 #[ptr wo,.int .i64 i] w fun y w'=>y=.returned (.bool true)/\Below w.heap.size w w':=by
 obtain⟨g,cap,cur,rfl,hg2,hg3,hg4,hg5,hg6,hcell⟩:=h.cells hi
 obtain⟨n,hn⟩:∃ n,rs.length=n:=⟨_,rfl⟩
 have hil:i<n:=by rw[<-hn];exact (List.getElem?_eq_some_iff.1 hi).1
 have hiI:(i:Int)<(n:Int):=by omega
 have hi0:(0:Int)<=(i:Int):=by omega
 have p0:w.cell? ⟨g,i*6,none⟩=some (.int .i64 num):=hcell 0 _ rfl
 have p1:w.cell? ⟨g,i*6+1,none⟩=some (.bool wrt):=hcell 1 _ rfl
 have p2:w.cell? ⟨g,i*6+2,none⟩=some (.int .i64 page):=hcell 2 _ rfl
 have p3:w.cell? ⟨g,i*6+3,none⟩=some (.string data):=hcell 3 _ rfl
 have p4:w.cell? ⟨g,i*6+4,none⟩=some (.int .i64 how):=hcell 4 _ rfl
 have p5:w.cell? ⟨g,i*6+5,none⟩=some (.string read):=hcell 5 _ rfl
 have c1:=h.c1
 rw[hn]at c1
 clear h hg2 hg3 hg4 hg5 hg6 hcell hi
 rcases hh with rfl | rfl
 all_goals
  go_enter Tryx.func27,Tryz.ntmps27
  go_wp2_with fail
  go_ret
  exact⟨rfl,by go_grown⟩
theorem set_same{α:Type}:∀ (l:List α) (i:Nat) (a:α),l[i]?=some a->l.set i a=l
 | [],_,_,h=>by simp at h
 | x :: l,0,a,h=>by simp at h;simp[h]
 | x :: l,i+1,a,h=>by simp only[List.set_cons_succ];rw[set_same l i a (by simpa using h)]
def KNew(w:World)(wo q:Nat)(rv:Value)(F:Nat->Prop)(x:KW)(w':World):Prop:=∃ rv' F',KB w' wo q rv' F' x.t x.rs/\(∀ k,KFoot wo rv' F' k->KFoot wo rv F k\/w.heap.size<=k)/\Chg (KFoot wo rv F) w w'
theorem poll_x{w:World}{wo q:Nat}{rv:Value}{F:Nat->Prop}{x:KW}(h1:KB w wo q rv F x.t x.rs)(hw0:ErrVar w)(s1:¬F 0)(hi:KInv x)(hs:x.t.Small)(i:Nat)(hil:i<x.rs.length):
  Calls Tryx.prog 27 #[ptr wo,.int .i64 i] w fun y w'=>y=.returned (.bool true)/\KNew w wo q rv F (x.poll i) w':=by
 obtain⟨⟨num,wrt,page,data,how,read⟩,hr⟩:∃ r,x.rs[i]?=some r:=⟨_,List.getElem?_eq_getElem hil⟩
 have hrm:(⟨num,wrt,page,data,how,read⟩:KReq)∈x.rs:=List.mem_of_getElem? hr
 have hset:=set_same x.rs i _ hr
 unfold KW.poll
 rw[hr]
 simp only
 by_cases hh:how=1\/how=2
 ·rw[if_pos hh]
  refine (kpoll_done wo q rv F x.t x.rs w i num wrt page data how read h1 hr hh).mono ?_
  rintro y w' ⟨rfl,e1⟩
  exact⟨rfl,rv,F,h1.below e1,fun k hk=>.inl hk,chgB e1 _⟩
 rw[if_neg hh]
 have hhow:=hi.how _ hrm
 simp only at hhow
 have hF0:¬(F 0/\0<w.heap.size):=fun x=>s1 x.1
 have fin:∀ (r':KReq) (t':St) (x':KW) (d:Option B4) (tr k rr tt:Int),x'=⟨x.rs.set i r',t'⟩->
   (∀ W,QT W q x.t (fun k=>F k/\k<w.heap.size)->ErrVar W->Calls Tryx.prog 16 #[ptr q,.int .i64 num] W fun y w'=>∃ dv F',y=.returned (.tuple #[.agg #[dv,.int .i64 tr],plErr k rr tt])/\QT w' q t' F'/\(∀ k,F' k->(F k/\k<w.heap.size)\/W.heap.size<=k)/\Chg (fun k=>F k/\k<w.heap.size) W w'/\PD d dv W.heap.size F' w')->
   POut num wrt page data how read d tr k rr tt r'->
   Calls Tryx.prog 27 #[ptr wo,.int .i64 i] w fun y w'=>y=.returned (.bool true)/\KNew w wo q rv F x' w':=by
  rintro r' t' x' d tr k rr tt rfl hP hO
  refine (kpoll_any wo q rv F x.t t' x.rs w i num wrt page data how read r' d tr k rr tt h1 hw0 hr ⟨fun e=>hh (.inl e),fun e=>hh (.inr e)⟩ hP hO).mono ?_
  rintro y w' ⟨rfl,F',e1,e2,e3⟩
  refine⟨rfl,_,_,e1,fun k hk=>?_,e3⟩
  rcases hk with hk | hk | hk
  ·exact (e2 k hk).imp .inl id
  ·exact .inl (.inr (.inl hk))
  ·exact .inl (.inr (.inr hk))
 cases hf:x.t.find num with
 | none=>
   have hgone:=hi.gone hrm hf
   simp only at hgone
   refine fin ⟨num,wrt,page,data,how,read⟩ x.t x none 0 5 (-1) 0 (by rw[hset]) (fun W hq hv=>?_) (.told (by omega))
   refine (poll_none_p hq hv num hf).mono ?_
   rintro y w' ⟨rfl,e1⟩
   exact⟨_,_,rfl,hq.below e1,fun k hk=>.inl hk,chgB e1 _,rfl⟩
 | some o=>
   obtain⟨f1,f2,f3,f4,f5⟩:=hi.find hrm hf
   simp only at f1 f2 f3 f4 f5
   obtain⟨om,on,ot⟩:=find_some hf
   have hok:=hi.ok.a.rs.ok o om
   have hdn:=hi.done o om
   simp only
   by_cases h2:o.state<2
   ·rw[if_pos h2]
    have hst:o.state=0\/o.state=1:=by have:=hok.st;omega
    have hlv:o.live=true:=hst.elim (fun e=>by simp[Req.live,e]) fun e=>by simp[Req.live,hok.uair e]
    have h3':o.tries<=3:=hok.try3 hlv
    refine fin ⟨num,wrt,page,data,how,read⟩ x.t x none 0 6 num o.tries (by rw[hset]) (fun W hq hv=>?_) (.pend _ ⟨hok.tries.1,h3'⟩ (f3.2 (by omega)))
    refine (poll_pend_p hq hv num o hf hst).mono ?_
    rintro y w' ⟨rfl,e1⟩
    exact⟨_,_,rfl,hq.below e1,fun k hk=>.inl hk,chgB e1 _,rfl⟩
   ·rw[if_neg h2]
    have hst:=hok.st
    by_cases e2:o.state=2
    ·have ht1:=hdn.1 e2
     cases hw:o.write with
     | true=>
       refine fin ⟨num,wrt,page,data,1,⟨#[]⟩⟩ (x.t.tell num) _ none o.tries 0 (-1) 0 (by unfold KW.pollR;simp[e2,hw]) (fun W hq hv=>?_) (.write _ ⟨ht1,hok.tries.2⟩ (by rw[<-f4,hw]))
       refine (poll_write_p hq hi.ok hs hv hF0 num o hf e2 hw).mono ?_
       rintro y w' ⟨rfl,e3,e4⟩
       exact⟨_,_,rfl,e3,fun k hk=>.inl hk,e4,rfl⟩
     | false=>
       refine fin ⟨num,wrt,page,data,1,strOfNums [o.data.a,o.data.b,o.data.c,o.data.d]⟩ (x.t.tell num) _ (some o.data) o.tries 0 (-1) 0 (by unfold KW.pollR;simp[e2,hw,bytesOf]) (fun W hq hv=>?_) (.read _ _ ⟨ht1,hok.tries.2⟩ hok.byte (by rw[<-f4,hw]))
       refine (poll_read_p hq hi.ok hs hv hF0 num o hf e2 hw).mono ?_
       rintro y w' ⟨v,F',rfl,e3,e4,e5,e6,e7⟩
       exact⟨_,_,rfl,e3,e4,e6,e5,e7⟩
    ·by_cases e3:o.state=3
     ·refine fin ⟨num,wrt,page,data,2,read⟩ (x.t.tell num) _ none 0 7 num 4 (by unfold KW.pollR;simp[e3]) (fun W hq hv=>?_) .bad
      refine (poll_bad_p hq hi.ok hs hv hF0 num o 7 hf (.inl ⟨e3,rfl⟩)).mono ?_
      rintro y w' ⟨rfl,e4,e5⟩
      exact⟨_,_,by rw[hdn.2 e3],e4,fun k hk=>.inl hk,e5,rfl⟩
     ·have e4:o.state=4:=by omega
      refine fin ⟨num,wrt,page,data,how,read⟩ (x.t.tell num) _ none 0 8 num o.tries (by unfold KW.pollR;simp[e4]) (fun W hq hv=>?_) (.gone _ (by omega))
      refine (poll_bad_p hq hi.ok hs hv hF0 num o 8 hf (.inr ⟨e4,rfl⟩)).mono ?_
      rintro y w' ⟨rfl,e5,e6⟩
      exact⟨_,_,rfl,e5,fun k hk=>.inl hk,e6,rfl⟩
theorem poll_o{w0 w:World}{wo:Nat}{x:KW}(h:KO w0 w wo x)(hg:ErrVar w0)(hi:KInv x)(hs:x.t.Small)(i:Nat)(hil:i<x.rs.length):
  Calls Tryx.prog 27 #[ptr wo,.int .i64 i] w fun y w'=>y=.returned (.bool true)/\KO w0 w' wo (x.poll i):=by
 obtain⟨q,rv,F,h1,h3⟩:=h.ex
 obtain⟨s1,s2,s3⟩:=KO.sides (w:=w) (q:=q) (x:=x) h3 hg
 refine (poll_x h1 (h.err hg) s1 hi hs i hil).mono ?_
 rintro y w' ⟨rfl,rv',F',e1,e2,e3⟩
 exact⟨rfl,KO.of h.below h3 e1 e2 e3⟩
end
section
open Go.RowKit Go.Shelf Go.Lib
set_option maxRecDepth 100000
set_option maxHeartbeats 8000000
theorem flat_one(v:Value)(r':KReq):∀ (rs:List KReq) (i:Nat) (r:KReq),rs[i]?=some r->kCells r'=(kCells r).set 4 v->
  (rs.set i r').flatMap kCells=(rs.flatMap kCells).set (i*6+4) v
 | [],_,_,hi,_=>by simp at hi
 | x :: rs,0,r,hi,h=>by
   simp at hi
   subst hi
   simp only[List.set_cons_zero,List.flatMap_cons,h]
   rw[List.set_append,if_pos (by simp[kCells])]
 | x :: rs,i+1,r,hi,h=>by
   have ih:=flat_one v r' rs i r (by simpa using hi) h
   simp only[List.set_cons_succ,List.flatMap_cons,ih]
   have hl:(kCells x).length=6:=rfl
   rw[List.set_append,if_neg (by omega)]
   congr 2
   omega
theorem KB.how{w:World}{wo q g n cap:Nat}{F:Nat->Prop}{t:St}{rs:List KReq}{i:Nat}{num:Int}{wrt:Bool}{page:Int}{data:ByteArray}{how:Int}{read:ByteArray}(h:KB w wo q (.slice (some ⟨g,0,none⟩) n cap) F t rs)(hi:rs[i]?=some ⟨num,wrt,page,data,how,read⟩)(h':Int):
  KB (w.setCell ⟨g,i*6+4,none⟩ (.int .i64 h')) wo q (.slice (some ⟨g,0,none⟩) n cap) F t (rs.set i ⟨num,wrt,page,data,h',read⟩)/\Chg (fun k=>k=g) w (w.setCell ⟨g,i*6+4,none⟩ (.int .i64 h')):=by
 obtain⟨g',cap',cur,e,hg2,hg3,hg4,hg5,hg6,hcell⟩:=h.cells hi
 simp only[Value.slice.injEq,Option.some.injEq,Addr.mk.injEq]at e
 obtain⟨⟨rfl,_⟩,rfl,rfl⟩:=e
 have hset:Chg (fun k=>k=g) w (w.setCell ⟨g,i*6+4,none⟩ (.int .i64 h')):=(Chg.refl (fun k=>k=g) w).setCell (p:=⟨g,i*6+4,none⟩) (.inl rfl) _
 have hgF:¬F g:=h.nor g rfl
 refine⟨⟨(hset.block wo (lt_of_heap h.blk) fun e=>h.ne rfl e).trans h.blk,⟨?_,.inr ⟨g,cap,cur.setIfInBounds (i*6+4) (.int .i64 h'),?_,Nat.zero_le _,heap_setCell _ hg2,?_,hg4,?_,?_⟩⟩,h.que.kept hset fun k hk e=>hgF (e ▸ hk),h.now,h.nor⟩,hset⟩
 ·rw[flat_len]
 ·simp
 ·simpa using hg3
 ·simp[hg5]
 ·rw[Array.toList_setIfInBounds,List.length_set,List.take_set,hg6]
  exact (flat_one (.int .i64 h') ⟨num,wrt,page,data,h',read⟩ rs i _ hi rfl).symm
inductive COut(num:Int)(wrt:Bool)(page:Int)(data:ByteArray)(how:Int)(read:ByteArray)(air:Bool):Int->Int->Int->KReq->Prop
 | ok (h0:how=0):COut num wrt page data how read air 0 (-1) 0 ⟨num,wrt,page,data,if air then 4 else 3,read⟩
 | no (k r t:Int) (hk:k=9\/k=5):COut num wrt page data how read air k r t ⟨num,wrt,page,data,how,read⟩
theorem kcancel_any(wo q:Nat)(rv:Value)(F:Nat->Prop)(t t':St)(rs:List KReq)(w:World)(i:Nat)(num:Int)(wrt:Bool)(page:Int)(data:ByteArray)(how:Int)(read:ByteArray)(air:Bool)(r':KReq)(k rr tt:Int)(h:KB w wo q rv F t rs)(hg:ErrVar w)(hi:rs[i]?=some ⟨num,wrt,page,data,how,read⟩)
  (hfl:Calls Tryx.prog 75 #[ptr wo,.int .i64 num] w fun y w'=>y=.returned (.bool air)/\Below w.heap.size w w')
  (hP:∀ W,QT W q t (fun k=>F k/\k<w.heap.size)->ErrVar W->Calls Tryx.prog 15 #[ptr q,.int .i64 num] W fun y w'=>y=.returned (plErr k rr tt)/\QT w' q t' (fun k=>F k/\k<w.heap.size)/\Chg (fun k=>F k/\k<w.heap.size) W w')
  (hO:COut num wrt page data how read air k rr tt r'):
  Calls Tryx.prog 43 #[ptr wo,.int .i64 i] w fun y w'=>y=.returned (.bool true)/\KB w' wo q rv (fun k=>F k/\k<w.heap.size) t' (rs.set i r')/\Chg (KFoot wo rv F) w w':=by
 have h:=h.lt
 obtain⟨g,cap,cur,rfl,hg2,hg3,hg4,hg5,hg6,hcell⟩:=h.cells hi
 obtain⟨n,hn⟩:∃ n,rs.length=n:=⟨_,rfl⟩
 have hil:i<n:=by rw[<-hn];exact (List.getElem?_eq_some_iff.1 hi).1
 have hiI:(i:Int)<(n:Int):=by omega
 have hi0:(0:Int)<=(i:Int):=by omega
 have p0:w.cell? ⟨g,i*6,none⟩=some (.int .i64 num):=hcell 0 _ rfl
 have c0:=h.c0
 have c1:=h.c1
 rw[hn]at c1 h
 have hwlt:=lt_of_heap h.blk
 have hglt:=lt_of_heap hg2
 have HFL:=Lib.hid hfl
 have HK:=Lib.hid h
 have HI:=Lib.hid hi
 have HG:=Lib.hid hg
 have HP:=Lib.hid hP
 have HN:=Lib.hid hn
 clear h hg hi hfl hP hg2 hg3 hg4 hg5 hg6 hcell hn
 go_enter Tryx.func43,Tryz.ntmps43
 go_wp2_with fail
 refine HFL.out.mono ?_
 rintro y W0 ⟨rfl,hB0⟩
 have q0:=(hB0.cell (p:=⟨wo,0,none⟩) hwlt).trans c0
 have q1:=(hB0.cell (p:=⟨wo,1,none⟩) hwlt).trans c1
 have q2:=(hB0.cell (p:=⟨g,i*6,none⟩) hglt).trans p0
 have hs0:=hB0.size
 have hwl0:wo<W0.heap.size:=by omega
 have hgl0:g<W0.heap.size:=by omega
 have hwn0:wo≠W0.heap.size:=by omega
 have hgn0:g≠W0.heap.size:=by omega
 have hwn1:=hwn0.symm
 have hgn1:=hgn0.symm
 have HB0:=Lib.hid hB0
 clear hB0 c0 c1 p0
 have hPP:∀ W,Below W0.heap.size W0 W->Calls Tryx.prog 15 #[ptr q,.int .i64 num] W fun y w'=>y=.returned (plErr k rr tt)/\Hid (QT w' q t' (fun k=>F k/\k<w.heap.size))/\Hid (Chg (fun k=>F k/\k<w.heap.size) W0 w')/\W.heap.size<=w'.heap.size/\Chg (fun k=>F k/\k<w.heap.size) W w':=fun W hB=>
  (HP.out W (HK.out.que.below (HB0.out.trans (hB.mono hs0))) (HG.out.chg (chgB (HB0.out.trans (hB.mono hs0)) fun _=>False) fun x=>x)).mono fun y w' ⟨e1,e2,e3⟩=>⟨e1,Lib.hid e2,Lib.hid ((chgB hB _).then e3),e3.size,e3⟩
 have HPP:=Lib.hid hPP
 clear hPP
 go_wp2_with fail
 go_cut [6]from 18 to 31 (fun s6 wx=>∃ b6,s6=ptr b6/\W0.heap.size<=b6/\wx.cell? ⟨b6,0,none⟩=some (.int .i64 k)/\wx.cell? ⟨b6,1,none⟩=some (.int .i64 rr)/\wx.cell? ⟨b6,2,none⟩=some (.int .i64 tt)/\wx.cell? ⟨b6,3,none⟩=some (.bool true)/\Hid (QT wx q t' (fun k=>F k/\k<w.heap.size))/\Hid (Chg (fun k=>F k/\k<w.heap.size) W0 wx))
 case first=>
  go_region_held3 (fun w'=>w'.cell? ⟨wo,0,none⟩=some (ptr q)/\w'.cell? ⟨wo,1,none⟩=some (.slice (some ⟨g,0,none⟩) n cap)/\w'.cell? ⟨g,i*6,none⟩=some (.int .i64 num)) (go_keep)
   (first
     | (go_at_call 15;refine (HPP.out _ (by go_grown)).mono ?_;rintro y w2 ⟨rfl,hq2,hc2,hz2,hc3⟩
        have hy0:w2.cell? ⟨wo,0,none⟩=some (ptr q):=(hc2.out.cell (p:=⟨wo,0,none⟩) hwl0 (fun hh=>HK.out.now hh)).trans q0
        have hy1:w2.cell? ⟨wo,1,none⟩=some (.slice (some ⟨g,0,none⟩) n cap):=(hc2.out.cell (p:=⟨wo,1,none⟩) hwl0 (fun hh=>HK.out.now hh)).trans q1
        have hy2:w2.cell? ⟨g,i*6,none⟩=some (.int .i64 num):=(hc2.out.cell (p:=⟨g,i*6,none⟩) hgl0 (fun hh=>HK.out.nor g rfl hh)).trans q2
        try simp at hz2
        have hm1:wo<w2.heap.size:=by omega
        have hm2:g<w2.heap.size:=by omega
        have hm3:wo≠w2.heap.size:=by omega
        have hm4:g≠w2.heap.size:=by omega
        have hm5:=hm3.symm
        have hm6:=hm4.symm
        try (have zaE0:w2.cell? ⟨W0.heap.size,0,none⟩=some (.int .i64 0):=?zval;case zval=>(refine (hc3.cell (p:=⟨W0.heap.size,0,none⟩) ?_ ?_).trans ?_ <;> first | (intro hh;have hh:W0.heap.size<w.heap.size:=hh.2;omega) | (simp;done) | (go_simp;done) | (simp;omega) | omega))
        try (have zaE1:w2.cell? ⟨W0.heap.size,1,none⟩=some (.int .i64 0):=?zval;case zval=>(refine (hc3.cell (p:=⟨W0.heap.size,1,none⟩) ?_ ?_).trans ?_ <;> first | (intro hh;have hh:W0.heap.size<w.heap.size:=hh.2;omega) | (simp;done) | (go_simp;done) | (simp;omega) | omega))
        try (have zaE2:w2.cell? ⟨W0.heap.size,2,none⟩=some (.int .i64 0):=?zval;case zval=>(refine (hc3.cell (p:=⟨W0.heap.size,2,none⟩) ?_ ?_).trans ?_ <;> first | (intro hh;have hh:W0.heap.size<w.heap.size:=hh.2;omega) | (simp;done) | (go_simp;done) | (simp;omega) | omega))
        try (have zaE3:w2.cell? ⟨W0.heap.size,3,none⟩=some (.bool false):=?zval;case zval=>(refine (hc3.cell (p:=⟨W0.heap.size,3,none⟩) ?_ ?_).trans ?_ <;> first | (intro hh;have hh:W0.heap.size<w.heap.size:=hh.2;omega) | (simp;done) | (go_simp;done) | (simp;omega) | omega))
        try (have zfa:∀ i,w2.frozen? ⟨W0.heap.size,i,none⟩=false:=?zval;case zval=>(intro i;refine (hc3.frozen (p:=⟨W0.heap.size,i,none⟩) ?_ ?_).trans ?_ <;> first | (intro hh;have hh:W0.heap.size<w.heap.size:=hh.2;omega) | (simp;done) | (go_simp;done) | (simp;omega) | omega))
        try (have hla:W0.heap.size<w2.heap.size:=?zval;case zval=>omega)
        clear hc3))
  all_goals
   go_wp2_with fail
   go_meet
   case rel=>
    refine⟨_,rfl,?_,?_,?_,?_,?_,?_,?_⟩
    rotate_left 5
    ·refine Lib.hid (hq2.out.kept (S:=fun k=>W0.heap.size<=k) ?_ fun k hk hh=>by have:=hk.2;omega)
     repeat first | with_reducible exact Chg.refl _ _ | with_reducible refine Chg.alloc ?_ _ | with_reducible refine Chg.setCell ?_ (.inl ?_) _
     all_goals (dsimp only;omega)
    ·refine Lib.hid (hc2.out.trans (Chg.mono (S:=fun k=>W0.heap.size<=k) ?_ fun k _ hk=>.inr hk))
     repeat first | with_reducible exact Chg.refl _ _ | with_reducible refine Chg.alloc ?_ _ | with_reducible refine Chg.setCell ?_ (.inl ?_) _
     all_goals (dsimp only;omega)
    ·omega
    all_goals (first | (simp;done) | (go_simp;done))
 case rest=>
  obtain⟨b6,rfl,hb6,y0,y1,y2,y3,hq2,hc2⟩:=hcut
  have hKc:=(HK.out.below HB0.out).que' hc2.out hq2.out fun k hk=>.inl hk
  have hcc:Chg (fun k=>F k/\k<w.heap.size) w wc:=(chgB HB0.out _).then hc2.out
  have HKC:=Lib.hid hKc
  have HCC:=Lib.hid hcc
  clear hq2 hc2 hKc hcc
  have hwg:wo≠g:=HK.out.ne rfl
  have hgw:=hwg.symm
  cases hO with
  | ok h0=>
    subst h0
    go_wp2_with fail
    refine (fine_yes wc).mono ?_
    rintro y w3 ⟨rfl,hb3⟩
    have hK3:=HKC.out.below hb3
    have d1:=hK3.c1
    have hwl3:=lt_of_heap hK3.blk
    rw[<-HN.out]at hK3
    obtain⟨g',cap',cur,e,hg2,_,_,_,_,hcell⟩:=hK3.cells HI.out
    rw[HN.out]at hK3
    simp only[Value.slice.injEq,Option.some.injEq,Addr.mk.injEq]at e
    obtain⟨⟨rfl,_⟩,_,rfl⟩:=e
    have d4:w3.cell? ⟨g,i*6+4,none⟩=some (.int .i64 0):=hcell 4 _ rfl
    have df:w3.frozen? ⟨g,i*6+4,none⟩=false:=free_of hg2
    have hgl3:=lt_of_heap hg2
    have hcw:Chg (fun k=>F k/\k<w.heap.size) w w3:=HCC.out.trans ((chgB hb3 fun _=>False).mono fun k _ hk=>hk.elim)
    have HK3:=Lib.hid hK3
    have HCW:=Lib.hid hcw
    clear hK3 hcw hb3 hcell hg2
    cases air with
    | false=>
      go_wp2_with fail
      go_ret
      obtain⟨k1,k2⟩:=HK3.out.how HI.out 3
      refine⟨rfl,by rw[HN.out];exact k1,(HCW.out.mono fun k _ hk=>.inl hk.1).then (k2.mono fun k _ hk=>?_)⟩
      subst hk
      exact .inr (.inr rfl)
    | true=>
      go_wp2_with fail
      go_ret
      obtain⟨k1,k2⟩:=HK3.out.how HI.out 3
      have hi2:(rs.set i ⟨num,wrt,page,data,3,read⟩)[i]?=some ⟨num,wrt,page,data,3,read⟩:=by rw[List.getElem?_set_self (by rw[HN.out];exact hil)]
      obtain⟨k3,k4⟩:=k1.how hi2 4
      rw[List.set_set]at k3
      refine⟨rfl,by rw[HN.out];exact k3,(HCW.out.mono fun k _ hk=>.inl hk.1).then ((k2.then k4).mono fun k _ hk=>?_)⟩
      subst hk
      exact .inr (.inr rfl)
  | no _ _ _ hk=>
    have HSET:=Lib.hid (set_same rs i _ HI.out)
    rcases hk with rfl | rfl
    all_goals
     go_wp2_with fail
     refine (fine_no _ rr tt (by omega) wc).mono ?_
     rintro y w3 ⟨rfl,hb3⟩
     have e0:=(hb3.cell (p:=⟨b6,0,none⟩) (lt_of_cell y0)).trans y0
     have hK3:=HKC.out.below hb3
     have hcw:Chg (fun k=>F k/\k<w.heap.size) w w3:=HCC.out.trans ((chgB hb3 fun _=>False).mono fun k _ hk=>hk.elim)
     have HK3:=Lib.hid hK3
     have HCW:=Lib.hid hcw
     clear hK3 hcw hb3
     go_wp2_with fail
     go_ret
     exact⟨rfl,by rw[HSET.out,HN.out];exact HK3.out,HCW.out.mono fun k _ hk=>.inl hk.1⟩
theorem cancel_o{w0 w:World}{wo:Nat}{x:KW}(h:KO w0 w wo x)(hg:ErrVar w0)(hi:KInv x)(hs:x.t.Small)(i:Nat)(hil:i<x.rs.length):
  Calls Tryx.prog 43 #[ptr wo,.int .i64 i] w fun y w'=>y=.returned (.bool true)/\KO w0 w' wo (x.cancel i):=by
 obtain⟨⟨num,wrt,page,data,how,read⟩,hr⟩:∃ r,x.rs[i]?=some r:=⟨_,List.getElem?_eq_getElem hil⟩
 have hfl:=flies_o h hi.ok hs num
 obtain⟨q,rv,F,h1,h3⟩:=h.ex
 obtain⟨s1,s2,s3⟩:=KO.sides (w:=w) (q:=q) (x:=x) h3 hg
 have hrm:(⟨num,wrt,page,data,how,read⟩:KReq)∈x.rs:=List.mem_of_getElem? hr
 have hw0:=h.err hg
 have hset:=set_same x.rs i _ hr
 have hF0:¬(F 0/\0<w.heap.size):=fun x=>s1 x.1
 have fin:∀ (r':KReq) (t':St) (x':KW) (k rr tt:Int),x'=⟨x.rs.set i r',t'⟩->
   (∀ W,QT W q x.t (fun k=>F k/\k<w.heap.size)->ErrVar W->Calls Tryx.prog 15 #[ptr q,.int .i64 num] W fun y w'=>y=.returned (plErr k rr tt)/\QT w' q t' (fun k=>F k/\k<w.heap.size)/\Chg (fun k=>F k/\k<w.heap.size) W w')->
   COut num wrt page data how read (x.t.flies num) k rr tt r'->
   Calls Tryx.prog 43 #[ptr wo,.int .i64 i] w fun y w'=>y=.returned (.bool true)/\KO w0 w' wo x':=by
  rintro r' t' x' k rr tt rfl hP hO
  refine (kcancel_any wo q rv F x.t t' x.rs w i num wrt page data how read (x.t.flies num) r' k rr tt h1 hw0 hr hfl hP hO).mono ?_
  rintro y w' ⟨rfl,e1,e3⟩
  refine⟨rfl,KO.of h.below h3 e1 (fun k hk=>?_) e3⟩
  rcases hk with hk | hk | hk
  ·exact .inl (.inl hk.1)
  ·exact .inl (.inr (.inl hk))
  ·exact .inl (.inr (.inr hk))
 unfold KW.cancel
 rw[hr]
 simp only
 cases hf:x.t.find num with
 | none=>
   refine fin ⟨num,wrt,page,data,how,read⟩ x.t x 5 (-1) 0 (by rw[hset]) (fun W hq hv=>?_) (.no _ _ _ (.inr rfl))
   refine (cancel_none_p hq hv num hf).mono ?_
   rintro y w' ⟨rfl,e1⟩
   exact⟨rfl,hq.below e1,chgB e1 _⟩
 | some o=>
   obtain⟨f1,f2,f3,f4,f5⟩:=hi.find hrm hf
   simp only at f1 f2 f3 f4 f5
   simp only
   by_cases h2:o.state<2
   ·rw[if_pos h2]
    refine fin ⟨num,wrt,page,data,if x.t.flies num then 4 else 3,read⟩ (x.t.give num) _ 0 (-1) 0 rfl (fun W hq hv=>?_) (.ok (f3.2 (by omega)))
    exact cancel_ok_p hq hi.ok hs hv hF0 num o hf h2
   ·rw[if_neg h2]
    refine fin ⟨num,wrt,page,data,how,read⟩ x.t x 9 num o.tries (by rw[hset]) (fun W hq hv=>?_) (.no _ _ _ (.inl rfl))
    refine (cancel_done_p hq hv num o hf (by omega)).mono ?_
    rintro y w' ⟨rfl,e1⟩
    exact⟨rfl,hq.below e1,chgB e1 _⟩
end
section
open Go.RowKit Go.Shelf Go.Lib
set_option maxRecDepth 100000
theorem ask_read_full(wo q:Nat)(rv:Value)(F:Nat->Prop)(t:St)(rs:List KReq)(w:World)(page v:Int)(h:KB w wo q rv F t rs)(hg:ErrVar w)(hh:40<=t.held)(hp:0<=page/\page<16):
  Calls Tryx.prog 14 #[ptr wo,.bool false,.int .i64 page,.int .u8 v] w fun x w'=>x=.returned (.bool true)/\Below w.heap.size w w':=by
 obtain⟨W0,hW0⟩:∃ W0,w.alloc (.cells #[.int .i64 0,.bool false,.int .i64 page,.string ⟨#[]⟩,.int .i64 0,.string ⟨#[]⟩] 32)=W0:=⟨_,rfl⟩
 have hB0:Below w.heap.size w W0:=by rw[<-hW0];exact (Below.refl _ _).alloc (Nat.le_refl _) _
 have hr0':W0.heap[w.heap.size]?=some (.cells #[.int .i64 0,.bool false,.int .i64 page,.string ⟨#[]⟩,.int .i64 0,.string ⟨#[]⟩] 32 (0,0)):=by rw[<-hW0];exact World.alloc_heap_new w _
 have hK0:=h.below hB0
 have c0:=h.c0
 have HK0:=Lib.hid hK0
 have HG:=Lib.hid (hg.chg (chgB hB0 fun _=>False) fun x=>x)
 have HB0:=Lib.hid hB0
 have HR0:=Lib.hid hr0'
 have hwlt:=lt_of_heap h.blk
 have hs0:W0.heap.size=w.heap.size+1:=by rw[<-hW0];simp
 have HW0:=Lib.hid hW0
 clear h hg hB0 hr0' hK0 hW0
 go_enter Tryx.func14,Tryz.ntmps14
 go_wp2_with fail
 rw[HW0.out]
 refine (read_full_p HK0.out.que HG.out hh page hp).mono ?_
 rintro x w1 ⟨rfl,hb1⟩
 have hr1:=(hb1.block _ (lt_of_heap HR0.out)).trans HR0.out
 have r0:w1.cell? ⟨w.heap.size,0,none⟩=some (.int .i64 0):=cell_of hr1 rfl
 have rf:∀ i,w1.frozen? ⟨w.heap.size,i,none⟩=false:=fun i=>free_of hr1
 have hrl:=lt_of_heap hr1
 have hB1:=HB0.out.trans (hb1.mono (by omega))
 have HB1:=Lib.hid hB1
 clear hr1 hb1 hB1
 go_wp2_with fail
 obtain⟨W2,hW2⟩:∃ W2,(w1.setCell ⟨w.heap.size,0,none⟩ (.int .i64 0)).alloc (.cells #[.int .i64 4,.int .i64 (-1),.int .i64 0,.bool true] 39)=W2:=⟨_,rfl⟩
 have hb2:Below w.heap.size w W2:=by rw[<-hW2];exact (HB1.out.setCell (p:=⟨w.heap.size,0,none⟩) (Nat.le_refl _) _).alloc (by simpa[World.setCell]using HB1.out.size) _
 have hr2:W2.heap[w1.heap.size]?=some (.cells #[.int .i64 4,.int .i64 (-1),.int .i64 0,.bool true] 39 (0,0)):=by
  rw[<-hW2]
  have:=World.alloc_heap_new (w1.setCell ⟨w.heap.size,0,none⟩ (.int .i64 0)) (.cells #[.int .i64 4,.int .i64 (-1),.int .i64 0,.bool true] 39)
  simpa[World.setCell]using this
 rw[hW2]
 have HB2:=Lib.hid hb2
 have HR2:=Lib.hid hr2
 clear hb2 hr2 hW2 r0 rf
 refine (fine_no 4 (-1) 0 (by omega) W2).mono ?_
 rintro x w3 ⟨rfl,hB3⟩
 have hr3:=(hB3.block _ (lt_of_heap HR2.out)).trans HR2.out
 have r0:w3.cell? ⟨w1.heap.size,0,none⟩=some (.int .i64 4):=cell_of hr3 rfl
 have hB:=HB2.out.trans (hB3.mono HB2.out.size)
 have HB:=Lib.hid hB
 clear hr3 hB hB3
 go_wp2_with fail
 go_ret
 exact⟨rfl,HB.out⟩
theorem ask_write_full(wo q:Nat)(rv:Value)(F:Nat->Prop)(t:St)(rs:List KReq)(w:World)(page v:Int)(h:KB w wo q rv F t rs)(hg:ErrVar w)(hh:40<=t.held)(hp:0<=page/\page<16)(_hv:0<=v/\v<=255):
  Calls Tryx.prog 14 #[ptr wo,.bool true,.int .i64 page,.int .u8 v] w fun x w'=>x=.returned (.bool true)/\Below w.heap.size w w':=by
 obtain⟨ra,rc,rfl⟩:=own_slice h.row
 obtain⟨n,hn⟩:∃ n,rs.length=n:=⟨_,rfl⟩
 obtain⟨kk,hkk⟩:∃ kk:Int,(n:Int) % 256=kk:=⟨_,rfl⟩
 obtain⟨k2,hk2⟩:∃ k2:Int,kk / 2=k2:=⟨_,rfl⟩
 have hw8:IntKind.u8.wrap (n:Int)=kk:=by rw[<-hkk];exact IntKind.wrap_u8 _
 have hkb:0<=kk/\kk<256:=by omega
 have htd:kk.tdiv 2=k2:=by rw[<-hk2,Int.tdiv_eq_ediv_of_nonneg hkb.1]
 have hk2b:0<=k2/\k2<128:=by omega
 have hw9:IntKind.u8.wrap k2=k2:=by rw[IntKind.wrap_u8];omega
 obtain⟨sd,hsd⟩:∃ sd,strOfNums [v,kk,k2,1]=sd:=⟨_,rfl⟩
 obtain⟨W0,hW0⟩:∃ W0,(w.alloc (.cells #[.int .i64 0,.bool true,.int .i64 page,.string ⟨#[]⟩,.int .i64 0,.string ⟨#[]⟩] 32)).alloc (.cells #[.int .u8 v,.int .u8 kk,.int .u8 k2,.int .u8 1] 5)=W0:=⟨_,rfl⟩
 have hcv:∀ dst,Tryx.prog.underlying dst=some .string->(convert 41 dst (.slice (some ⟨w.heap.size+1,0,none⟩) 4 4)).run Tryx.prog W0=.ok (.string sd) W0:=by
  rw[<-hsd]
  have hb:W0.heap[w.heap.size+1]?=some (.cells #[.int .u8 v,.int .u8 kk,.int .u8 k2,.int .u8 1] 5 (0,0)):=by
   rw[<-hW0,show w.heap.size+1=(w.alloc (.cells #[.int .i64 0,.bool true,.int .i64 page,.string ⟨#[]⟩,.int .i64 0,.string ⟨#[]⟩] 32)).heap.size from by simp];exact World.alloc_heap_new _ _
  refine run_convert_bytes_arg (P:=Tryx.prog) W0 41 5 Tryx.underlying41 Tryx.underlying5 (w.heap.size+1) 0 4 4 [v,kk,k2,1] rfl fun i hi=>?_
  refine cell_of hb ?_
  match i,hi with
  | 0,_=>rfl
  | 1,_=>rfl
  | 2,_=>rfl
  | 3,_=>rfl
 have hcv2:=hcv 9 Tryx.underlying9
 rw[<-hW0]at hcv2
 have c0:=h.c0
 have c1:=h.c1
 rw[hn]at c1
 have HK:=Lib.hid h
 have HG:=Lib.hid hg
 have hwlt:=lt_of_heap h.blk
 clear h hg hW0 hcv
 go_enter Tryx.func14,Tryz.ntmps14
 go_wp2_with fail
 obtain⟨WA,hWA⟩:∃ WA,(w.alloc (.cells #[.int .i64 0,.bool true,.int .i64 page,.string sd,.int .i64 0,.string ⟨#[]⟩] 32)).alloc (.cells #[.int .u8 v,.int .u8 kk,.int .u8 k2,.int .u8 1] 5)=WA:=⟨_,rfl⟩
 have hsA:WA.heap.size=w.heap.size+2:=by rw[<-hWA];simp
 have hB0:Below w.heap.size w WA:=by rw[<-hWA];exact ((Below.refl _ _).alloc (Nat.le_refl _) _).alloc (by simp) _
 have hrA:WA.heap[w.heap.size]?=some (.cells #[.int .i64 0,.bool true,.int .i64 page,.string sd,.int .i64 0,.string ⟨#[]⟩] 32 (0,0)):=by
  rw[<-hWA];exact (Below.heap_alloc _ _ _ (by simp)).trans (World.alloc_heap_new w _)
 have hKA:=HK.out.below hB0
 have HKA:=Lib.hid hKA
 have HGA:=Lib.hid (HG.out.chg (chgB hB0 fun _=>False) fun x=>x)
 have HB0:=Lib.hid hB0
 have HR0:=Lib.hid hrA
 rw[hWA]
 clear hWA hB0 hrA hKA hcv2
 refine (write_full_p HKA.out.que HGA.out hh page hp 4 _).mono ?_
 rintro x w1 ⟨rfl,hb1⟩
 have hr1:=(hb1.block _ (lt_of_heap HR0.out)).trans HR0.out
 have r0:w1.cell? ⟨w.heap.size,0,none⟩=some (.int .i64 0):=cell_of hr1 rfl
 have rf:∀ i,w1.frozen? ⟨w.heap.size,i,none⟩=false:=fun i=>free_of hr1
 have hrl:=lt_of_heap hr1
 have hB1:=HB0.out.trans (hb1.mono (by omega))
 have HB1:=Lib.hid hB1
 clear hr1 hb1 hB1
 go_wp2_with fail
 obtain⟨W2,hW2⟩:∃ W2,(w1.setCell ⟨w.heap.size,0,none⟩ (.int .i64 0)).alloc (.cells #[.int .i64 4,.int .i64 (-1),.int .i64 0,.bool true] 39)=W2:=⟨_,rfl⟩
 have hb2:Below w.heap.size w W2:=by rw[<-hW2];exact (HB1.out.setCell (p:=⟨w.heap.size,0,none⟩) (Nat.le_refl _) _).alloc (by simpa[World.setCell]using HB1.out.size) _
 have hr2:W2.heap[w1.heap.size]?=some (.cells #[.int .i64 4,.int .i64 (-1),.int .i64 0,.bool true] 39 (0,0)):=by
  rw[<-hW2]
  have:=World.alloc_heap_new (w1.setCell ⟨w.heap.size,0,none⟩ (.int .i64 0)) (.cells #[.int .i64 4,.int .i64 (-1),.int .i64 0,.bool true] 39)
  simpa[World.setCell]using this
 rw[hW2]
 have HB2:=Lib.hid hb2
 have HR2:=Lib.hid hr2
 clear hb2 hr2 hW2 r0 rf
 refine (fine_no 4 (-1) 0 (by omega) W2).mono ?_
 rintro x w3 ⟨rfl,hB3⟩
 have hr3:=(hB3.block _ (lt_of_heap HR2.out)).trans HR2.out
 have r0:w3.cell? ⟨w1.heap.size,0,none⟩=some (.int .i64 4):=cell_of hr3 rfl
 have hB:=HB2.out.trans (hB3.mono HB2.out.size)
 have HB:=Lib.hid hB
 clear hr3 hB hB3
 go_wp2_with fail
 go_ret
 exact⟨rfl,HB.out⟩
theorem askR_a{w0 w:World}{wo:Nat}{x:KW}(h:KO w0 w wo x)(hg:ErrVar w0)(hi:KInv x)(hs:x.t.Small)(page v:Int)(hp:0<=page/\page<16):
  Calls Tryx.prog 14 #[ptr wo,.bool false,.int .i64 page,.int .u8 v] w fun y w'=>y=.returned (.bool true)/\KO w0 w' wo (x.askR page):=by
 by_cases hh:x.t.held<40
 ·exact askR_o h hg hi hs hh page v hp
 ·obtain⟨q,rv,F,h1,h3⟩:=h.ex
  refine (ask_read_full wo q rv F x.t x.rs w page v h1 (h.err hg) (by omega) hp).mono ?_
  rintro y w' ⟨rfl,e1⟩
  unfold KW.askR
  rw[if_pos (by omega)]
  exact⟨rfl,h.later e1⟩
theorem askW_a{w0 w:World}{wo:Nat}{x:KW}(h:KO w0 w wo x)(hg:ErrVar w0)(hi:KInv x)(hs:x.t.Small)(page v:Int)(hp:0<=page/\page<16)(hv:0<=v/\v<=255):
  Calls Tryx.prog 14 #[ptr wo,.bool true,.int .i64 page,.int .u8 v] w fun y w'=>y=.returned (.bool true)/\KO w0 w' wo (x.askW page v):=by
 by_cases hh:x.t.held<40
 ·exact askW_o h hg hi hs hh page v hp hv
 ·obtain⟨q,rv,F,h1,h3⟩:=h.ex
  refine (ask_write_full wo q rv F x.t x.rs w page v h1 (h.err hg) (by omega) hp hv).mono ?_
  rintro y w' ⟨rfl,e1⟩
  unfold KW.askW
  rw[if_pos (by omega)]
  exact⟨rfl,h.later e1⟩
end
section
open Go.RowKit Go.Shelf Go.Lib
set_option maxRecDepth 100000
set_option maxHeartbeats 8000000
theorem KO.len{w0 w:World}{wo:Nat}{x:KW}(h:KO w0 w wo x):∃ ra rc,w.cell? ⟨wo,1,none⟩=some (.slice ra x.rs.length rc)/\wo<w.heap.size:=by
 obtain⟨ra,rc,h1,h2,_⟩:=h.rows
 exact⟨ra,rc,h1,h2⟩
theorem act_o{w0 w:World}{wo:Nat}{x:KW}(h:KO w0 w wo x)(hg:ErrVar w0)(hi:KInv x)(hs:x.t.Small)(hs1:x.t.tick.Small)(hn:x.rs.length<1000000)(b:Nat)(hb:b<=255):
  Calls Tryx.prog 21 #[ptr wo,.int .u8 b] w fun y w'=>y=.returned (.bool true)/\KO w0 w' wo (x.act b):=by
 obtain⟨v,hv⟩:∃ v,b / 12=v:=⟨_,rfl⟩
 obtain⟨m,hm⟩:∃ m,b % 12=m:=⟨_,rfl⟩
 have hml:m<12:=by omega
 have hvl:v<=21:=by omega
 have hbq:((b:Int)).tdiv 12=(v:Int):=by rw[Int.tdiv_eq_ediv_of_nonneg (by omega)];omega
 have hbr:((b:Int)).tmod 12=(m:Int):=by rw[Int.tmod_eq_emod_of_nonneg (by omega)];omega
 have hwv:IntKind.u8.wrap (v:Int)=(v:Int):=by rw[IntKind.wrap_u8];omega
 have hwm:IntKind.u8.wrap (m:Int)=(m:Int):=by rw[IntKind.wrap_u8];omega
 have hwv2:IntKind.i64.wrap (v:Int)=(v:Int):=by rw[IntKind.wrap_i64];omega
 have hact:x.act b=(if m<3 then x.askR ((v % 8:Nat):Int)
 else if m<6 then x.askW ((v % 8:Nat):Int) (b:Int)
 else if m<8 then ⟨x.rs,x.t.step⟩
 else if m<10 then ⟨x.rs,x.t.comp (v % 3) (decide (v % 5=4))⟩
 else if m=10 then
  if 0<x.rs.length/\v % 2=0 then (⟨x.rs,x.t.tick⟩:KW).poll (v*7 % x.rs.length)else ⟨x.rs,x.t.tick⟩
 else if 0<x.rs.length/\v % 3=0 then x.cancel (v*5 % x.rs.length)
 else if 0<x.rs.length then x.poll (x.rs.length - 1 - v % x.rs.length)
 else x):=by unfold KW.act;rw[hv,hm]
 rw[hact]
 have H:=Lib.hid h
 have HG:=Lib.hid hg
 have HI:=Lib.hid hi
 have HS:=Lib.hid hs
 have HS1:=Lib.hid hs1
 clear h hg hi hs hs1 hact hv hm
 have h8:((v:Int)).tmod 8=((v % 8:Nat):Int):=by rw[Int.tmod_eq_emod_of_nonneg (by omega)];omega
 by_cases m3:m<3
 ·rw[if_pos m3]
  have hp:(0:Int)<=((v % 8:Nat):Int)/\((v % 8:Nat):Int)<16:=by omega
  have hA:=Lib.hid (askR_a H.out HG.out HI.out HS.out ((v % 8:Nat):Int) (b:Int) hp)
  have hmm:m=0\/m=1\/m=2:=by omega
  rcases hmm with rfl | rfl | rfl
  all_goals
   go_enter Tryx.func21,Tryz.ntmps21
   go_wp2_with fail
   refine hA.out.mono ?_
   rintro y w1 ⟨rfl,hk1⟩
   have HK1:=Lib.hid hk1
   clear hk1
   go_wp2_with fail
   go_ret
   exact⟨rfl,HK1.out⟩
 rw[if_neg m3]
 by_cases m6:m<6
 ·rw[if_pos m6]
  have hp:(0:Int)<=((v % 8:Nat):Int)/\((v % 8:Nat):Int)<16:=by omega
  have hA:=Lib.hid (askW_a H.out HG.out HI.out HS.out ((v % 8:Nat):Int) (b:Int) hp (by omega))
  have hmm:m=3\/m=4\/m=5:=by omega
  rcases hmm with rfl | rfl | rfl
  all_goals
   go_enter Tryx.func21,Tryz.ntmps21
   go_wp2_with fail
   refine hA.out.mono ?_
   rintro y w1 ⟨rfl,hk1⟩
   have HK1:=Lib.hid hk1
   clear hk1
   go_wp2_with fail
   go_ret
   exact⟨rfl,HK1.out⟩
 rw[if_neg m6]
 by_cases m8:m<8
 ·rw[if_pos m8]
  obtain⟨q,c0,hwl,hN,hS⟩:=step_o H.out HI.out.ok HS.out
  have hmm:m=6\/m=7:=by omega
  have hst:x.t.step=match x.t.cmd with
   | none=>x.t
   | some c=>x.t.sent c:=rfl
  rw[hst]
  cases hc:x.t.cmd with
  | none=>
    have hA:=Lib.hid (hN hc w (Below.refl _ _))
    clear hN hS hst hc
    rcases hmm with rfl | rfl
    all_goals
     go_enter Tryx.func21,Tryz.ntmps21
     go_wp2_with fail
     refine hA.out.mono ?_
     rintro y w1 ⟨rfl,hk1,_⟩
     have HK1:=Lib.hid hk1
     clear hk1
     go_wp2_with fail
     go_ret
     exact⟨rfl,HK1.out⟩
  | some c=>
    have hA:=Lib.hid (hS c hc w (Below.refl _ _))
    clear hN hS hst hc
    rcases hmm with rfl | rfl
    all_goals
     go_enter Tryx.func21,Tryz.ntmps21
     go_wp2_with fail
     refine hA.out.mono ?_
     rintro y w1 ⟨va,vc,rfl,hk1,_,_⟩
     have HK1:=Lib.hid hk1
     clear hk1
     go_wp2_with fail
     go_ret
     exact⟨rfl,HK1.out⟩
 rw[if_neg m8]
 by_cases m10:m<10
 ·rw[if_pos m10]
  have h3:((v:Int)).tmod 3=((v % 3:Nat):Int):=by rw[Int.tmod_eq_emod_of_nonneg (by omega)];omega
  have h5:((v:Int)).tmod 5=((v % 5:Nat):Int):=by rw[Int.tmod_eq_emod_of_nonneg (by omega)];omega
  obtain⟨q,c0,hwl,hS,hN⟩:=comp_o H.out HG.out HI.out.ok HS.out
  have hd:((((v % 5:Nat):Int)) == 4)=decide (v % 5=4):=by
   rw[Bool.eq_iff_iff]
   simp only[beq_iff_eq,decide_eq_true_iff]
   omega
  obtain⟨v3,hv3⟩:∃ v3,v % 3=v3:=⟨_,rfl⟩
  obtain⟨v5,hv5⟩:∃ v5,v % 5=v5:=⟨_,rfl⟩
  obtain⟨ft,hft⟩:∃ ft,decide (v5=4)=ft:=⟨_,rfl⟩
  rw[hv3]at h3
  rw[hv5]at h5 hd
  rw[hft]at hd
  rw[hv3,hv5,hft]
  have hmm:m=8\/m=9:=by omega
  unfold St.comp
  cases hc:x.t.complete v3 ft with
  | none=>
    have hA:=Lib.hid (hN v3 ft hc w (Below.refl _ _))
    clear hN hS hc
    simp only[Option.getD_none]
    rcases hmm with rfl | rfl
    all_goals
     go_enter Tryx.func21,Tryz.ntmps21
     go_wp2_with fail
     refine hA.out.mono ?_
     rintro y w1 ⟨rfl,hk1,_⟩
     have HK1:=Lib.hid hk1
     clear hk1
     go_wp2_with fail
     go_ret
     exact⟨rfl,HK1.out⟩
  | some t'=>
    have hA:=Lib.hid (hS v3 ft t' hc w (Below.refl _ _))
    clear hN hS hc
    simp only[Option.getD_some]
    rcases hmm with rfl | rfl
    all_goals
     go_enter Tryx.func21,Tryz.ntmps21
     go_wp2_with fail
     refine hA.out.mono ?_
     rintro y w1 ⟨rfl,hk1,_⟩
     have HK1:=Lib.hid hk1
     clear hk1
     go_wp2_with fail
     go_ret
     exact⟨rfl,HK1.out⟩
 rw[if_neg m10]
 obtain⟨n,hnn⟩:∃ n,x.rs.length=n:=⟨_,rfl⟩
 rw[hnn]at hn
 by_cases me:m=10
 ·rw[if_pos me]
  subst me
  have h2:((v:Int)).tmod 2=((v % 2:Nat):Int):=by rw[Int.tmod_eq_emod_of_nonneg (by omega)];omega
  obtain⟨v2,hv2⟩:∃ v2,v % 2=v2:=⟨_,rfl⟩
  rw[hv2]at h2
  rw[hv2]
  obtain⟨q,c0,hwl,hT⟩:=tick_o H.out HI.out.ok HS.out
  have hA:=Lib.hid (hT w (Below.refl _ _))
  clear hT
  by_cases hn0:0<n
  ·have hn0I:(0:Int)<(n:Int):=by omega
   have hnz:(n:Int)≠0:=by omega
   have h7:(((v:Int)*7)).tmod (n:Int)=((v*7 % n:Nat):Int):=by rw[Int.tmod_eq_emod_of_nonneg (by omega)];push_cast;rfl
   have hlt7:v*7 % n<n:=Nat.mod_lt _ hn0
   obtain⟨p7,hp7⟩:∃ p7,v*7 % n=p7:=⟨_,rfl⟩
   rw[hp7]at h7 hlt7
   have hw7:IntKind.i64.wrap ((v:Int)*7)=(v:Int)*7:=by rw[IntKind.wrap_i64];omega
   by_cases hz:v2=0
   ·rw[hnn,if_pos ⟨hn0,hz⟩,hp7]
    subst hz
    clear hv2 hp7
    go_enter Tryx.func21,Tryz.ntmps21
    go_wp2_with fail
    refine hA.out.mono ?_
    rintro y w1 ⟨rfl,hk1,_⟩
    obtain⟨ra,rc,c1,hwl1⟩:=hk1.len
    simp only at c1
    rw[hnn]at c1
    have hP:=Lib.hid (poll_o hk1 HG.out HI.out.tick HS1.out p7 (by rw[hnn];exact hlt7))
    clear hk1
    go_wp2_with fail
    refine hP.out.mono ?_
    rintro y w2 ⟨rfl,hk2⟩
    have HK2:=Lib.hid hk2
    clear hk2
    go_wp2_with fail
    go_ret
    exact⟨rfl,HK2.out⟩
   ·rw[hnn,if_neg (fun hh=>hz hh.2)]
    obtain rfl:v2=1:=by omega
    clear hv2 hp7
    go_enter Tryx.func21,Tryz.ntmps21
    go_wp2_with fail
    refine hA.out.mono ?_
    rintro y w1 ⟨rfl,hk1,_⟩
    obtain⟨ra,rc,c1,hwl1⟩:=hk1.len
    simp only at c1
    rw[hnn]at c1
    have HK1:=Lib.hid hk1
    clear hk1
    go_wp2_with fail
    go_ret
    exact⟨rfl,HK1.out⟩
  ·obtain rfl:n=0:=by omega
   rw[hnn,if_neg (fun hh=>hn0 hh.1)]
   clear hv2
   go_enter Tryx.func21,Tryz.ntmps21
   go_wp2_with fail
   refine hA.out.mono ?_
   rintro y w1 ⟨rfl,hk1,_⟩
   obtain⟨ra,rc,c1,hwl1⟩:=hk1.len
   simp only at c1
   rw[hnn]at c1
   have HK1:=Lib.hid hk1
   clear hk1
   go_wp2_with fail
   go_ret
   exact⟨rfl,HK1.out⟩
 ·rw[if_neg me]
  obtain rfl:m=11:=by omega
  have h3:((v:Int)).tmod 3=((v % 3:Nat):Int):=by rw[Int.tmod_eq_emod_of_nonneg (by omega)];omega
  obtain⟨v3,hv3⟩:∃ v3,v % 3=v3:=⟨_,rfl⟩
  rw[hv3]at h3
  rw[hv3,hnn]
  obtain⟨ra,rc,c1,hwl1⟩:=H.out.len
  rw[hnn]at c1
  by_cases hn0:0<n
  ·have hn0I:(0:Int)<(n:Int):=by omega
   have hnz:(n:Int)≠0:=by omega
   by_cases hz:v3=0
   ·rw[if_pos ⟨hn0,hz⟩]
    subst hz
    have h5:(((v:Int)*5)).tmod (n:Int)=((v*5 % n:Nat):Int):=by rw[Int.tmod_eq_emod_of_nonneg (by omega)];push_cast;rfl
    have hlt5:v*5 % n<n:=Nat.mod_lt _ hn0
    obtain⟨p5,hp5⟩:∃ p5,v*5 % n=p5:=⟨_,rfl⟩
    rw[hp5]at h5 hlt5
    rw[hp5]
    have hw5:IntKind.i64.wrap ((v:Int)*5)=(v:Int)*5:=by rw[IntKind.wrap_i64];omega
    have hP:=Lib.hid (cancel_o H.out HG.out HI.out HS.out p5 (by rw[hnn];exact hlt5))
    clear hv3 hp5
    go_enter Tryx.func21,Tryz.ntmps21
    go_wp2_with fail
    refine hP.out.mono ?_
    rintro y w2 ⟨rfl,hk2⟩
    have HK2:=Lib.hid hk2
    clear hk2
    go_wp2_with fail
    go_ret
    exact⟨rfl,HK2.out⟩
   ·rw[if_neg (fun hh=>hz hh.2),if_pos hn0]
    have hzI:((v3:Int) == 0)=false:=by
     rw[beq_eq_false_iff_ne]
     omega
    have hl:((v:Int)).tmod (n:Int)=((v % n:Nat):Int):=by rw[Int.tmod_eq_emod_of_nonneg (by omega)];push_cast;rfl
    have hltv:v % n<n:=Nat.mod_lt _ hn0
    obtain⟨pv,hpv⟩:∃ pv,v % n=pv:=⟨_,rfl⟩
    rw[hpv]at hl hltv
    rw[hpv]
    obtain⟨pi,hpi⟩:∃ pi,n - 1 - pv=pi:=⟨_,rfl⟩
    rw[hpi]
    have hw1:IntKind.i64.wrap ((n:Int) - 1)=(n:Int) - 1:=by rw[IntKind.wrap_i64];omega
    have hw2:IntKind.i64.wrap ((n:Int) - 1 - (pv:Int))=(pi:Int):=by rw[IntKind.wrap_i64];omega
    have hpil:pi<n:=by omega
    clear hv3 hpv hpi
    have hnzN:n≠0:=by omega
    go_enter Tryx.func21,Tryz.ntmps21
    go_wp2_with fail
    go_still_tail 15,(by kernel_rfl)
    change wpList _ _ _ _ _ w.drew
    obtain⟨W1,hW1⟩:∃ W1,w.drew=W1:=⟨_,rfl⟩
    rw[hW1]
    have hB1:Below w.heap.size w W1:=by rw[<-hW1];exact (Below.refl _ _).drew
    have hP:=Lib.hid (poll_o (H.out.later hB1) HG.out HI.out HS.out pi (by rw[hnn];exact hpil))
    clear hB1 hW1
    go_wp2_with fail
    refine hP.out.mono ?_
    rintro y w2 ⟨rfl,hk2⟩
    have HK2:=Lib.hid hk2
    clear hk2
    go_wp2_with fail
    go_ret
    exact⟨rfl,HK2.out⟩
  ·obtain rfl:n=0:=by omega
   rw[if_neg (fun hh=>hn0 hh.1),if_neg hn0]
   clear hv3
   go_enter Tryx.func21,Tryz.ntmps21
   go_wp2_with fail
   go_ret
   exact⟨rfl,H.out⟩
end
section
structure Near(t t':St):Prop where
 last:t.last<=t'.last/\t'.last<=t.last+1
 now:t'.now<=t.now+1
 depth:t'.depth=t.depth
theorem Near.refl(t:St):Near t t:=⟨by omega,by omega,rfl⟩
theorem land_keep(fault:Bool)(t:St)(n:Int):(t.land fault n).last=t.last/\(t.land fault n).now=t.now/\(t.land fault n).depth=t.depth:=by
 unfold St.land
 split <;> exact⟨rfl,rfl,rfl⟩
theorem lands_last(fault:Bool):∀ (l:List Int) (t:St),(l.foldl (St.land fault) t).last=t.last/\(l.foldl (St.land fault) t).now=t.now/\(l.foldl (St.land fault) t).depth=t.depth
 | [],_=>⟨rfl,rfl,rfl⟩
 | n :: l,t=>by
   obtain⟨a1,a2,a3⟩:=lands_last fault l (t.land fault n)
   obtain⟨b1,b2,b3⟩:=land_keep fault t n
   exact⟨a1.trans b1,a2.trans b2,a3.trans b3⟩
theorem comp_keep(t:St)(k:Nat)(fault:Bool):(t.comp k fault).last=t.last/\(t.comp k fault).now=t.now/\(t.comp k fault).depth=t.depth:=by
 unfold St.comp St.complete
 split
 ·exact⟨rfl,rfl,rfl⟩
 ·simp only[Option.getD_some]
  exact lands_last fault _ _
theorem near_of{t t':St}(h:t'.last=t.last/\t'.now=t.now/\t'.depth=t.depth):Near t t':=⟨by omega,by omega,h.2.2⟩
theorem poll_keep(x:KW)(i:Nat):(x.poll i).t.last=x.t.last/\(x.poll i).t.now=x.t.now/\(x.poll i).t.depth=x.t.depth:=by
 unfold KW.poll
 split
 ·exact⟨rfl,rfl,rfl⟩
 ·split
  ·exact⟨rfl,rfl,rfl⟩
  ·split
   ·exact⟨rfl,rfl,rfl⟩
   ·split <;> exact⟨rfl,rfl,rfl⟩
theorem cancel_keep(x:KW)(i:Nat):(x.cancel i).t.last=x.t.last/\(x.cancel i).t.now=x.t.now/\(x.cancel i).t.depth=x.t.depth:=by
 unfold KW.cancel
 split
 ·exact⟨rfl,rfl,rfl⟩
 ·split
  ·exact⟨rfl,rfl,rfl⟩
  ·split <;> exact⟨rfl,rfl,rfl⟩
theorem act_near(x:KW)(b:Nat):Near x.t (x.act b).t:=by
 unfold KW.act
 split
 ·unfold KW.askR
  split
  ·exact .refl _
  ·exact⟨by simp only[St.add];omega,by simp only[St.add];omega,rfl⟩
 ·split
  ·unfold KW.askW
   split
   ·exact .refl _
   ·exact⟨by simp only[St.add];omega,by simp only[St.add];omega,rfl⟩
  ·split
   ·unfold St.step
    split
    ·exact .refl _
    ·exact near_of ⟨rfl,rfl,rfl⟩
   ·split
    ·exact near_of (comp_keep _ _ _)
    ·split
     ·split
      ·obtain⟨h1,h2,h3⟩:=poll_keep ⟨x.rs,x.t.tick⟩ (b / 12*7 % x.rs.length)
       exact⟨by rw[h1];simp only[St.tick];omega,by rw[h2];simp only[St.tick];omega,h3⟩
      ·exact⟨by simp only[St.tick];omega,by simp only[St.tick];omega,rfl⟩
     ·split
      ·exact near_of (cancel_keep _ _)
      ·split
       ·exact near_of (poll_keep _ _)
       ·exact .refl _
structure At(D j:Nat)(x:KW):Prop where
 inv:KInv x
 last:x.t.last<=j
 now:x.t.now<=j
 depth:x.t.depth=D
theorem At.act{D j:Nat}{x:KW}(h:At D j x)(b:Nat)(hb:b<=255):At D (j+1) (x.act b):=by
 have hn:=act_near x b
 exact⟨h.inv.act b hb,by have:=hn.last;have:=h.last;omega,by have:=hn.now;have:=h.now;omega,hn.depth.trans h.depth⟩
theorem At.small{D j:Nat}{x:KW}(h:At D j x)(hj:j<=70000):x.t.Small:=⟨by have:=h.last;omega,by have:=h.now;omega⟩
theorem At.tick{D j:Nat}{x:KW}(h:At D j x)(hj:j<=70000):x.t.tick.Small:=⟨by have:=h.last;simp only[St.tick];omega,by have:=h.now;simp only[St.tick];omega⟩
theorem At.rs{D j:Nat}{x:KW}(h:At D j x):x.rs.length<=j:=by
 have:=h.inv.last
 have:=h.last
 omega
theorem At.new{D:Nat}(h:1<=D/\D<=4):At D 0 ⟨[],St.new D⟩:=⟨kinv_new h,Int.le_refl _,Int.le_refl _,rfl⟩
end
section
open Go.RowKit Go.Shelf Go.Lib
set_option maxRecDepth 100000
set_option maxHeartbeats 8000000
theorem ordered_m(d:Int)(s:ByteArray)(w:World)(hg:ErrVar w)(h1:-9223372036854775808<=d/\d<=9223372036854775807)(hsz:s.size<=maxLen):
  Calls Tryx.prog 8 #[.int .i64 d,.string s] w fun x w'=>x=.returned (.bool true)/\Below w.heap.size w w':=by
 have hp:=pickI_lt d (n:=4) (by omega)
 obtain⟨D,hD⟩:∃ D,(1+pickI d 4).toNat=D:=⟨_,rfl⟩
 have hD4:1<=D/\D<=4:=by omega
 have HG:=Lib.hid hg
 have HDD:=Lib.hid hD
 clear hg hp hD
 by_cases hbig:(s.size:Int)>65536
 ·go_enter Tryx.func8,Tryz.ntmps8
  go_wp2_with fail
  go_ret
  exact⟨rfl,Below.refl _ _⟩
 go_enter Tryx.func8,Tryz.ntmps8
 go_wp2_with fail
 refine (begun_o d w HG.out h1).mono ?_
 rintro y w1 ⟨wo,rfl,hK⟩
 rw[HDD.out]at hK
 have HK:=Lib.hid hK
 clear hK
 go_wp2_with fail
 go_loopg [6,7] s.size (fun k ok i wr=>∃ (j:Nat) (x:KW),k=s.size - j/\j<=s.size/\ok=.bool true/\i=.int .i64 j/\KO w wr wo x/\Hid (At D j x/\MI x))
 case atStart=>exact ⟨0,_,by simp,by omega,rfl,rfl,HK.out,Lib.hid ⟨At.new hD4,mi_new hD4⟩⟩
 case round=>
  obtain⟨j,x,rfl,hj,rfl,rfl,hKr,hAt⟩:=hrel
  by_cases hlt:j<s.size
  ·have hltI:(j:Int)<(s.size:Int):=by omega
   have g0:(0:Int)<=(j:Int):=by omega
   obtain⟨b,hb⟩:∃ b:UInt8,s[j]=b:=⟨_,rfl⟩
   have hbn:=b.toNat_lt
   have HKr:=Lib.hid hKr
   clear hKr
   go_wp2_with fail
   refine (act_o HKr.out HG.out hAt.out.1.inv (hAt.out.1.small (by omega)) (hAt.out.1.tick (by omega)) (by have:=hAt.out.1.rs;omega) b.toNat (by omega)).mono ?_
   rintro y w2 ⟨rfl,hK2⟩
   have hAt2:At D (j+1) (x.act b.toNat)/\MI (x.act b.toNat):=⟨hAt.out.1.act b.toNat (by omega),hAt.out.2.act b.toNat (by omega)⟩
   have HK2:=Lib.hid hK2
   have HA2:=Lib.hid hAt2
   clear hK2 hAt2
   go_wp2_with fail
   go_roundg (s.size - (j+1))
   case measure=>omega
   case rel=>exact ⟨j+1,_,rfl,by omega,rfl,by go_num,HK2.out,HA2⟩
  ·obtain rfl:j=s.size:=by omega
   obtain⟨W1,rfl⟩:∃ z,z=wr:=⟨_,rfl⟩
   obtain⟨q,c0,hwl,hDr⟩:=drive_o hKr hAt.out.1.inv.ok (by have:=hAt.out.1.last;omega) (by have:=hAt.out.1.now;omega)
   have HDR:=Lib.hid (hDr _ (Below.refl _ _) (.slice none 0 0) [] (World.ownsRow_nil _ _ _ _) (by simp))
   have hF:=FinD.drive hAt.out.2 (by have:=hAt.out.1.last;omega) (by have:=hAt.out.1.now;omega) fun i=>([]:List Bool).getD i false
   obtain⟨x1,hx1⟩:∃ x1:KW,⟨x.rs,(x.t.drive (fun i=>([]:List Bool).getD i false) 0).2⟩=x1:=⟨_,rfl⟩
   obtain⟨N,hN⟩:∃ N,x.rs.length=N:=⟨_,rfl⟩
   have hN7:N<=65536:=by have:=hAt.out.1.rs;omega
   rw[hx1,hN]at hF
   have HX:=Lib.hid hx1
   have HF:=Lib.hid hF
   clear hDr hKr hF hx1 hN
   go_wp2_with fail
   refine HDR.out.mono ?_
   rintro y w2 ⟨rfl,hK2,_⟩
   rw[HX.out]at hK2
   have HK2:=Lib.hid hK2
   clear hK2 c0
   go_wp2_with fail
   go_loopg [8] N (fun kk iv wx=>∃ (i:Nat) (y:KW),kk=N - i/\i<=N/\iv=.int .i64 i/\Hid (KO w wx wo y)/\Hid (FinD i N y))
   case atStart=>exact ⟨0,x1,by simp,by omega,rfl,HK2,HF⟩
   case round=>
    obtain⟨i,y,rfl,hi,rfl,hKy,hFy⟩:=hrel
    obtain⟨ra,rc,e1,ewl,ecs⟩:=hKy.out.rows
    rw[hFy.out.len]at e1
    by_cases hin:i<N
    ·have hinI:(i:Int)<(N:Int):=by omega
     have hi0:(0:Int)<=(i:Int):=by omega
     clear ecs
     go_upto_region 17 with fail
     refine (poll_o hKy.out HG.out hFy.out.mi.k hFy.out.small i (by rw[hFy.out.len];exact hin)).mono ?_
     rintro z w3 ⟨rfl,hK3⟩
     have hF3:=hFy.out.poll
     obtain⟨rb,rd,f1,fwl,fcs⟩:=hK3.rows
     rw[hF3.len]at f1
     obtain⟨r,hr⟩:∃ r,(y.poll i).rs[i]?=some r:=⟨_,List.getElem?_eq_getElem (by rw[hF3.len];exact hin)⟩
     obtain⟨gg,rfl,_,fc,_⟩:=fcs i r hr
     have hh:(r.how == 0)=false:=by simpa using hF3.how i r (by omega) hr
     have f4:w3.cell? ⟨gg,i*6+4,none⟩=some (.int .i64 r.how):=fc 4 _ rfl
     have HK3:=Lib.hid hK3
     have HF3:=Lib.hid hF3
     clear hK3 hF3 fcs fc hr e1
     go_wp2_with fail
     go_roundg (N - (i+1))
     case measure=>omega
     case rel=>exact ⟨i+1,_,rfl,by omega,by go_num,HK3,HF3⟩
    ·obtain rfl:i=N:=by omega
     have HE:=Lib.hid ecs
     clear ecs
     go_wp2_with fail
     go_loopg [9] i (fun kk iv wx=>∃ (j:Nat),kk=i - j/\j<=i/\iv=.int .i64 j/\Hid (Below wr.heap.size wr wx))
     case atStart=>exact ⟨0,by simp,by omega,rfl,Lib.hid (Below.refl _ _)⟩
     case round=>
      obtain⟨j,rfl,hj,rfl,hB⟩:=hrel
      have k1:=cell_later hB.out e1
      by_cases hji:j<i
      ·have hjiI:(j:Int)<(i:Int):=by omega
       have hj0:(0:Int)<=(j:Int):=by omega
       obtain⟨r,hr⟩:∃ r,y.rs[j]?=some r:=⟨_,List.getElem?_eq_getElem (by rw[hFy.out.len];exact hji)⟩
       obtain⟨gg,rfl,_,fc,_⟩:=HE.out j r hr
       have k4:=cell_later hB.out (show _=some (Value.int .i64 r.how)from fc 4 _ rfl)
       have k5:=cell_later hB.out (show _=some (Value.bool r.write)from fc 1 _ rfl)
       have HR:=Lib.hid hr
       have HM:=Lib.hid (may_k _ wo y.rs (hKy.out.krow.below hB.out) j r hr (by rw[hFy.out.len];omega))
       clear fc hr
       cases hw:r.write with
       | true=>
         rw[hw]at k5
         by_cases hh:r.how=1
         ·rw[hh]at k4
          go_wp2_with fail
          go_roundg (i - (j+1))
          case measure=>omega
          case rel=>exact ⟨j+1,rfl,by omega,by go_num,hB⟩
         ·have hhb:(r.how == 1)=false:=by simpa using hh
          go_wp2_with fail
          go_roundg (i - (j+1))
          case measure=>omega
          case rel=>exact ⟨j+1,rfl,by omega,by go_num,hB⟩
       | false=>
         rw[hw]at k5
         by_cases hh:r.how=1
         ·rw[hh]at k4
          have hm:=hFy.out.may HR.out hh hw
          rw[hm]at HM
          have HW:=Lib.hid hw
          clear hm hw
          go_wp2_with fail
          refine HM.out.mono ?_
          rintro z w4 ⟨rfl,hB4⟩
          have HB4:=Lib.hid hB4
          clear hB4
          go_wp2_with fail
          go_roundg (i - (j+1))
          case measure=>omega
          case rel=>exact ⟨j+1,rfl,by omega,by go_num,Lib.hid (hB.out.trans (HB4.out.mono hB.out.size))⟩
         ·have hhb:(r.how == 1)=false:=by simpa using hh
          go_wp2_with fail
          go_roundg (i - (j+1))
          case measure=>omega
          case rel=>exact ⟨j+1,rfl,by omega,by go_num,hB⟩
      ·obtain rfl:j=i:=by omega
       go_wp2_with fail
       go_ret
       exact⟨rfl,hKy.out.below.trans (hB.out.mono hKy.out.below.size)⟩
end
section
open Go.ChangeShapes Go.WideShapes Go.RowKit
abbrev laidL:List (String×DataW Unit):=[("errors.errorType",Rows.laid_errors_errorType)]
theorem Tryz.own:ownKnob Tryz.prog.godebug=none:=by kernel_rfl
theorem Tryz.et:Tryz.prog.globalNamed "errors.errorType" =some 0:=by kernel_rfl
theorem Tryz.rt:(Tryz.prog.cutTypes.find? (·.1 == "internal/reflectlite.rtype")).map (·.2)=some 205:=by kernel_rfl
theorem Tryz.oneRow:((List.range 286).filter fun t=>Tryz.prog.rowNamed t [101,114,114,111,114])=[81]:=by kernel_rfl
theorem Tryz.size:Tryz.prog.types.size=286:=by kernel_rfl
theorem handle_of_laid{W:World}(h:laidMetH Tryz.prog laidL W):ErrVar W:=by
 have h':laidMet Tryz.prog [] W/\handlesMet Tryz.prog laidL W:=h
 obtain⟨name,u,ty,e1,e2,e3,e4,e5⟩:=h'.2 _ (List.mem_singleton.2 rfl)
 have en:name=[101,114,114,111,114]:=(Option.some.inj e1).symm
 subst en
 obtain rfl:=Option.some.inj (Tryz.rt.symm.trans e2)
 have hm:ty∈(List.range 286).filter fun t=>Tryz.prog.rowNamed t [101,114,114,111,114]:=List.mem_filter.2 ⟨List.mem_range.2 (by rw[<-Tryz.size];exact e3),e4⟩
 rw[Tryz.oneRow]at hm
 obtain rfl:=List.mem_singleton.1 hm
 have hh:typeHandle Tryz.prog 81=.pointer (some ⟨1,81,none⟩):=by kernel_rfl
 rw[hh]at e5
 simpa using World.var?_cell Tryz.et e5 0
noncomputable def laidWorld(os:Os):World:=
 let w0:=World.holding Tryz.prog os ⟨#[],#[],[]⟩
 {w0 with heap:=w0.heap.modify 0 fun
   | .cells _ t frozen=>.cells #[rty 81] t frozen
   | o=>o}
theorem laidWorld_met(os:Os)(args:Array Value):laidMetH Tryz.prog laidL ((laidWorld os).forCall (fun _ _=>0) ⟨#[],args,[]⟩).memory:=
 laidMetH_of_parts (laidMet_nil _ _) (by kernel_rfl)
end
end Go.Proofs.YticobikhndlejaaGreatDoor
