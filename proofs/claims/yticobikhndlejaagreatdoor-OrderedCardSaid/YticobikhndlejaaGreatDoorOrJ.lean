/- Part 10 of the proof (see the last part). -/
import Derived.Test.YticobikhndlejaaGreatDoorOrI
namespace Go.Proofs.YticobikhndlejaaGreatDoor
section
open Go.RowKit Go.Shelf Go.Lib
set_option maxRecDepth 100000
abbrev noAns:Value:=.agg #[.slice none 0 0,.int .i64 0]
theorem findE_some{es:List Ent}{n:Int}{e:Ent}(h:findE es n=some e):e∈es/\e.r.num=n/\e.r.told=false:=by
 have h1:=List.find?_some h
 have h2:=List.mem_of_find?_eq_some h
 simp at h1
 exact⟨h2,h1.1,h1.2⟩
theorem ans_set{W:World}{b:Nat}{x0 x1:Value}{t:TypeId}(y0 y1:Value)(h:W.heap[b]?=some (.cells #[x0,x1] t (0,0))):
  ((W.setCell ⟨b,0,none⟩ y0).setCell ⟨b,1,none⟩ y1).heap[b]?=some (.cells #[y0,y1] t (0,0))/\Chg (fun k=>k=b) W ((W.setCell ⟨b,0,none⟩ y0).setCell ⟨b,1,none⟩ y1):=
 ⟨heap_setCell (i:=1) _ (heap_setCell (i:=0) _ h),(chg_set _).then (chg_set _)⟩
theorem Chg.to_below{S:Nat->Prop}{w W:World}{n:Nat}(h:Chg S w W)(hS:∀ k,S k->n<=k)(hn:n<=w.heap.size):Below n w W:=
 ⟨h.os,h.tape,h.output,h.size,fun k hk=>h.block k (Nat.lt_of_lt_of_le hk hn) fun hs=>by have:=hS k hs;omega⟩
theorem poll_none(q:Nat)(s:Sta)(F:Nat->Prop)(w:World)(n:Int)(h:QAt w q s F)(hf:findE s.es n=none):
  Calls Tryx.prog 36 #[ptr q,.int .i64 n] w fun x w'=>x=.returned (.tuple #[noAns,errK 5])/\Below w.heap.size w w':=by
 obtain⟨tb,mb,clock,fv,hq,hF⟩:=h
 obtain⟨W0,hW0⟩:∃ W0,w.alloc (.cells #[.slice none 0 0,.int .i64 0] 43)=W0:=⟨_,rfl⟩
 have hB0:Below w.heap.size w W0:=by rw[<-hW0];exact (Below.refl _ _).alloc (Nat.le_refl _) _
 have hr0:W0.heap[w.heap.size]?=some (.cells #[.slice none 0 0,.int .i64 0] 43 (0,0)):=by rw[<-hW0];exact World.alloc_heap_new w _
 have hq:=hq.kept (chgB hB0 fun _=>False) fun _ _ x=>x
 have c1:=hq.c1
 have HQ:=Lib.hid hq
 have hfc:=find_any tb mb clock s.last s.held n s.es
 rw[hf]at hfc
 have HC:=Lib.hid hfc
 have r0:W0.cell? ⟨w.heap.size,0,none⟩=some (.slice none 0 0):=cell_of hr0 rfl
 have r1:W0.cell? ⟨w.heap.size,1,none⟩=some (.int .i64 0):=cell_of hr0 rfl
 have rf:∀ i,W0.frozen? ⟨w.heap.size,i,none⟩=false:=fun i=>free_of hr0
 have HB:=Lib.hid hB0
 have HR:=Lib.hid hr0
 clear hq hF hfc hf hB0 hr0
 go_enter Tryx.func36,Tryz.ntmps36
 go_wp2_with fail
 refine (HC.out W0 HQ.out.tab).mono ?_
 rintro x w1 ⟨rfl,rfl⟩
 go_wp2_with fail
 obtain⟨e5,hc5⟩:=ans_set (W:=w1) (.slice none 0 0) (.int .i64 0) HR.out
 obtain⟨W5,hW5⟩:∃ W5,((w1.setCell ⟨w.heap.size,0,none⟩ (.slice none 0 0)).setCell ⟨w.heap.size,1,none⟩ (.int .i64 0))=W5:=⟨_,rfl⟩
 rw[hW5]at e5 hc5 ⊢
 have z0:W5.cell? ⟨w.heap.size,0,none⟩=some (.slice none 0 0):=cell_of e5 rfl
 have z1:W5.cell? ⟨w.heap.size,1,none⟩=some (.int .i64 0):=cell_of e5 rfl
 refine bodyPost_ret (v:=.tuple #[noAns,errK 5]) (by simp[results,Tryz.results36,go_sem,z0,z1]) rfl ⟨rfl,?_⟩
 exact HB.out.trans (hc5.to_below (fun k hk=>by omega) HB.out.size)
theorem poll_pend(q:Nat)(s:Sta)(F:Nat->Prop)(w:World)(n:Int)(e:Ent)(h:QAt w q s F)(hf:findE s.es n=some e)(hs:e.r.state=0\/e.r.state=1):
  Calls Tryx.prog 36 #[ptr q,.int .i64 n] w fun x w'=>∃ b,x=.returned (.tuple #[noAns,errR b])/\ReqErr w' b n e.r.tries 6/\w.heap.size<=b/\Below w.heap.size w w':=by
 obtain⟨tb,mb,clock,fv,hq,hF⟩:=h
 obtain⟨hem,hen,het⟩:=findE_some hf
 obtain⟨W0,hW0⟩:∃ W0,w.alloc (.cells #[.slice none 0 0,.int .i64 0] 43)=W0:=⟨_,rfl⟩
 have hB0:Below w.heap.size w W0:=by rw[<-hW0];exact (Below.refl _ _).alloc (Nat.le_refl _) _
 have hr0:W0.heap[w.heap.size]?=some (.cells #[.slice none 0 0,.int .i64 0] 43 (0,0)):=by rw[<-hW0];exact World.alloc_heap_new w _
 have hq:=hq.kept (chgB hB0 fun _=>False) fun _ _ x=>x
 have c1:=hq.c1
 have hreq:=hq.tab.reqs e hem
 have c7:=hreq.at.c7
 have HQ:=Lib.hid hq
 have hfc:=find_any tb mb clock s.last s.held n s.es
 rw[hf]at hfc
 have HC:=Lib.hid hfc
 have HFL:=Lib.hid (fail_any e.p e.r 6 W0 hreq)
 have HB:=Lib.hid hB0
 have HR:=Lib.hid hr0
 have HN:=Lib.hid hen
 have hbs:W0.heap.size=w.heap.size+1:=by rw[<-hW0];simp
 clear hq hF hfc hf hB0 hr0 hreq hem hen het
 rcases hs with hs | hs <;> rw[hs]at c7
 all_goals
  go_enter Tryx.func36,Tryz.ntmps36
  go_wp2_with fail
  refine (HC.out W0 HQ.out.tab).mono ?_
  rintro x w1 ⟨rfl,rfl⟩
  dsimp only
  go_wp2_with fail
  refine HFL.out.mono ?_
  rintro x w2 ⟨b,rfl,hE,hb,hB2⟩
  have hr2:=(hB2.block w.heap.size (lt_of_heap HR.out)).trans HR.out
  have r0:w2.cell? ⟨w.heap.size,0,none⟩=some (.slice none 0 0):=cell_of hr2 rfl
  have r1:w2.cell? ⟨w.heap.size,1,none⟩=some (.int .i64 0):=cell_of hr2 rfl
  have rf:∀ i,w2.frozen? ⟨w.heap.size,i,none⟩=false:=fun i=>free_of hr2
  have HE:=Lib.hid hE
  have HB2:=Lib.hid hB2
  have HR2:=Lib.hid hr2
  have hbl:=hE.lt
  clear hE hB2 hr2
  go_wp2_with fail
  obtain⟨e5,hc5⟩:=ans_set (W:=w2) (.slice none 0 0) (.int .i64 0) HR2.out
  obtain⟨W5,hW5⟩:∃ W5,((w2.setCell ⟨w.heap.size,0,none⟩ (.slice none 0 0)).setCell ⟨w.heap.size,1,none⟩ (.int .i64 0))=W5:=⟨_,rfl⟩
  rw[hW5]at e5 hc5 ⊢
  have z0:W5.cell? ⟨w.heap.size,0,none⟩=some (.slice none 0 0):=cell_of e5 rfl
  have z1:W5.cell? ⟨w.heap.size,1,none⟩=some (.int .i64 0):=cell_of e5 rfl
  (try simp only[Exit.inBlock,Exit.then])
  refine bodyPost_ret (v:=.tuple #[noAns,errR b]) (by simp[results,Tryz.results36,go_sem,z0,z1]) rfl ⟨b,rfl,?_,by omega,?_⟩
  ·have:=HE.out.chg hc5 (by omega)
   rw[HN.out]at this;exact this
  ·exact (HB.out.trans (HB2.out.mono HB.out.size)).trans (hc5.to_below (fun k hk=>by omega) (Nat.le_trans HB.out.size HB2.out.size))
theorem tab_tells{w W:World}{q tb mb clock:Nat}{fv:Value}{s:Sta}(h:QB w q tb mb clock fv s){e:Ent}(he:e∈s.es)(hT:TabB W tb mb clock s.last (s.held - 1) (tellE s.es e))(hc:Chg (fun k=>k=tb\/k=mb\/k=e.p) w W):
  QB W q tb mb clock fv {s with es:=tellE s.es e,held:=s.held - 1}:=
 h.tabs clock {s with es:=tellE s.es e,held:=s.held - 1} ⟨rfl,rfl,rfl,rfl⟩ rfl hT hc fun _k hk=>hk.imp id fun h=>h.imp id fun h=>⟨e,he,h⟩
theorem mem_tellE{es:List Ent}{e x:Ent}(h:x∈tellE es e):∃ y∈es,y.p=x.p:=by
 have h1:x∈updE es e.r.num tellR:=by
  unfold tellE landE at h
  split at h
  ·exact (List.mem_filter.1 h).1
  ·exact h
 obtain⟨y,hy,rfl⟩:=List.mem_map.1 h1
 exact⟨y,hy,by split <;> rfl⟩
theorem foot_tell{q tb mb:Nat}{fv:Value}{s:Sta}{e:Ent}{k:Nat}{x:Int}(hk:QFoot q tb mb fv {s with es:=tellE s.es e,held:=x} k):QFoot q tb mb fv s k:=by
 rcases hk with h | h | h | h |⟨x,hx,h⟩ | h
 ·exact .inl h
 ·exact .inr (.inl h)
 ·exact .inr (.inr (.inl h))
 ·exact .inr (.inr (.inr (.inl h)))
 ·obtain⟨y,hy,hyx⟩:=mem_tellE hx
  exact .inr (.inr (.inr (.inr (.inl ⟨y,hy,h.trans hyx.symm⟩))))
 ·exact .inr (.inr (.inr (.inr (.inr h))))
theorem foot_tabs3{q tb mb:Nat}{fv:Value}{s:Sta}{e:Ent}(he:e∈s.es){k:Nat}(hk:k=tb\/k=mb\/k=e.p):QFoot q tb mb fv s k:=by
 rcases hk with h | h | h
 ·exact .inr (.inl h)
 ·exact .inr (.inr (.inl h))
 ·exact .inr (.inr (.inr (.inr (.inl ⟨e,he,h⟩))))
theorem poll_bad(q:Nat)(s:Sta)(F:Nat->Prop)(w:World)(n:Int)(e:Ent)(k:Int)(h:QAt w q s F)(hf:findE s.es n=some e)(hs:(e.r.state=3/\k=7)\/(e.r.state=4/\k=8))(hh:0<=s.held/\s.held<=2 ^ 60):
  Calls Tryx.prog 36 #[ptr q,.int .i64 n] w fun x w'=>∃ b,x=.returned (.tuple #[noAns,errR b])/\ReqErr w' b n e.r.tries k/\w.heap.size<=b/\
   QAt w' q {s with es:=tellE s.es e,held:=s.held - 1} F/\Chg F w w':=by
 obtain⟨tb,mb,clock,fv,hq,hF⟩:=h
 obtain⟨hem,hen,het⟩:=findE_some hf
 obtain⟨W0,hW0⟩:∃ W0,w.alloc (.cells #[.slice none 0 0,.int .i64 0] 43)=W0:=⟨_,rfl⟩
 have hB0:Below w.heap.size w W0:=by rw[<-hW0];exact (Below.refl _ _).alloc (Nat.le_refl _) _
 have hr0:W0.heap[w.heap.size]?=some (.cells #[.slice none 0 0,.int .i64 0] 43 (0,0)):=by rw[<-hW0];exact World.alloc_heap_new w _
 have hq0:=hq
 have hq:=hq.kept (chgB hB0 fun _=>False) fun _ _ x=>x
 have c1:=hq.c1
 have hreq:=hq.tab.reqs e hem
 have c7:=hreq.at.c7
 have HQ:=Lib.hid hq
 have HQ0:=Lib.hid hq0
 have hfc:=find_any tb mb clock s.last s.held n s.es
 rw[hf]at hfc
 have HC:=Lib.hid hfc
 have HFL:=Lib.hid (fail_any e.p e.r k W0 hreq)
 have HB:=Lib.hid hB0
 have HR:=Lib.hid hr0
 have HN:=Lib.hid hen
 have HM:=Lib.hid hem
 have HF:=Lib.hid hF
 have hbs:W0.heap.size=w.heap.size+1:=by rw[<-hW0];simp
 have hqlt:=lt_of_heap hq.que
 clear hq hq0 hF hfc hf hB0 hr0 hreq hem hen het
 rcases hs with ⟨hs,rfl⟩ |⟨hs,rfl⟩ <;> rw[hs]at c7
 all_goals
  go_enter Tryx.func36,Tryz.ntmps36
  go_wp2_with fail
  refine (HC.out W0 HQ.out.tab).mono ?_
  rintro x w1 ⟨rfl,rfl⟩
  dsimp only
  go_wp2_with fail
  refine HFL.out.mono ?_
  rintro x w2 ⟨b,rfl,hE,hb,hB2⟩
  have d1:w2.cell? ⟨q,1,none⟩=some (ptr tb):=(hB2.cell (p:=⟨q,1,none⟩) hqlt).trans c1
  have HQ2:=Lib.hid (HQ.out.kept (chgB hB2 fun _=>False) fun _ _ x=>x)
  have HE:=Lib.hid hE
  have HB2:=Lib.hid hB2
  have hbl:=hE.lt
  clear hE hB2 c1
  go_wp2_with fail
  refine (tell_any tb mb clock s.last s.held s.es w2 HQ2.out.tab e HM.out hh).mono ?_
  rintro x w3 ⟨rfl,hT,hc3,_⟩
  have hnn:∀ k,w.heap.size<=k->¬(k=tb\/k=mb\/k=e.p):=fun k hk h=>by
   have h1:=lt_of_heap HQ0.out.tab.tab
   have h2:=lt_of_heap HQ0.out.tab.map
   have h3:=lt_of_heap (HQ0.out.tab.reqs e HM.out)
   rcases h with h | h | h <;> omega
  have hr3:=(hc3.block w.heap.size (Nat.lt_of_lt_of_le (lt_of_heap HR.out) HB2.out.size) (hnn _ (Nat.le_refl _))).trans ((HB2.out.block w.heap.size (lt_of_heap HR.out)).trans HR.out)
  have r0:w3.cell? ⟨w.heap.size,0,none⟩=some (.slice none 0 0):=cell_of hr3 rfl
  have r1:w3.cell? ⟨w.heap.size,1,none⟩=some (.int .i64 0):=cell_of hr3 rfl
  have rf:∀ i,w3.frozen? ⟨w.heap.size,i,none⟩=false:=fun i=>free_of hr3
  have HE3:=Lib.hid (HE.out.chg hc3 (hnn _ (by omega)))
  have HC3:=Lib.hid hc3
  have HQ3:=Lib.hid (tab_tells HQ2.out HM.out hT hc3)
  have HR3:=Lib.hid hr3
  clear hT hc3 hr3 hnn
  go_wp2_with fail
  obtain⟨e5,hc5⟩:=ans_set (W:=w3) (.slice none 0 0) (.int .i64 0) HR3.out
  obtain⟨W5,hW5⟩:∃ W5,((w3.setCell ⟨w.heap.size,0,none⟩ (.slice none 0 0)).setCell ⟨w.heap.size,1,none⟩ (.int .i64 0))=W5:=⟨_,rfl⟩
  rw[hW5]at e5 hc5 ⊢
  have z0:W5.cell? ⟨w.heap.size,0,none⟩=some (.slice none 0 0):=cell_of e5 rfl
  have z1:W5.cell? ⟨w.heap.size,1,none⟩=some (.int .i64 0):=cell_of e5 rfl
  (try simp only[Exit.inBlock,Exit.then])
  refine bodyPost_ret (v:=.tuple #[noAns,errR b]) (by simp[results,Tryz.results36,go_sem,z0,z1]) rfl ⟨b,rfl,?_,by omega,⟨tb,mb,clock,fv,HQ3.out.kept hc5 ?_,?_⟩,?_⟩
  ·have:=HE3.out.chg hc5 (by omega)
   rw[HN.out]at this;exact this
  ·intro k hk hk2
   have:=HQ0.out.foot_lt (foot_tell hk)
   omega
  ·exact fun k hk=>HF.out k (foot_tell hk)
  ·exact (((chgB HB.out F).of_below HB2.out).then (HC3.out.mono fun k _ hk=>HF.out k (foot_tabs3 HM.out hk))).trans (hc5.mono fun k _ hk=>.inr (by omega))
theorem Tryz.infoB:(Tryx.prog.info? 5).map (fun i=>(i.zero,i.size,i.bytes))=some (some (.int .u8 0),1,1):=by kernel_rfl
def b4Cells(d:B4):List Value:=[.int .u8 d.a,.int .u8 d.b,.int .u8 d.c,.int .u8 d.d]
theorem poll_write(q:Nat)(s:Sta)(F:Nat->Prop)(w:World)(n:Int)(e:Ent)(h:QAt w q s F)(hf:findE s.es n=some e)(hs:e.r.state=2)(hwt:e.r.write=true)(hh:0<=s.held/\s.held<=2 ^ 60):
  Calls Tryx.prog 36 #[ptr q,.int .i64 n] w fun x w'=>x=.returned (.tuple #[.agg #[.slice none 0 0,.int .i64 e.r.tries],.nilIface])/\
   QAt w' q {s with es:=tellE s.es e,held:=s.held - 1} F/\Chg F w w':=by
 obtain⟨tb,mb,clock,fv,hq,hF⟩:=h
 obtain⟨hem,hen,het⟩:=findE_some hf
 obtain⟨W0,hW0⟩:∃ W0,w.alloc (.cells #[.slice none 0 0,.int .i64 0] 43)=W0:=⟨_,rfl⟩
 have hB0:Below w.heap.size w W0:=by rw[<-hW0];exact (Below.refl _ _).alloc (Nat.le_refl _) _
 have hr0:W0.heap[w.heap.size]?=some (.cells #[.slice none 0 0,.int .i64 0] 43 (0,0)):=by rw[<-hW0];exact World.alloc_heap_new w _
 have hq0:=hq
 have hq:=hq.kept (chgB hB0 fun _=>False) fun _ _ x=>x
 have c1:=hq.c1
 have hreq:=hq.tab.reqs e hem
 have c7:=hreq.at.c7
 have HQ:=Lib.hid hq
 have HQ0:=Lib.hid hq0
 have hfc:=find_any tb mb clock s.last s.held n s.es
 rw[hf]at hfc
 have HC:=Lib.hid hfc
 have HB:=Lib.hid hB0
 have HR:=Lib.hid hr0
 have HM:=Lib.hid hem
 have HF:=Lib.hid hF
 have hqlt:=lt_of_heap hq.que
 have hew:=lt_of_heap hreq
 have hbs:W0.heap.size=w.heap.size+1:=by rw[<-hW0];simp
 rw[hs]at c7
 clear hq hq0 hF hfc hf hB0 hr0 hreq hem hen het hs
 go_enter Tryx.func36,Tryz.ntmps36
 go_wp2_with fail
 refine (HC.out W0 HQ.out.tab).mono ?_
 rintro x w1 ⟨rfl,rfl⟩
 dsimp only
 go_wp2_with fail
 refine (tell_any tb mb clock s.last s.held s.es w1 HQ.out.tab e HM.out hh).mono ?_
 rintro x w3 ⟨rfl,hT,hc3,hRQ⟩
 have hnn:∀ k,w.heap.size<=k->¬(k=tb\/k=mb\/k=e.p):=fun k hk h=>by
  have h1:=lt_of_heap HQ0.out.tab.tab
  have h2:=lt_of_heap HQ0.out.tab.map
  have h3:=lt_of_heap (HQ0.out.tab.reqs e HM.out)
  rcases h with h | h | h <;> omega
 have hr3:=(hc3.block w.heap.size (lt_of_heap HR.out) (hnn _ (Nat.le_refl _))).trans HR.out
 have r0:w3.cell? ⟨w.heap.size,0,none⟩=some (.slice none 0 0):=cell_of hr3 rfl
 have r1:w3.cell? ⟨w.heap.size,1,none⟩=some (.int .i64 0):=cell_of hr3 rfl
 have rf:∀ i,w3.frozen? ⟨w.heap.size,i,none⟩=false:=fun i=>free_of hr3
 have d1:=hRQ.at.c1
 have d8:=hRQ.at.c8
 have e1:(tellR e.r).write=true:=hwt
 have e8:(tellR e.r).tries=e.r.tries:=rfl
 rw[e1]at d1
 rw[e8]at d8
 have HC3:=Lib.hid hc3
 have HRQ3:=Lib.hid hRQ
 have HQ3:=Lib.hid (tab_tells HQ.out HM.out hT hc3)
 have HR3:=Lib.hid hr3
 have hrl:=lt_of_heap hr3
 have hel:=lt_of_heap hRQ
 clear hT hc3 hr3 hnn hRQ e1 e8
 go_wp2_with fail
 obtain⟨e5,hc5⟩:=ans_set (W:=w3) (.slice none 0 0) (.int .i64 e.r.tries) HR3.out
 obtain⟨W5,hW5⟩:∃ W5,(((w3.setCell ⟨w.heap.size,0,none⟩ (.slice none 0 0)).setCell ⟨w.heap.size,1,none⟩ (.int .i64 e.r.tries)).alloc (.cells #[.slice none 0 0,.int .i64 e.r.tries] 43))=W5:=⟨_,rfl⟩
 have hc6:Chg (fun k=>k=w.heap.size) w3 W5:=by rw[<-hW5];exact hc5.alloc _
 have e6:W5.heap[w.heap.size]?=some (.cells #[.slice none 0 0,.int .i64 e.r.tries] 43 (0,0)):=by
  rw[<-hW5];exact (Below.heap_alloc _ _ _ (lt_of_heap e5)).trans e5
 rw[hW5]
 have z0:W5.cell? ⟨w.heap.size,0,none⟩=some (.slice none 0 0):=cell_of e6 rfl
 have z1:W5.cell? ⟨w.heap.size,1,none⟩=some (.int .i64 e.r.tries):=cell_of e6 rfl
 refine bodyPost_ret (v:=.tuple #[.agg #[.slice none 0 0,.int .i64 e.r.tries],.nilIface]) (by simp[results,Tryz.results36,go_sem,z0,z1]) rfl ⟨rfl,⟨tb,mb,clock,fv,HQ3.out.kept hc6 ?_,?_⟩,?_⟩
 ·intro k hk hk2
  have:=HQ0.out.foot_lt (foot_tell hk)
  omega
 ·exact fun k hk=>HF.out k (foot_tell hk)
 ·exact ((chgB HB.out F).then (HC3.out.mono fun k _ hk=>HF.out k (foot_tabs3 HM.out hk))).trans (hc6.mono fun k _ hk=>.inr (by omega))
theorem poll_read(q:Nat)(s:Sta)(F:Nat->Prop)(w:World)(n:Int)(e:Ent)(h:QAt w q s F)(hf:findE s.es n=some e)(hs:e.r.state=2)(hwt:e.r.write=false)(hh:0<=s.held/\s.held<=2 ^ 60):
  Calls Tryx.prog 36 #[ptr q,.int .i64 n] w fun x w'=>∃ v F',x=.returned (.tuple #[.agg #[v,.int .i64 e.r.tries],.nilIface])/\
   QAt w' q {s with es:=tellE s.es e,held:=s.held - 1} F'/\(∀ k,F' k->F k\/w.heap.size<=k)/\(∀ k,v.ownBlock=some k->¬F' k)/\Chg F w w'/\w'.ownsRow w.heap.size 5 1 v 4 (b4Cells e.r.data):=by
 obtain⟨tb,mb,clock,fv,hq,hF⟩:=h
 obtain⟨hem,hen,het⟩:=findE_some hf
 obtain⟨W0,hW0⟩:∃ W0,w.alloc (.cells #[.slice none 0 0,.int .i64 0] 43)=W0:=⟨_,rfl⟩
 have hB0:Below w.heap.size w W0:=by rw[<-hW0];exact (Below.refl _ _).alloc (Nat.le_refl _) _
 have hr0:W0.heap[w.heap.size]?=some (.cells #[.slice none 0 0,.int .i64 0] 43 (0,0)):=by rw[<-hW0];exact World.alloc_heap_new w _
 have hq0:=hq
 have hq:=hq.kept (chgB hB0 fun _=>False) fun _ _ x=>x
 have c1:=hq.c1
 have hreq:=hq.tab.reqs e hem
 have c7:=hreq.at.c7
 have HQ:=Lib.hid hq
 have HQ0:=Lib.hid hq0
 have hfc:=find_any tb mb clock s.last s.held n s.es
 rw[hf]at hfc
 have HC:=Lib.hid hfc
 have HB:=Lib.hid hB0
 have HR:=Lib.hid hr0
 have HM:=Lib.hid hem
 have HF:=Lib.hid hF
 have hqlt:=lt_of_heap hq.que
 have hew:=lt_of_heap hreq
 have hbs:W0.heap.size=w.heap.size+1:=by rw[<-hW0];simp
 rw[hs]at c7
 clear hq hq0 hF hfc hf hB0 hr0 hreq hem hen het hs
 go_enter Tryx.func36,Tryz.ntmps36
 go_wp2_with fail
 refine (HC.out W0 HQ.out.tab).mono ?_
 rintro x w1 ⟨rfl,rfl⟩
 dsimp only
 go_wp2_with fail
 refine (tell_any tb mb clock s.last s.held s.es w1 HQ.out.tab e HM.out hh).mono ?_
 rintro x w3 ⟨rfl,hT,hc3,hRQ⟩
 have hnn:∀ k,w.heap.size<=k->¬(k=tb\/k=mb\/k=e.p):=fun k hk h=>by
  have h1:=lt_of_heap HQ0.out.tab.tab
  have h2:=lt_of_heap HQ0.out.tab.map
  have h3:=lt_of_heap (HQ0.out.tab.reqs e HM.out)
  rcases h with h | h | h <;> omega
 have hr3:=(hc3.block w.heap.size (lt_of_heap HR.out) (hnn _ (Nat.le_refl _))).trans HR.out
 have r0:w3.cell? ⟨w.heap.size,0,none⟩=some (.slice none 0 0):=cell_of hr3 rfl
 have r1:w3.cell? ⟨w.heap.size,1,none⟩=some (.int .i64 0):=cell_of hr3 rfl
 have rf:∀ i,w3.frozen? ⟨w.heap.size,i,none⟩=false:=fun i=>free_of hr3
 have d1:=hRQ.at.c1
 have d8:=hRQ.at.c8
 have e1:(tellR e.r).write=false:=hwt
 have e8:(tellR e.r).tries=e.r.tries:=rfl
 rw[e1]at d1
 rw[e8]at d8
 have HC3:=Lib.hid hc3
 have HRQ3:=Lib.hid hRQ
 have HQ3:=Lib.hid (tab_tells HQ.out HM.out hT hc3)
 have HR3:=Lib.hid hr3
 have hrl:=lt_of_heap hr3
 have hel:=lt_of_heap hRQ
 clear hT hc3 hr3 hnn hRQ e1 e8
 go_wp2_with fail
 obtain⟨i0,hi,hz0,hz1,hz2⟩:=info_parts Tryz.infoB
 obtain⟨W4,hW4⟩:∃ W4,w3.alloc (.cells #[.slice none 0 0,.int .i64 e.r.tries] 43)=W4:=⟨_,rfl⟩
 have hb4:Below w3.heap.size w3 W4:=by rw[<-hW4];exact (Below.refl _ _).alloc (Nat.le_refl _) _
 have hs4:W4.heap.size=w3.heap.size+1:=by rw[<-hW4];simp
 have hr4:W4.heap[w3.heap.size]?=some (.cells #[.slice none 0 0,.int .i64 e.r.tries] 43 (0,0)):=by rw[<-hW4];exact World.alloc_heap_new w3 _
 have hq4:W4.heap[e.p]?=some (.cells (reqCells (tellR e.r)) 96 (0,0)):=(hb4.block _ hel).trans HRQ3.out
 have a0:W4.cell? ⟨w3.heap.size,0,none⟩=some (.slice none 0 0):=cell_of hr4 rfl
 have a1:W4.cell? ⟨w3.heap.size,1,none⟩=some (.int .i64 e.r.tries):=cell_of hr4 rfl
 have af:∀ i,W4.frozen? ⟨w3.heap.size,i,none⟩=false:=fun i=>free_of hr4
 have hrow0:W4.drew.ownsRow (w3.heap.size+1) 5 1 (.slice none 0 0) 0 []:=World.ownsRow_nil _ _ _ _
 have hnews:∀ j u,(b4Cells e.r.data)[j]?=some u->W4.drew.cell? ((⟨e.p,3,none⟩:Addr).add j)=some u:=fun j u hu=>by
  have hA:=ReqB.at (w:=W4) hq4
  match j,hu with
  | 0,hu=>simp [b4Cells]at hu;subst hu;exact hA.c3
  | 1,hu=>simp [b4Cells]at hu;subst hu;exact hA.c4
  | 2,hu=>simp [b4Cells]at hu;subst hu;exact hA.c5
  | 3,hu=>simp [b4Cells]at hu;subst hu;exact hA.c6
  | j+4,hu=>simp [b4Cells]at hu
 have HNW:=Lib.hid hnews
 have HR4:=Lib.hid hr4
 have HB4:=Lib.hid hb4
 have helt4:e.p<W4.heap.size:=by omega
 rw[hW4]
 clear hnews hr4 hb4 hq4 hW4
 go_region_law
  ((refine step_append_lies _ (by rfl) _ _ _ (by rfl) (w3.heap.size+1) 5 i0 _ 1 1 Tryx.underlying41 hi hz0 hz1 hz2 rfl (by omega) (.slice none 0 0) 0 [] (by rfl) hrow0
     ⟨e.p,3,none⟩ 4 4 (b4Cells e.r.data) (by rfl) (by rfl) HNW.out (by simp[b4Cells,Value.oneCell'])
     (by omega) (by unfold maxLen;omega) (by omega) (by simp;omega) (w3.heap.size+1) (by simp;omega) ?_;intro gg cap2 w1 hown1 hgrow hat hltg
    have z2:=hgrow.cell (a:=⟨w3.heap.size,0,none⟩) (v:=.slice none 0 0) (by go_keep) (by simp[Value.ownBlock])
    have z4:=hgrow.cell (a:=⟨w3.heap.size,1,none⟩) (v:=.int .i64 e.r.tries) (by go_keep) (by simp[Value.ownBlock])
    have z3:=grown_free hgrow (a:=⟨w3.heap.size,0,none⟩) (v:=.slice none 0 0) (by go_keep) (by simp[*]) (by simp[Value.ownBlock])))
 have hge:w3.heap.size<gg:=by
  rcases hat with h1 | h1
  ·simp[Value.ownBlock]at h1
  ·omega
 have hrw:w1.heap[w.heap.size]?=w3.heap[w.heap.size]?:=(hgrow.block w.heap.size (by simp;omega) (by simp[Value.ownBlock])).trans (HB4.out.block _ hrl)
 have hr1:w1.heap[w3.heap.size]?=some (.cells #[.slice none 0 0,.int .i64 e.r.tries] 43 (0,0)):=(hgrow.block w3.heap.size (by simp;omega) (by simp[Value.ownBlock])).trans HR4.out
 obtain⟨W6,hW6⟩:∃ W6,w1.setCell ⟨w3.heap.size,0,none⟩ (.slice (some ⟨gg,0,none⟩) 4 cap2)=W6:=⟨_,rfl⟩
 have hr6:W6.heap[w3.heap.size]?=some (.cells #[.slice (some ⟨gg,0,none⟩) 4 cap2,.int .i64 e.r.tries] 43 (0,0)):=by rw[<-hW6];exact heap_setCell (i:=0) _ hr1
 have hc16:Chg (fun k=>k=w3.heap.size) w1 W6:=by rw[<-hW6];exact chg_set _
 have hq6:W6.heap[w.heap.size]?=some (.cells #[.slice none 0 0,.int .i64 0] 43 (0,0)):=(hc16.block w.heap.size (by omega) (by omega)).trans (hrw.trans HR3.out)
 have k0:W6.cell? ⟨w3.heap.size,0,none⟩=some (.slice (some ⟨gg,0,none⟩) 4 cap2):=cell_of hr6 rfl
 have k1:W6.cell? ⟨w3.heap.size,1,none⟩=some (.int .i64 e.r.tries):=cell_of hr6 rfl
 have l0:W6.cell? ⟨w.heap.size,0,none⟩=some (.slice none 0 0):=cell_of hq6 rfl
 have l1:W6.cell? ⟨w.heap.size,1,none⟩=some (.int .i64 0):=cell_of hq6 rfl
 have lf:∀ i,W6.frozen? ⟨w.heap.size,i,none⟩=false:=fun i=>free_of hq6
 have hown6:W6.ownsRow (w3.heap.size+1) 5 1 (.slice (some ⟨gg,0,none⟩) 4 cap2) 4 (b4Cells e.r.data):=ownsRow_chg (by simpa using hown1) hc16 fun k hk hh=>by
  simp[Value.ownBlock]at hk;omega
 have hc36:Chg (fun _=>False) w3 W6:=((chgB HB4.out _).drew.grown hgrow (by simp[Value.ownBlock])).trans (hc16.mono fun k _ hk=>.inr (by omega))
 have HQ6:=Lib.hid hq6
 have HO6:=Lib.hid hown6
 have HC36:=Lib.hid hc36
 rw[hW6]
 clear hrw hr1 hW6 hr6 hc16 hq6 hown6 hc36 hgrow hown1 hat z2 z3 z4
 go_wp2_with fail
 obtain⟨e5,hc5⟩:=ans_set (W:=W6) (.slice (some ⟨gg,0,none⟩) 4 cap2) (.int .i64 e.r.tries) HQ6.out
 obtain⟨W7,hW7⟩:∃ W7,((W6.setCell ⟨w.heap.size,0,none⟩ (.slice (some ⟨gg,0,none⟩) 4 cap2)).setCell ⟨w.heap.size,1,none⟩ (.int .i64 e.r.tries))=W7:=⟨_,rfl⟩
 rw[hW7]at e5 hc5 ⊢
 have y0:W7.cell? ⟨w.heap.size,0,none⟩=some (.slice (some ⟨gg,0,none⟩) 4 cap2):=cell_of e5 rfl
 have y1:W7.cell? ⟨w.heap.size,1,none⟩=some (.int .i64 e.r.tries):=cell_of e5 rfl
 have hcF3:Chg F w w3:=(chgB HB.out F).then (HC3.out.mono fun k _ hk=>HF.out k (foot_tabs3 HM.out hk))
 have hb36:=HC36.out.size
 refine bodyPost_ret (v:=.tuple #[.agg #[.slice (some ⟨gg,0,none⟩) 4 cap2,.int .i64 e.r.tries],.nilIface]) (by simp[results,Tryz.results36,go_sem,y0,y1]) rfl
  ⟨.slice (some ⟨gg,0,none⟩) 4 cap2,fun k=>F k/\k<w3.heap.size,rfl,⟨tb,mb,clock,fv,((HQ3.out.kept HC36.out fun _ _ x=>x).kept hc5 ?_),?_⟩,fun k hk=>.inl hk.1,?_,?_,?_⟩
 ·intro k hk hk2
  have:=HQ0.out.foot_lt (foot_tell hk)
  omega
 ·exact fun k hk=>⟨HF.out k (foot_tell hk),HQ3.out.foot_lt hk⟩
 ·intro k hk hk2
  simp[Value.ownBlock]at hk;omega
 ·exact (hcF3.then (HC36.out.mono fun _ _ h=>h.elim)).trans (hc5.mono fun k _ hk=>.inr (by omega))
 ·exact ownsRow_chg (ownsRow_low HO6.out (by omega)) hc5 fun k hk hh=>by
   simp[Value.ownBlock]at hk;omega
end
section
open Go.RowKit Go.Shelf Go.Lib
section
variable {P:Program}
end
theorem QB.landed{w W:World}{q tb mb clock:Nat}{fv:Value}{s:Sta}(h:QB w q tb mb clock fv s){e:Ent}(he:e∈s.es){r':Req}{disk':List Int}(hr:r'.num=e.r.num/\r'.page=e.r.page)(hd:disk'.length=64)
  (hque:W.heap[q]?=some (.cells (qCells tb fv {s with disk:=disk'}) 89 (0,0))) (hreq:ReqB W e.p r') (hc:Chg (fun k=>k=q\/k=e.p) w W):
  QB W q tb mb clock fv {s with es:=updE s.es e.r.num (fun r=>if r.num=e.r.num then r' else r),disk:=disk'}:=by
 have hne:=h.ne_qp he
 have hlt:=lt_of_heap (h.tab.reqs e he)
 obtain⟨W1,hW1⟩:∃ W1,w.putObj e.p (.cells (reqCells r') 96 (0,0))=W1:=⟨_,rfl⟩
 have hb1:ReqB W1 e.p r':=by rw[<-hW1];exact World.putObj_heap_same hlt
 have hc1:Chg (fun k=>k=e.p) w W1:=by rw[<-hW1];exact chg_put _
 have hc2:Chg (fun k=>k=q) W1 W:=by
  refine⟨hc.os.trans hc1.os.symm,hc.tape.trans hc1.tape.symm,hc.output.trans hc1.output.symm,?_,fun k hk hn=>?_⟩
  ·have:W1.heap.size=w.heap.size:=by rw[<-hW1];simp[World.putObj]
   rw[this];exact hc.size
  ·by_cases hke:k=e.p
   ·subst hke;rw[hreq,hb1]
   ·have hkw:k<w.heap.size:=by
     have:W1.heap.size=w.heap.size:=by rw[<-hW1];simp[World.putObj]
     omega
    rw[hc.block k hkw (by rintro (h | h);exact hn h;exact hke h),hc1.block k hkw hke]
 have hf:∀ r:Req,(if r.num=e.r.num then r' else r).num=r.num:=fun r=>by
  split
  ·rename_i hh;rw[hh,hr.1]
  ·rfl
 have hT1:TabB W1 tb mb clock s.last s.held (updE s.es e.r.num fun r=>if r.num=e.r.num then r' else r):=by
  have hok:EntsOk (updE s.es e.r.num fun r=>if r.num=e.r.num then r' else r):=by
   have hu:(updE s.es e.r.num fun r=>if r.num=e.r.num then r' else r)=updE s.es e.r.num fun r=>{(if r.num=e.r.num then r' else r)with page:=r.page}:=by
    refine List.map_congr_left fun x hx=>?_
    split
    ·rename_i hh
     obtain⟨l1,l2,e1,h1,h2⟩:=h.tab.ok.split he
     have hxe:x=e:=by
      rw[e1]at hx
      rcases List.mem_append.1 hx with hx | hx
      ·exact absurd hh (h1 x hx)
      ·rcases List.mem_cons.1 hx with hx | hx
       ·exact hx
       ·exact absurd hh (h2 x hx)
     subst hxe
     simp only[if_true]
     have:({r' with page:=x.r.page}:Req)=r':=by rw[<-hr.2]
     rw[this]
    ·rfl
   rw[hu]
   exact h.tab.ok.upd _ _ fun r=>⟨hf r,rfl⟩
  obtain⟨l1,l2,e1,h1,h2⟩:=h.tab.ok.split he
  have hes:updE s.es e.r.num (fun r=>if r.num=e.r.num then r' else r)=l1 ++⟨r',e.p,e.born⟩ :: l2:=by
   rw[e1,updE_split _ rfl h1 h2,if_pos rfl]
  rw[hes]at hok ⊢
  have hap:∀ x∈s.es,x.r.num≠e.r.num->ReqB W1 x.p x.r:=fun x hx hxn=>(hc1.block x.p (lt_of_heap (h.tab.reqs x hx)) (reqs_apart (h.tab.reqs x hx) (h.tab.reqs e he) hxn)).trans (h.tab.reqs x hx)
  refine⟨(hc1.block _ (lt_of_heap h.tab.tab) (h.tab.ne_tp he)).trans h.tab.tab,?_,fun x hx=>?_,fun x hx=>?_,?_,hok,?_⟩
  ·have:=(hc1.block _ (lt_of_heap h.tab.map) (h.tab.ne_mp he)).trans h.tab.map
   rw[this,e1]
   simp[mapObj,Ent.m,hr.1]
  ·rcases List.mem_append.1 hx with hx | hx
   ·exact hap x (by rw[e1];simp[hx]) (h1 x hx)
   ·rcases List.mem_cons.1 hx with rfl | hx
    ·exact hb1
    ·exact hap x (by rw[e1];simp[hx]) (h2 x hx)
  ·rcases List.mem_append.1 hx with hx | hx
   ·exact h.tab.born x (by rw[e1];simp[hx])
   ·rcases List.mem_cons.1 hx with rfl | hx
    ·exact h.tab.born e he
    ·exact h.tab.born x (by rw[e1];simp[hx])
  ·have:=h.tab.borns
   rw[e1]at this
   simpa using this
  ·have:=h.tab.len
   rw[e1]at this
   simpa using this
 refine⟨hque,hT1.kept hc2 h.ne_qt.symm h.ne_qm.symm fun x hx=>?_,?_,fun c hcm=>?_,hd⟩
 ·obtain⟨y,hy,rfl⟩:=List.mem_map.1 hx
  have:(if y.r.num=e.r.num then (⟨if y.r.num=e.r.num then r' else y.r,y.p,y.born⟩:Ent)else y).p=y.p:=by split <;> rfl
  rw[this]
  exact (h.ne_qp hy).symm
 ·refine ownsRow_chg h.fl hc fun k hk hh=>?_
  obtain⟨cur,hcur⟩:=own_heap h.fl hk
  rcases hh with hh | hh
  ·exact h.ne_qf hk hh.symm
  ·exact ne_of_heap hcur (h.tab.reqs e he) (by simp) hh
 ·refine ownsRow_chg (h.rows c hcm) hc fun k hk hh=>?_
  obtain⟨cur,hcur⟩:=own_heap (h.rows c hcm) hk
  rcases hh with hh | hh
  ·exact h.ne_qr hcm hk hh.symm
  ·exact ne_of_heap hcur (h.tab.reqs e he) (by simp) hh
theorem updE_const(es:List Ent)(n:Int)(r':Req):updE es n (fun r=>if r.num=n then r' else r)=updE es n fun _=>r':=by
 refine List.map_congr_left fun x _=>?_
 split
 ·rename_i h;simp only[h,if_true]
 ·rfl
structure LandB(w:World)(q tb:Nat)(fv:Value)(s:Sta)(e:Ent)(pg:Nat)(d0 d1 d2 d3:Int):Prop where
 que:w.heap[q]?=some (.cells (qCells tb fv s) 89 (0,0))
 req:ReqB w e.p e.r
 page:e.r.page=(pg:Int)
 p16:pg<16
 len:s.disk.length=64
 dg:dget s.disk e.r.page=⟨d0,d1,d2,d3⟩
theorem LandB.disk{w:World}{q tb:Nat}{fv:Value}{s:Sta}{e:Ent}{pg:Nat}{d0 d1 d2 d3:Int}(h:LandB w q tb fv s e pg d0 d1 d2 d3):
  w.cell? ⟨q,5+pg*4,none⟩=some (.int .u8 d0)/\w.cell? ⟨q,5+pg*4+1,none⟩=some (.int .u8 d1)/\w.cell? ⟨q,5+pg*4+2,none⟩=some (.int .u8 d2)/\w.cell? ⟨q,5+pg*4+3,none⟩=some (.int .u8 d3):=by
 have hp:=h.p16
 have hl:=h.len
 have g:∀ j,j<64->w.cell? ⟨q,5+j,none⟩=some (.int .u8 (s.disk.getD j 0)):=fun j hj=>by
  refine cell_of h.que ?_
  unfold qCells
  rw[List.getElem?_toArray,List.getElem?_append_right (by simp)]
  simp only[List.length_cons,List.length_nil,Nat.add_sub_cancel_left,List.getElem?_map]
  rw[List.getD_eq_getElem?_getD,List.getElem?_eq_getElem (show j<s.disk.length by omega)]
  rfl
 have hd:=h.dg
 unfold dget at hd
 rw[h.page,Int.toNat_natCast]at hd
 injection hd with e0 e1 e2 e3
 refine⟨?_,?_,?_,?_⟩
 ·rw[show 5+pg*4=5+(4*pg)from by omega,g _ (by omega),e0]
 ·rw[show 5+pg*4+1=5+(4*pg+1)from by omega,g _ (by omega),e1]
 ·rw[show 5+pg*4+2=5+(4*pg+2)from by omega,g _ (by omega),e2]
 ·rw[show 5+pg*4+3=5+(4*pg+3)from by omega,g _ (by omega),e3]
theorem qCells_set(tb:Nat)(fv:Value)(s:Sta)(k:Nat)(v:Int):(qCells tb fv s).setIfInBounds (5+k) (.int .u8 v)=qCells tb fv {s with disk:=s.disk.set k v}:=by
 unfold qCells
 rw[List.setIfInBounds_toArray,show 5+k=k+5 from Nat.add_comm _ _]
 simp[List.map_set]
theorem qCells_dput(tb:Nat)(fv:Value)(s:Sta)(pg:Nat)(d:B4):
  (((((qCells tb fv s).setIfInBounds (5+pg*4) (.int .u8 d.a)).setIfInBounds (5+pg*4+1) (.int .u8 d.b)).setIfInBounds (5+pg*4+2) (.int .u8 d.c)).setIfInBounds (5+pg*4+3) (.int .u8 d.d))=qCells tb fv {s with disk:=dput s.disk pg d}:=by
 rw[show 5+pg*4+1=5+(4*pg+1)from by omega,show 5+pg*4+2=5+(4*pg+2)from by omega,show 5+pg*4+3=5+(4*pg+3)from by omega,show 5+pg*4=5+4*pg from by omega]
 rw[qCells_set,qCells_set,qCells_set,qCells_set]
 rfl
theorem land_end{w W:World}{q tb mb clock:Nat}{fv:Value}{s:Sta}(h:QB w q tb mb clock fv s){e:Ent}(he:e∈s.es){r':Req}{disk':List Int}(hr:r'.num=e.r.num/\r'.page=e.r.page)(hd:disk'.length=64)
  (hque:W.heap[q]?=some (.cells (qCells tb fv {s with disk:=disk'}) 89 (0,0))) (hreq:ReqB W e.p r') (hc:Chg (fun k=>k=q\/k=e.p) w W):
  QB W q tb mb clock fv {s with es:=updE s.es e.r.num (fun _=>r'),disk:=disk'}/\(⟨r',e.p,e.born⟩:Ent)∈updE s.es e.r.num (fun _=>r'):=by
 have:=h.landed he hr hd hque hreq hc
 rw[updE_const]at this
 exact⟨this,mem_updE he fun _=>r'⟩
theorem mem_landE{es:List Ent}{e x:Ent}(h:x∈landE es e):x∈es:=by
 unfold landE at h
 split at h
 ·exact (List.mem_filter.1 h).1
 ·exact h
theorem land_fin{W W':World}{q tb mb clock:Nat}{fv:Value}{s:Sta}{e:Ent}{r':Req}{disk':List Int}(h:QB W q tb mb clock fv {s with es:=updE s.es e.r.num (fun _=>r'),disk:=disk'})
  (hT:TabB W' tb mb clock s.last s.held (landE (updE s.es e.r.num fun _=>r') ⟨r',e.p,e.born⟩)) (hc:Chg (fun k=>k=mb) W W'):
  QB W' q tb mb clock fv {s with es:=landE (updE s.es e.r.num fun _=>r') ⟨r',e.p,e.born⟩,disk:=disk'}:=
 h.tabs clock {s with es:=landE (updE s.es e.r.num fun _=>r') ⟨r',e.p,e.born⟩,disk:=disk'} ⟨rfl,rfl,rfl,rfl⟩ rfl hT hc fun _ hk=>.inr (.inl hk)
end
end Go.Proofs.YticobikhndlejaaGreatDoor
