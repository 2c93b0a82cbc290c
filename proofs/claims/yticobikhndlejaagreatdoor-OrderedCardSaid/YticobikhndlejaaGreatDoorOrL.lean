/- Part 12 of the proof (see the last part). -/
import Derived.Test.YticobikhndlejaaGreatDoorOrK
namespace Go.Proofs.YticobikhndlejaaGreatDoor
section
open Go.RowKit Go.Shelf Go.Lib
set_option maxRecDepth 100000
set_option maxHeartbeats 8000000
theorem cmd_set{W:World}{b:Nat}{x0 x1 x2 x3:Value}(y0 y1 y2 y3:Value)(h:W.heap[b]?=some (.cells #[x0,x1,x2,x3] 48 (0,0))):
  ((((W.setCell ⟨b,0,none⟩ y0).setCell ⟨b,1,none⟩ y1).setCell ⟨b,2,none⟩ y2).setCell ⟨b,3,none⟩ y3).heap[b]?=some (.cells #[y0,y1,y2,y3] 48 (0,0))/\
  Chg (fun k=>k=b) W ((((W.setCell ⟨b,0,none⟩ y0).setCell ⟨b,1,none⟩ y1).setCell ⟨b,2,none⟩ y2).setCell ⟨b,3,none⟩ y3):=
 ⟨heap_setCell (i:=3) _ (heap_setCell (i:=2) _ (heap_setCell (i:=1) _ (heap_setCell (i:=0) _ h))),(((chg_set _).then (chg_set _)).then (chg_set _)).then (chg_set _)⟩
theorem Chg.drewN{S:Nat->Prop}{a w:World}(h:Chg S a w)(n:Nat):Chg S a (w.drewN n):=⟨h.os,h.tape,h.output,h.size,h.block⟩
abbrev noCmd:Value:=.agg #[.bool false,.int .i64 0,.int .i64 0,.slice none 0 0]
theorem step_full(q:Nat)(s:Sta)(F:Nat->Prop)(w:World)(h:QAt w q s F)(hd:s.depth<=s.cs.length):
  Calls Tryx.prog 18 #[ptr q] w fun x w'=>x=.returned (.tuple #[noCmd,.bool false])/\Below w.heap.size w w':=by
 obtain⟨tb,mb,clock,fv,hq,hF⟩:=h
 obtain⟨W0,hW0⟩:∃ W0,w.alloc (.cells #[.bool false,.int .i64 0,.int .i64 0,.slice none 0 0] 48)=W0:=⟨_,rfl⟩
 have hB0:Below w.heap.size w W0:=by rw[<-hW0];exact (Below.refl _ _).alloc (Nat.le_refl _) _
 have hr0:W0.heap[w.heap.size]?=some (.cells #[.bool false,.int .i64 0,.int .i64 0,.slice none 0 0] 48 (0,0)):=by rw[<-hW0];exact World.alloc_heap_new w _
 have hq:=hq.kept (chgB hB0 fun _=>False) fun _ _ x=>x
 have c0:=hq.c0
 have c2:=hq.c2
 obtain⟨fa,fc,rfl⟩:=own_slice hq.fl
 have hdd:decide ((s.cs.length:Int)>=(s.depth:Int))=true:=by simp;omega
 have r0:W0.cell? ⟨w.heap.size,0,none⟩=some (.bool false):=cell_of hr0 rfl
 have r1:W0.cell? ⟨w.heap.size,1,none⟩=some (.int .i64 0):=cell_of hr0 rfl
 have r2:W0.cell? ⟨w.heap.size,2,none⟩=some (.int .i64 0):=cell_of hr0 rfl
 have r3:W0.cell? ⟨w.heap.size,3,none⟩=some (.slice none 0 0):=cell_of hr0 rfl
 have rf:∀ i,W0.frozen? ⟨w.heap.size,i,none⟩=false:=fun i=>free_of hr0
 have HB:=Lib.hid hB0
 have HR:=Lib.hid hr0
 clear hq hF hB0 hr0
 go_enter Tryx.func18,Tryz.ntmps18
 go_wp2_with fail
 go_quiet (fail)
 go_wp2_with fail
 obtain⟨e5,hc5⟩:=cmd_set (W:=W0.drewN nq) (.bool false) (.int .i64 0) (.int .i64 0) (.slice none 0 0) HR.out
 obtain⟨W5,hW5⟩:∃ W5,(((((W0.drewN nq).setCell ⟨w.heap.size,0,none⟩ (.bool false)).setCell ⟨w.heap.size,1,none⟩ (.int .i64 0)).setCell ⟨w.heap.size,2,none⟩ (.int .i64 0)).setCell ⟨w.heap.size,3,none⟩ (.slice none 0 0))=W5:=⟨_,rfl⟩
 rw[hW5]at e5 hc5 ⊢
 have z0:W5.cell? ⟨w.heap.size,0,none⟩=some (.bool false):=cell_of e5 rfl
 have z1:W5.cell? ⟨w.heap.size,1,none⟩=some (.int .i64 0):=cell_of e5 rfl
 have z2:W5.cell? ⟨w.heap.size,2,none⟩=some (.int .i64 0):=cell_of e5 rfl
 have z3:W5.cell? ⟨w.heap.size,3,none⟩=some (.slice none 0 0):=cell_of e5 rfl
 refine bodyPost_ret (v:=.tuple #[noCmd,.bool false]) (by simp[results,Tryz.results18,go_sem,z0,z1,z2,z3]) rfl ⟨rfl,?_⟩
 have hc:=HB.out
 exact⟨hc5.os.trans hc.os,hc5.tape.trans hc.tape,hc5.output.trans hc.output,Nat.le_trans hc.size hc5.size,fun k hk=>(hc5.block k (Nat.lt_of_lt_of_le hk hc.size) (by omega)).trans (hc.block k hk)⟩
def sendE(es:List Ent)(ns:List Int):List Ent:=es.map fun e=>if e.r.num∈ns then ⟨sentR e.r,e.p,e.born⟩ else e
def stepS(s:Sta)(c:Cmd)(v:Value):Sta:={s with es:=sendE s.es c.nums,cs:=s.cs ++ [(c,v)],head:=c.page+c.count}
theorem nextE_spec(L:List Ent)(head:Nat)(hh:head<=16):nextE L head=(0,0,[])\/∃ p n f t,nextE L head=(p,n,f :: t)/\1<=n/\p+n<=16/\n<=4/\∀ e∈f :: t,e∈L:=by
 unfold nextE
 cases hb:beginE (fun k=>decide (0<(pageL L k).length)) head with
 | none=>exact .inl rfl
 | some p=>
   obtain⟨hp16,hne⟩:=beginE_of hh hb
   obtain⟨f,t,hft⟩:∃ f t,pageL L p=f :: t:=by
    cases hpl:pageL L p with
    | nil=>simp [hpl]at hne
    | cons f t=>exact ⟨f,t,rfl⟩
   have hfm:f∈L:=(List.mem_filter.1 (show f∈pageL L p from by rw[hft];simp)).1
   simp only[hft]
   cases hal:f.r.alone with
   | true=>exact .inr ⟨p,1,f,[],rfl,by omega,by omega,by omega,fun e he=>by rw[List.mem_singleton.1 he];exact hfm⟩
   | false=>
     simp only[Bool.false_eq_true,if_false]
     obtain⟨K,hK⟩:∃ K,nextK L f.r.write=K:=⟨_,rfl⟩
     have hk0:K p=f :: t.filter (isKind f.r.write):=by
      rw[<-hK]
      unfold nextK
      rw[hft,List.filter_cons_of_pos (by simp[isKind,hal])]
     have hkm:∀ k,∀ e∈K k,e∈L:=fun k e he=>by
      rw[<-hK]at he
      exact (List.mem_filter.1 (List.mem_filter.1 he).1).1
     rw[hK]
     obtain⟨M,hM⟩:∃ M,min 4 (16 - p)=M:=⟨_,rfl⟩
     rw[hM]
     have hr:runLen K p M<=M:=by
      unfold runLen
      exact Nat.le_trans (List.takeWhile_sublist _).length_le (by simp)
     have hr1:1<=runLen K p M:=by
      unfold runLen
      rw[show M=(M - 1)+1 from by omega,List.range_succ_eq_map,List.takeWhile_cons_of_pos (by simp[hk0])]
      simp
     obtain⟨n,hn⟩:∃ n,runLen K p M=n:=⟨_,rfl⟩
     rw[hn]at hr hr1 ⊢
     refine .inr ⟨p,n,f,t.filter (isKind f.r.write) ++ (List.range' 1 (n - 1)).flatMap fun i=>K (p+i),?_,hr1,by omega,by omega,?_⟩
     ·have:gather K p n=(f :: t.filter (isKind f.r.write)) ++ (List.range' 1 (n - 1)).flatMap fun i=>K (p+i):=by
       unfold gather
       rw[List.range_eq_range',show n=(n - 1)+1 from by omega,List.range'_succ,List.flatMap_cons]
       rw[show p+0=p from rfl,hk0]
       rfl
      rw[this]
      rfl
     ·intro e he
      rw[<-List.cons_append,List.mem_append]at he
      rcases he with he | he
      ·exact hkm p e (hk0 ▸ he)
      ·obtain⟨i,_,hi⟩:=List.mem_flatMap.1 he
       exact hkm _ e hi
theorem readyE_mem{now:Int}{es:List Ent}(h:EntsOk es){e:Ent}(he:e∈readyE now es):e∈es:=(byPage_perm h).mem_iff.1 (List.mem_filter.1 he).1
theorem readyE_len{now:Int}{es:List Ent}(h:EntsOk es):(readyE now es).length<=es.length:=Nat.le_trans (List.length_filter_le _ _) (Nat.le_of_eq (byPage_perm h).length_eq)
theorem step_none(q:Nat)(s:Sta)(F:Nat->Prop)(w:World)(h:QAt w q s F)(hd:s.cs.length<s.depth)(hh:s.head<=16)(hE:nextE (readyE s.now s.es) s.head=(0,0,[])):
  Calls Tryx.prog 18 #[ptr q] w fun x w'=>x=.returned (.tuple #[noCmd,.bool false])/\Below w.heap.size w w':=by
 obtain⟨tb,mb,clock,fv,hq,hF⟩:=h
 obtain⟨W0,hW0⟩:∃ W0,w.alloc (.cells #[.bool false,.int .i64 0,.int .i64 0,.slice none 0 0] 48)=W0:=⟨_,rfl⟩
 have hB0:Below w.heap.size w W0:=by rw[<-hW0];exact (Below.refl _ _).alloc (Nat.le_refl _) _
 have hr0:W0.heap[w.heap.size]?=some (.cells #[.bool false,.int .i64 0,.int .i64 0,.slice none 0 0] 48 (0,0)):=by rw[<-hW0];exact World.alloc_heap_new w _
 have hq:=hq.kept (chgB hB0 fun _=>False) fun _ _ x=>x
 have c0:=hq.c0
 have c1:=hq.c1
 have c2:=hq.c2
 have c3:=hq.c3
 have c4:=hq.c4
 obtain⟨fa,fc,rfl⟩:=own_slice hq.fl
 have hdd:decide ((s.cs.length:Int)>=(s.depth:Int))=false:=by simp;omega
 obtain⟨L,hL⟩:∃ L,readyE s.now s.es=L:=⟨_,rfl⟩
 have hLm:∀ e∈L,e∈s.es:=fun e he=>readyE_mem hq.tab.ok (now:=s.now) (hL ▸ he)
 have hLl:L.length<=1000000:=hL ▸ Nat.le_trans (readyE_len hq.tab.ok) hq.tab.len
 rw[hL]at hE
 have hqlt:=lt_of_heap hq.que
 have HQ:=Lib.hid hq
 have HB:=Lib.hid hB0
 have HR:=Lib.hid hr0
 have HL:=Lib.hid hL
 have HM:=Lib.hid hLm
 clear hq hF hB0 hr0 hL hLm
 go_enter Tryx.func18,Tryz.ntmps18
 go_wp2_with fail
 go_quiet (fail)
 go_wp2_with fail
 obtain⟨W1,hW1⟩:∃ W1,W0.drewN nq=W1:=⟨_,rfl⟩
 have hc1:Chg (fun _=>False) W0 W1:=by rw[<-hW1];exact (Chg.refl _ _).drewN _
 have d1:W1.cell? ⟨q,1,none⟩=some (ptr tb):=(hc1.cell (p:=⟨q,1,none⟩) hqlt (fun x=>x)).trans c1
 have d3:W1.cell? ⟨q,3,none⟩=some (.int .i64 s.now):=(hc1.cell (p:=⟨q,3,none⟩) hqlt (fun x=>x)).trans c3
 have d4:W1.cell? ⟨q,4,none⟩=some (.int .i64 s.head):=(hc1.cell (p:=⟨q,4,none⟩) hqlt (fun x=>x)).trans c4
 have hqlt1:q<W1.heap.size:=Nat.lt_of_lt_of_le hqlt hc1.size
 have HC1:=Lib.hid hc1
 rw[hW1]
 clear hW1 c0 c1 c2 c3 c4 hc1
 go_region_held3 (fun w'=>w'.cell? ⟨q,1,none⟩=some (ptr tb)/\w'.cell? ⟨q,3,none⟩=some (.int .i64 s.now)/\w'.cell? ⟨q,4,none⟩=some (.int .i64 s.head))
  (go_keep)
  (first
    | (go_at_call 38;refine (ready_any tb mb clock s.last s.held s.now s.es _ ?_).mono ?_;exact HQ.out.tab.kept (HC1.out.drew) (fun x=>x) (fun x=>x) (fun _ _ x=>x);rintro e w2 ⟨v,rfl,hrow,hB2⟩
       have hqlt2:q<w2.heap.size:=Nat.lt_of_lt_of_le hqlt1 hB2.size
       have e1:w2.cell? ⟨q,1,none⟩=some (ptr tb):=(hB2.cell hqlt1).trans d1
       have e3:w2.cell? ⟨q,3,none⟩=some (.int .i64 s.now):=(hB2.cell hqlt1).trans d3
       have e4:w2.cell? ⟨q,4,none⟩=some (.int .i64 s.head):=(hB2.cell hqlt1).trans d4)
    | (go_at_call 37;refine (next_any _ _ s.head L _ (HL.out ▸ hrow) hLl ?_ ?_ hh).mono ?_
       ·exact fun e he=>(hB2.block e.p (Nat.lt_of_lt_of_le (lt_of_heap (HQ.out.tab.reqs e (HM.out e he))) HC1.out.size)).trans ((HC1.out.block e.p (lt_of_heap (HQ.out.tab.reqs e (HM.out e he))) (fun x=>x)).trans (HQ.out.tab.reqs e (HM.out e he)))
       ·exact fun e he=>HQ.out.tab.ok.page e (HM.out e he)
       rintro e w3 ⟨v3,rfl,hrow3,hB3⟩
       rw[hE]at hrow3 ⊢;dsimp only at hrow3 ⊢
       have e1':w3.cell? ⟨q,1,none⟩=some (ptr tb):=(hB3.cell hqlt2).trans e1
       have e3':w3.cell? ⟨q,3,none⟩=some (.int .i64 s.now):=(hB3.cell hqlt2).trans e3
       have e4':w3.cell? ⟨q,4,none⟩=some (.int .i64 s.head):=(hB3.cell hqlt2).trans e4))
 have HB3:=Lib.hid (((HC1.out.drew).of_below hB2).of_below hB3)
 have hsz3:W0.heap.size<=w2.heap.size:=Nat.le_trans HC1.out.size hB2.size
 have HROW:=Lib.hid hrow3
 clear hB2 hB3 hrow hrow3 e1 e3 e4 d1 d3 d4
 have hr3:w3.heap[w.heap.size]?=some (.cells #[.bool false,.int .i64 0,.int .i64 0,.slice none 0 0] 48 (0,0)):=(HB3.out.block _ (lt_of_heap HR.out) (fun x=>x)).trans HR.out
 have r0:w3.cell? ⟨w.heap.size,0,none⟩=some (.bool false):=cell_of hr3 rfl
 have r1:w3.cell? ⟨w.heap.size,1,none⟩=some (.int .i64 0):=cell_of hr3 rfl
 have r2:w3.cell? ⟨w.heap.size,2,none⟩=some (.int .i64 0):=cell_of hr3 rfl
 have r3:w3.cell? ⟨w.heap.size,3,none⟩=some (.slice none 0 0):=cell_of hr3 rfl
 have rf:∀ i,w3.frozen? ⟨w.heap.size,i,none⟩=false:=fun i=>free_of hr3
 have HR3:=Lib.hid hr3
 clear hr3
 go_wp2_with fail
 obtain⟨e5,hc5⟩:=cmd_set (W:=w3) (.bool false) (.int .i64 0) (.int .i64 0) (.slice none 0 0) HR3.out
 obtain⟨W5,hW5⟩:∃ W5,((((w3.setCell ⟨w.heap.size,0,none⟩ (.bool false)).setCell ⟨w.heap.size,1,none⟩ (.int .i64 0)).setCell ⟨w.heap.size,2,none⟩ (.int .i64 0)).setCell ⟨w.heap.size,3,none⟩ (.slice none 0 0))=W5:=⟨_,rfl⟩
 rw[hW5]at e5 hc5 ⊢
 have z0:W5.cell? ⟨w.heap.size,0,none⟩=some (.bool false):=cell_of e5 rfl
 have z1:W5.cell? ⟨w.heap.size,1,none⟩=some (.int .i64 0):=cell_of e5 rfl
 have z2:W5.cell? ⟨w.heap.size,2,none⟩=some (.int .i64 0):=cell_of e5 rfl
 have z3:W5.cell? ⟨w.heap.size,3,none⟩=some (.slice none 0 0):=cell_of e5 rfl
 (try simp only[Exit.inBlock,Exit.then])
 refine bodyPost_ret (v:=.tuple #[noCmd,.bool false]) (by simp[results,Tryz.results18,go_sem,z0,z1,z2,z3]) rfl ⟨rfl,?_⟩
 have hc:=HB.out
 have hc3:=HB3.out
 have hz:=hc.size
 have hz3:=hc3.size
 exact⟨hc5.os.trans (hc3.os.trans hc.os),hc5.tape.trans (hc3.tape.trans hc.tape),hc5.output.trans (hc3.output.trans hc.output),Nat.le_trans hz (Nat.le_trans hz3 hc5.size),fun k hk=>(hc5.block k (by omega) (by omega)).trans ((hc3.block k (by omega) (fun x=>x)).trans (hc.block k hk))⟩
theorem sendE_succ(es:List Ent)(ns:List Int)(n:Int):sendE es (ns ++ [n])=updE (sendE es ns) n sentR:=by
 unfold sendE updE
 rw[List.map_map]
 refine List.map_congr_left fun e _=>?_
 simp only[Function.comp]
 by_cases h1:e.r.num∈ns
 ·simp only[List.mem_append,h1,true_or,if_true]
  by_cases h2:e.r.num=n <;> simp[sentR,h2]
 ·by_cases h2:e.r.num=n
  ·simp[h2,sentR]
   subst h2
   simp[h1]
  ·simp[h1,h2]
theorem sendE_mem{es:List Ent}{e:Ent}(he:e∈es)(ns:List Int):∃ r,(⟨r,e.p,e.born⟩:Ent)∈sendE es ns/\r.num=e.r.num:=by
 by_cases h:e.r.num∈ns
 ·exact⟨sentR e.r,List.mem_map.2 ⟨e,he,by simp[h]⟩,rfl⟩
 ·exact⟨e.r,List.mem_map.2 ⟨e,he,by simp[h]⟩,rfl⟩
structure SendB(w3 wr:World)(tb mb clock:Nat)(s:Sta)(wt:Bool)(p n:Nat)(l:List Ent)(j:Nat)(cv:Value):Prop where
 blk:wr.heap[w3.heap.size]?=some (.cells #[.bool wt,.int .i64 p,.int .i64 n,cv] 48 (0,0))
 row:wr.ownsRow (w3.heap.size+1) 3 1 cv j ((l.take j).map fun e=>Value.int .i64 e.r.num)
 tab:TabB wr tb mb clock s.last s.held (sendE s.es ((l.take j).map (·.r.num)))
 chg:Chg (fun k=>∃ e∈s.es,k=e.p) w3 wr
theorem sent_req{wr:World}{p:Nat}{r:Req}(h:ReqB wr p r):ReqB ((wr.setCell ⟨p,7,none⟩ (.int .i64 1)).setCell ⟨p,11,none⟩ (.bool true)) p (sentR r):=
 heap_setCell (i:=11) _ (heap_setCell (i:=7) _ h)
theorem SendB.sent{w3 wr:World}{tb mb clock:Nat}{s:Sta}{wt:Bool}{p n:Nat}{l:List Ent}{j:Nat}{cv:Value}(h:SendB w3 wr tb mb clock s wt p n l j cv)(hj:j<l.length){e:Ent}(he:l[j]=e)(hm:e∈s.es)(hlt:∀ x∈s.es,x.p<w3.heap.size){W':World}
  (hW':(wr.setCell ⟨e.p,7,none⟩ (.int .i64 1)).setCell ⟨e.p,11,none⟩ (.bool true)=W'):
  W'.heap[w3.heap.size]?=some (.cells #[.bool wt,.int .i64 p,.int .i64 n,cv] 48 (0,0))/\W'.ownsRow (w3.heap.size+1) 3 1 cv j ((l.take j).map fun e=>Value.int .i64 e.r.num)/\
  TabB W' tb mb clock s.last s.held (sendE s.es ((l.take (j+1)).map (·.r.num)))/\Chg (fun k=>∃ e∈s.es,k=e.p) w3 W'/\W'.heap.size=wr.heap.size/\W'.cell? ⟨e.p,0,none⟩=some (.int .i64 e.r.num):=by
 obtain⟨r,hr,hrn⟩:=sendE_mem hm ((l.take j).map (·.r.num))
 have hR:=h.tab.reqs _ hr
 have hep:=hlt e hm
 have hc:Chg (fun k=>k=e.p) wr W':=by rw[<-hW'];exact (chg_set _).then (chg_set _)
 have hs:=sent_req hR
 rw[show (⟨r,e.p,e.born⟩:Ent).p=e.p from rfl,hW']at hs
 refine⟨(hc.block _ (lt_of_heap h.blk) (by omega)).trans h.blk,ownsRow_chg h.row hc fun k hk=>?_,?_,h.chg.then (hc.mono fun k _ hk=>⟨e,hm,hk⟩),by rw[<-hW'];simp[World.setCell],?_⟩
 ·have:=(h.row.lt k hk).1
  omega
 ·have:=h.tab.upd hr sentR (fun r=>⟨rfl,rfl⟩) hs hc
  rw[List.take_succ_eq_append_getElem hj,List.map_append,List.map_cons,List.map_nil,sendE_succ,he,<-hrn]
  exact this
 ·rw[<-hrn];exact (ReqB.at hs).c0
theorem SendB.next{w3 wr:World}{tb mb clock:Nat}{s:Sta}{wt:Bool}{p n:Nat}{l:List Ent}{j:Nat}{cv:Value}(h:SendB w3 wr tb mb clock s wt p n l j cv)(hj:j<l.length){e:Ent}(he:l[j]=e)(hm:e∈s.es)(hlt:∀ x∈s.es,x.p<w3.heap.size)(htb:tb<w3.heap.size)(hmb:mb<w3.heap.size){W' W w1:World}
  (hW':(wr.setCell ⟨e.p,7,none⟩ (.int .i64 1)).setCell ⟨e.p,11,none⟩ (.bool true)=W') (hW:Below W'.heap.size W' W) {gg cap:Nat}
  (hown:w1.ownsRow (w3.heap.size+1) 3 1 (.slice (some ⟨gg,0,none⟩) (j+1) cap) (j+1) (((l.take j).map fun e=>Value.int .i64 e.r.num) ++ [.int .i64 e.r.num])) (hgrow:W.grownBy w1 cv.ownBlock) (_hat:cv.ownBlock=some gg\/gg=W'.heap.size+1):
  SendB w3 (w1.setCell ⟨w3.heap.size,3,none⟩ (.slice (some ⟨gg,0,none⟩) (j+1) cap)) tb mb clock s wt p n l (j+1) (.slice (some ⟨gg,0,none⟩) (j+1) cap):=by
 obtain⟨hb,hrow,htab,hchg,hsz,_⟩:=h.sent hj he hm hlt hW'
 have hblt:=lt_of_heap hb
 have hcv:∀ k,cv.ownBlock=some k->w3.heap.size+1<=k:=fun k hk=>(hrow.lt k hk).1
 have hc1:Chg (fun k=>w3.heap.size<=k) W' w1:=(chgB hW _).grown hgrow fun k hk=>.inl (by have:=hcv k hk;omega)
 have hc2:Chg (fun k=>w3.heap.size<=k) W' (w1.setCell ⟨w3.heap.size,3,none⟩ (.slice (some ⟨gg,0,none⟩) (j+1) cap)):=hc1.setCell (p:=⟨w3.heap.size,3,none⟩) (.inl (Nat.le_refl _)) _
 have hgg:gg≠w3.heap.size:=fun e=>by
  have:=(hown.lt gg rfl).1
  omega
 refine⟨?_,?_,?_,?_⟩
 ·have h1:w1.heap[w3.heap.size]?=some (.cells #[.bool wt,.int .i64 p,.int .i64 n,cv] 48 (0,0)):=by
   refine (hgrow.block _ (Nat.lt_of_lt_of_le hblt hW.size) fun e=>?_).trans ((hW.block _ hblt).trans hb)
   have:=hcv _ e.symm
   omega
  exact heap_setCell (i:=3) _ h1
 ·rw[List.take_succ_eq_append_getElem hj,List.map_append,List.map_cons,List.map_nil,he]
  exact ownsRow_chg hown (chg_set _) fun k hk hh=>by cases hk;exact hgg hh
 ·refine htab.kept hc2 (by omega) (by omega) fun x hx=>?_
  obtain⟨y,hy,hyx⟩:=List.mem_map.1 hx
  have:x.p=y.p:=by rw[<-hyx];split <;> rfl
  have:=hlt y hy
  omega
 ·exact hchg.trans (hc2.mono fun k _ hk=>.inr hk)
theorem step_world{w3 W4 W w1:World}{q tb mb clock:Nat}{fv:Value}{s:Sta}{wt:Bool}{p n N gg cap:Nat}{l:List Ent}{cv:Value}(hQ:QB w3 q tb mb clock fv s)(hS:SendB w3 W4 tb mb clock s wt p n l N cv)(hN:l.length=N)
  (hW:Below W4.heap.size W4 W) (hown:w1.ownsRow 0 48 4 (.slice (some ⟨gg,0,none⟩) (s.cs.length+1) cap) (s.cs.length+1) (s.cs.flatMap cmdCells ++ [.bool wt,.int .i64 p,.int .i64 n,cv])) (hgrow:W.grownBy w1 fv.ownBlock) (hat:fv.ownBlock=some gg\/gg=W4.heap.size+1):
  QB ((w1.setCell ⟨q,2,none⟩ (.slice (some ⟨gg,0,none⟩) (s.cs.length+1) cap)).setCell ⟨q,4,none⟩ (.int .i64 ((p:Int)+(n:Int)))) q tb mb clock (.slice (some ⟨gg,0,none⟩) (s.cs.length+1) cap) (stepS s ⟨wt,p,n,l.map (·.r.num)⟩ cv)/\
  Chg (fun k=>k=q\/fv.ownBlock=some k) W4 ((w1.setCell ⟨q,2,none⟩ (.slice (some ⟨gg,0,none⟩) (s.cs.length+1) cap)).setCell ⟨q,4,none⟩ (.int .i64 ((p:Int)+(n:Int))))/\
  (∀ k,QFoot q tb mb (.slice (some ⟨gg,0,none⟩) (s.cs.length+1) cap) (stepS s ⟨wt,p,n,l.map (·.r.num)⟩ cv) k->QFoot q tb mb fv s k\/w3.heap.size<=k):=by
 have hcw1:Chg (fun k=>k=q\/fv.ownBlock=some k) W4 w1:=(chgB hW _).grown hgrow fun k hk=>.inl (.inr hk)
 have hcc:Chg (fun k=>k=q\/fv.ownBlock=some k) W4 ((w1.setCell ⟨q,2,none⟩ (.slice (some ⟨gg,0,none⟩) (s.cs.length+1) cap)).setCell ⟨q,4,none⟩ (.int .i64 ((p:Int)+(n:Int)))):=
  (hcw1.setCell (p:=⟨q,2,none⟩) (.inl (.inl rfl)) _).setCell (p:=⟨q,4,none⟩) (.inl (.inl rfl)) _
 have hqlt:q<w3.heap.size:=lt_of_heap hQ.que
 have hqW4:W4.heap[q]?=some (.cells (qCells tb fv s) 89 (0,0)):=(hS.chg.block q hqlt fun ⟨x,hx,e⟩=>hQ.ne_qp hx e).trans hQ.que
 have hqw1:w1.heap[q]?=some (.cells (qCells tb fv s) 89 (0,0)):=
  (hgrow.block q (Nat.lt_of_lt_of_le (lt_of_heap hqW4) hW.size) fun e=>hQ.ne_qf e.symm rfl).trans ((hW.block q (lt_of_heap hqW4)).trans hqW4)
 have hnq:∀ k,k=q\/fv.ownBlock=some k->k<w3.heap.size:=fun k hk=>hk.elim (fun e=>e ▸ hqlt) fun e=>by
  obtain⟨cur,hc⟩:=own_heap hQ.fl e
  exact lt_of_heap hc
 have hgq:gg≠q:=by
  rcases hat with h | h
  ·exact (hQ.ne_qf h).symm
  ·have:=hS.chg.size;omega
 have htake:l.take N=l:=by rw[<-hN,List.take_length]
 refine⟨⟨?_,?_,?_,?_,hQ.disk⟩,hcc,?_⟩
 ·exact heap_setCell (i:=4) _ (heap_setCell (i:=2) _ hqw1)
 ·have ht:=hS.tab
  rw[htake]at ht
  refine ht.kept hcc ?_ ?_ fun x hx=>?_
  ·exact fun hk=>hk.elim hQ.ne_qt.symm fun e=>by
    obtain⟨cur,hc⟩:=own_heap hQ.fl e
    exact ne_of_heap hc hQ.tab.tab (by simp) rfl
  ·exact fun hk=>hk.elim hQ.ne_qm.symm fun e=>by
    obtain⟨cur,hc⟩:=own_heap hQ.fl e
    exact ne_of_heap hc hQ.tab.map (by simp) rfl
  ·obtain⟨y,hy,hyx⟩:=List.mem_map.1 hx
   have hxy:x.p=y.p:=by rw[<-hyx];split <;> rfl
   rw[hxy]
   exact fun hk=>hk.elim (hQ.ne_qp hy).symm fun e=>by
    obtain⟨cur,hc⟩:=own_heap hQ.fl e
    exact ne_of_heap hc (hQ.tab.reqs y hy) (by simp) rfl
 ·have h1:(stepS s ⟨wt,p,n,l.map (·.r.num)⟩ cv).cs.flatMap cmdCells=s.cs.flatMap cmdCells ++ [.bool wt,.int .i64 p,.int .i64 n,cv]:=by
   simp[stepS,cmdCells,List.flatMap_append]
  have h2:(stepS s ⟨wt,p,n,l.map (·.r.num)⟩ cv).cs.length=s.cs.length+1:=by simp[stepS]
  rw[h1,h2]
  exact ownsRow_chg (ownsRow_chg hown (chg_set _) fun k hk e=>by cases hk;exact hgq e) (chg_set _) fun k hk e=>by cases hk;exact hgq e
 ·intro c hc
  rcases List.mem_append.1 hc with hc | hc
  ·refine ownsRow_chg (ownsRow_chg (hQ.rows c hc) hS.chg fun k hk ⟨x,hx,e⟩=>?_) hcc fun k hk hh=>?_
   ·obtain⟨cur,hcur⟩:=own_heap (hQ.rows c hc) hk
    exact ne_of_heap hcur (hQ.tab.reqs x hx) (by simp) e
   ·rcases hh with e | e
    ·exact hQ.ne_qr hc hk e.symm
    ·obtain⟨cur,hcur⟩:=own_heap (hQ.rows c hc) hk
     obtain⟨cur2,hcur2⟩:=own_heap hQ.fl e
     exact ne_of_heap hcur hcur2 (by simp) rfl
  ·rw[List.mem_singleton.1 hc]
   have hr:=hS.row
   rw[htake]at hr
   have hr2:W4.ownsRow 0 3 1 cv (l.map (·.r.num)).length ((l.map (·.r.num)).map fun n=>Value.int .i64 n):=by
    rw[List.map_map,List.length_map,hN]
    exact ownsRow_low hr (Nat.zero_le _)
   refine ownsRow_chg hr2 hcc fun k hk hh=>?_
   have:=(hS.row.lt k hk).1
   have:=hnq k hh
   omega
 ·intro k hk
  rcases hk with h | h | h | h |⟨e,he,h⟩ |⟨c,hc,h⟩
  ·exact .inl (.inl h)
  ·exact .inl (.inr (.inl h))
  ·exact .inl (.inr (.inr (.inl h)))
  ·cases h
   rcases hat with h | h
   ·exact .inl (.inr (.inr (.inr (.inl h))))
   ·exact .inr (by have:=hS.chg.size;show w3.heap.size<=gg;omega)
  ·obtain⟨y,hy,hyx⟩:=List.mem_map.1 he
   have hxy:e.p=y.p:=by rw[<-hyx];split <;> rfl
   exact .inl (.inr (.inr (.inr (.inr (.inl ⟨y,hy,h.trans hxy⟩)))))
  ·rcases List.mem_append.1 hc with hc | hc
   ·exact .inl (.inr (.inr (.inr (.inr (.inr ⟨c,hc,h⟩)))))
   ·rw[List.mem_singleton.1 hc]at h
    have:=(hS.row.lt k h).1
    exact .inr (by omega)
theorem Tryz.infoC:(Tryx.prog.info? 48).map (fun i=>(i.zero,i.size,i.bytes))=some (some (.agg #[.bool false,.int .i64 0,.int .i64 0,.slice none 0 0]),4,48):=by kernel_rfl
theorem Tryz.infoI:(Tryx.prog.info? 3).map (fun i=>(i.zero,i.size,i.bytes))=some (some (.int .i64 0),1,8):=by kernel_rfl
theorem step_some(q:Nat)(s:Sta)(F:Nat->Prop)(w:World)(h:QAt w q s F)(hd:s.cs.length<s.depth)(hh:s.head<=16)(p n:Nat)(f:Ent)(t:List Ent)(hE:nextE (readyE s.now s.es) s.head=(p,n,f :: t))(hn1:1<=n)(hn2:p+n<=16)(hin:∀ e∈f :: t,e∈s.es)(hl4:(f :: t).length<=1000000)(hd4:s.depth<=4):
  Calls Tryx.prog 18 #[ptr q] w fun x w'=>∃ v v' F',x=.returned (.tuple #[.agg #[.bool f.r.write,.int .i64 p,.int .i64 n,v'],.bool true])/\QAt w' q (stepS s ⟨f.r.write,p,n,(f :: t).map (·.r.num)⟩ v) F'/\(∀ k,F' k->F k\/w.heap.size<=k)/\(∀ k,v'.ownBlock=some k->¬F' k)/\Chg F w w'/\w'.ownsRow w.heap.size 3 1 v' (f :: t).length (((f :: t).map (·.r.num)).map fun n=>Value.int .i64 n):=by
 obtain⟨tb,mb,clock,fv,hq,hF⟩:=h
 obtain⟨W0,hW0⟩:∃ W0,w.alloc (.cells #[.bool false,.int .i64 0,.int .i64 0,.slice none 0 0] 48)=W0:=⟨_,rfl⟩
 have hB0:Below w.heap.size w W0:=by rw[<-hW0];exact (Below.refl _ _).alloc (Nat.le_refl _) _
 have hr0:W0.heap[w.heap.size]?=some (.cells #[.bool false,.int .i64 0,.int .i64 0,.slice none 0 0] 48 (0,0)):=by rw[<-hW0];exact World.alloc_heap_new w _
 have HQ0:=Lib.hid hq
 have HF:=Lib.hid hF
 have hq:=hq.kept (chgB hB0 fun _=>False) fun _ _ x=>x
 have c0:=hq.c0
 have c1:=hq.c1
 have c2:=hq.c2
 have c3:=hq.c3
 have c4:=hq.c4
 obtain⟨fa,fc,rfl⟩:=own_slice hq.fl
 have hdd:decide ((s.cs.length:Int)>=(s.depth:Int))=false:=by simp;omega
 obtain⟨L,hL⟩:∃ L,readyE s.now s.es=L:=⟨_,rfl⟩
 have hLm:∀ e∈L,e∈s.es:=fun e he=>readyE_mem hq.tab.ok (now:=s.now) (hL ▸ he)
 have hLl:L.length<=1000000:=hL ▸ Nat.le_trans (readyE_len hq.tab.ok) hq.tab.len
 rw[hL]at hE
 have hqlt:=lt_of_heap hq.que
 have HQ:=Lib.hid hq
 have HB:=Lib.hid hB0
 have HR:=Lib.hid hr0
 have HL:=Lib.hid hL
 have HM:=Lib.hid hLm
 clear hq hF hB0 hr0 hL hLm
 go_enter Tryx.func18,Tryz.ntmps18
 go_wp2_with fail
 go_quiet (fail)
 go_wp2_with fail
 obtain⟨W1,hW1⟩:∃ W1,W0.drewN nq=W1:=⟨_,rfl⟩
 have hc1:Chg (fun _=>False) W0 W1:=by rw[<-hW1];exact (Chg.refl _ _).drewN _
 have d1:W1.cell? ⟨q,1,none⟩=some (ptr tb):=(hc1.cell (p:=⟨q,1,none⟩) hqlt (fun x=>x)).trans c1
 have d3:W1.cell? ⟨q,3,none⟩=some (.int .i64 s.now):=(hc1.cell (p:=⟨q,3,none⟩) hqlt (fun x=>x)).trans c3
 have d4:W1.cell? ⟨q,4,none⟩=some (.int .i64 s.head):=(hc1.cell (p:=⟨q,4,none⟩) hqlt (fun x=>x)).trans c4
 have hqlt1:q<W1.heap.size:=Nat.lt_of_lt_of_le hqlt hc1.size
 have HC1:=Lib.hid hc1
 rw[hW1]
 clear hW1 c0 c1 c2 c3 c4 hc1
 go_region_held3 (fun w'=>w'.cell? ⟨q,1,none⟩=some (ptr tb)/\w'.cell? ⟨q,3,none⟩=some (.int .i64 s.now)/\w'.cell? ⟨q,4,none⟩=some (.int .i64 s.head))
  (go_keep)
  (first
    | (go_at_call 38;refine (ready_any tb mb clock s.last s.held s.now s.es _ ?_).mono ?_;exact HQ.out.tab.kept (HC1.out.drew) (fun x=>x) (fun x=>x) (fun _ _ x=>x);rintro e w2 ⟨v,rfl,hrow,hB2⟩
       have hqlt2:q<w2.heap.size:=Nat.lt_of_lt_of_le hqlt1 hB2.size
       have e1:w2.cell? ⟨q,1,none⟩=some (ptr tb):=(hB2.cell hqlt1).trans d1
       have e3:w2.cell? ⟨q,3,none⟩=some (.int .i64 s.now):=(hB2.cell hqlt1).trans d3
       have e4:w2.cell? ⟨q,4,none⟩=some (.int .i64 s.head):=(hB2.cell hqlt1).trans d4)
    | (go_at_call 37;refine (next_any _ _ s.head L _ (HL.out ▸ hrow) hLl ?_ ?_ hh).mono ?_
       ·exact fun e he=>(hB2.block e.p (Nat.lt_of_lt_of_le (lt_of_heap (HQ.out.tab.reqs e (HM.out e he))) HC1.out.size)).trans ((HC1.out.block e.p (lt_of_heap (HQ.out.tab.reqs e (HM.out e he))) (fun x=>x)).trans (HQ.out.tab.reqs e (HM.out e he)))
       ·exact fun e he=>HQ.out.tab.ok.page e (HM.out e he)
       rintro e w3 ⟨v3,rfl,hrow3,hB3⟩
       rw[hE]at hrow3 ⊢;dsimp only at hrow3 ⊢
       have e1':w3.cell? ⟨q,1,none⟩=some (ptr tb):=(hB3.cell hqlt2).trans e1
       have e3':w3.cell? ⟨q,3,none⟩=some (.int .i64 s.now):=(hB3.cell hqlt2).trans e3
       have e4':w3.cell? ⟨q,4,none⟩=some (.int .i64 s.head):=(hB3.cell hqlt2).trans e4))
 have HB3:=Lib.hid (((HC1.out.drew).of_below hB2).of_below hB3)
 have hsz3:W0.heap.size<=w2.heap.size:=Nat.le_trans HC1.out.size hB2.size
 have HROW:=Lib.hid hrow3
 clear hB2 hB3 hrow hrow3 e1 e3 e4 d1 d3 d4
 have hr3:w3.heap[w.heap.size]?=some (.cells #[.bool false,.int .i64 0,.int .i64 0,.slice none 0 0] 48 (0,0)):=(HB3.out.block _ (lt_of_heap HR.out) (fun x=>x)).trans HR.out
 have r0:w3.cell? ⟨w.heap.size,0,none⟩=some (.bool false):=cell_of hr3 rfl
 have r1:w3.cell? ⟨w.heap.size,1,none⟩=some (.int .i64 0):=cell_of hr3 rfl
 have r2:w3.cell? ⟨w.heap.size,2,none⟩=some (.int .i64 0):=cell_of hr3 rfl
 have r3:w3.cell? ⟨w.heap.size,3,none⟩=some (.slice none 0 0):=cell_of hr3 rfl
 have rf:∀ i,w3.frozen? ⟨w.heap.size,i,none⟩=false:=fun i=>free_of hr3
 have HR3:=Lib.hid hr3
 clear hr3
 have hnb:((n:Int) == 0)=false:=by simp;omega
 obtain⟨g1,cap1,cur1,rfl,hg1,hg2,hg3,hg4,hg5,hg6⟩:∃ g cap cur,v3=.slice (some ⟨g,0,none⟩) (f :: t).length cap/\w2.heap.size<=g/\w3.heap[g]?=some (.cells cur 97 (0,0))/\(f :: t).length<=cap/\cap<=maxLen/\cur.size=cap*1/\cur.toList.take ((f :: t).length*1)=(f :: t).map fun e=>ptr e.p:=by
  rcases HROW.out.2 with ⟨_,h0⟩ | h1
  ·simp at h0
  ·exact h1
 have hcell:∀ j (hj:j<(f :: t).length),w3.cell? ⟨g1,j,none⟩=some (ptr ((f :: t)[j]'hj).p):=fun j hj=>row_cell (B:=g1+1) (wr:=w3) hg2 hg6 (Below.refl _ _) (by omega) j hj
 obtain⟨N,hN⟩:∃ N,(f :: t).length=N:=⟨_,rfl⟩
 have hN0:(0:Int)<(N:Int):=by rw[<-hN];simp
 have hf0:=hcell 0 (by simp)
 simp only[List.getElem_cons_zero]at hf0
 have hfw:w3.cell? ⟨f.p,1,none⟩=some (.bool f.r.write):=by
  have:=(HB3.out.block f.p (lt_of_heap (HQ.out.tab.reqs f (hin f (by simp)))) (fun x=>x)).trans (HQ.out.tab.reqs f (hin f (by simp)))
  exact (ReqB.at this).c1
 have HC:=Lib.hid hcell
 have HG:=Lib.hid hg2
 have HG1:=Lib.hid hg1
 have HIN:=Lib.hid hin
 rw[hN]
 have HN:=Lib.hid hN
 clear hcell hg1 hg2 hg6 hin hN
 go_wp2_with fail
 obtain⟨i0,hi,hz0,hz1,hz2⟩:=info_parts Tryz.infoI
 obtain⟨l,hl⟩:∃ l,f :: t=l:=⟨_,rfl⟩
 have hNl:l.length=N:=by rw[<-hl];exact HN.out
 have HNl:=Lib.hid hNl
 have hlt3:∀ x∈s.es,x.p<w3.heap.size:=fun x hx=>Nat.lt_of_lt_of_le (lt_of_heap (HQ.out.tab.reqs x hx)) HB3.out.size
 have htb3:tb<w3.heap.size:=Nat.lt_of_lt_of_le (lt_of_heap HQ.out.tab.tab) HB3.out.size
 have hmb3:mb<w3.heap.size:=Nat.lt_of_lt_of_le (lt_of_heap HQ.out.tab.map) HB3.out.size
 have HLT:=Lib.hid hlt3
 have HLE:=Lib.hid hl
 have HC2:Hid (∀ j (hj:j<l.length),w3.cell? ⟨g1,j,none⟩=some (ptr (l[j]'hj).p)):=Lib.hid (hl ▸ HC.out)
 have HIN2:Hid (∀ e∈l,e∈s.es):=Lib.hid (hl ▸ HIN.out)
 have hg1lt:g1<w3.heap.size:=lt_of_heap HG.out
 have hg1ge:∀ x∈s.es,x.p<g1:=fun x hx=>Nat.lt_of_lt_of_le (lt_of_heap (HQ.out.tab.reqs x hx)) (Nat.le_trans hsz3 HG1.out)
 have HG2:=Lib.hid hg1ge
 have HTM:=Lib.hid (And.intro htb3 hmb3)
 clear hlt3 hl hg1ge htb3 hmb3
 go_loopg [53] N (fun k i wr=>∃ (j:Nat) (cv:Value),k=N - j/\j<=N/\i=.int .i64 j/\SendB w3 wr tb mb clock s f.r.write p n l j cv)
 case atStart=>exact ⟨0,.slice none 0 0,by simp,Nat.zero_le _,rfl,World.alloc_heap_new w3 _,World.ownsRow_nil _ _ _ _,by
  have h1:sendE s.es ((l.take 0).map (·.r.num))=s.es:=by simp[sendE]
  rw[h1]
  exact (HQ.out.tab.kept HB3.out (fun x=>x) (fun x=>x) (fun _ _ x=>x)).below ((Below.refl _ _).alloc (Nat.le_refl _) _),(Chg.refl _ _).alloc _⟩
 case round=>
  obtain⟨j,cv,rfl,hj,rfl,hS⟩:=hrel
  by_cases hlt:j<N
  ·have hjl:j<l.length:=by omega
   obtain⟨e,he⟩:∃ e,l[j]=e:=⟨_,rfl⟩
   have hm:e∈s.es:=HIN2.out e (by rw[<-he];exact List.getElem_mem hjl)
   have hcg:wr.cell? ⟨g1,j,none⟩=some (ptr e.p):=by
    rw[<-he]
    exact (hS.chg.cell (p:=⟨g1,j,none⟩) hg1lt (fun ⟨x,hx,hxe⟩=>by have:=HG2.out x hx;simp at hxe;omega)).trans (HC2.out j hjl)
   obtain⟨r,hr,hrn⟩:=sendE_mem hm ((l.take j).map (·.r.num))
   have hR:=hS.tab.reqs _ hr
   have a7:wr.cell? ⟨e.p,7,none⟩=some (.int .i64 r.state):=hR.at.c7
   have a11:wr.cell? ⟨e.p,11,none⟩=some (.bool r.inAir):=hR.at.c11
   have f7:wr.frozen? ⟨e.p,7,none⟩=false:=free_of hR
   have f11:wr.frozen? ⟨e.p,11,none⟩=false:=free_of hR
   obtain⟨W',hW'⟩:∃ W',(wr.setCell ⟨e.p,7,none⟩ (.int .i64 1)).setCell ⟨e.p,11,none⟩ (.bool true)=W':=⟨_,rfl⟩
   obtain⟨hb,hrow,htab,hchg,hsz,hc0⟩:=hS.sent hjl he hm HLT.out hW'
   have hltI:(j:Int)<(N:Int):=by omega
   have HS:=Lib.hid hS
   have HE:=Lib.hid he
   have hep:=HLT.out e hm
   have HMM:=Lib.hid hm
   have HWW:=Lib.hid hW'
   clear hS he hr hR htab hchg hm
   go_wp2_with fail
   have hbl:W'.cell? ⟨w3.heap.size,3,none⟩=some cv:=cell_of hb rfl
   have hbf:W'.frozen? ⟨w3.heap.size,3,none⟩=false:=free_of hb
   have hblt:=lt_of_heap hb
   have hwlt:=Nat.lt_of_lt_of_le hep (Nat.le_of_lt hblt)
   obtain⟨xs,hxs⟩:∃ xs,((l.take j).map fun e=>Value.int .i64 e.r.num)=xs:=⟨_,rfl⟩
   rw[hxs]at hrow
   have HX:=Lib.hid hxs
   have ab:cv.ownBlock≠some w3.heap.size:=fun h=>by have:=(hrow.lt _ h).1;omega
   have n1:=World.new_ne W' _ hbl
   have hN4:N<=1000000:=by rw[<-HN.out];exact hl4
   clear hW' hxs hb hsz
   go_region_law
    ((refine step_append_lies _ (by rfl) _ _ _ (by rfl) (w3.heap.size+1) 3 i0 _ 1 8 Tryx.underlying24 hi hz0 hz1 hz2 rfl (by omega) cv j xs (by rfl) ((hrow.alloc _).drew)
       ⟨W'.heap.size,0,none⟩ 1 1 [.int .i64 e.r.num] (by rfl) (by rfl) (World.news_of_block (cs:=#[.int .i64 e.r.num]) (t:=3) (fr:=(0,0)) (heap_alloc_new W' _)) (by simp[Value.oneCell'])
       (by omega) (by unfold maxLen;omega) (by omega) (by simp;omega) (W'.heap.size+1) (by simp) ?_;intro gg cap2 w1 hown1 hgrow hat hltg
      have z2:=hgrow.cell (a:=⟨w3.heap.size,3,none⟩) (v:=cv) (by go_keep) (fun h=>ab h.symm)
      have z3:=grown_free hgrow (a:=⟨w3.heap.size,3,none⟩) (v:=cv) (by go_keep) (by simp[*,frozen?_alloc_cells]) (fun h=>ab h.symm)))
   all_goals try go_wp2_with fail
   all_goals go_roundg (N - (j+1))
   all_goals first
    | (show N - (j+1)<N - j;omega)
    | exact⟨j+1,_,rfl,by omega,by go_num,HS.out.next hjl HE.out HMM.out HLT.out HTM.out.1 HTM.out.2 HWW.out (by go_grown) (HX.out ▸ hown1) hgrow hat⟩
  ·have hjN:j=N:=by omega
   subst hjN
   obtain⟨W4,rfl⟩:∃ x,x=wr:=⟨_,rfl⟩
   have hbq:W4.heap[q]?=w3.heap[q]?:=hS.chg.block q (Nat.lt_of_lt_of_le hqlt HB3.out.size) fun ⟨x,hx,e⟩=>HQ.out.ne_qp hx e
   have hq4:W4.heap[q]?=some (.cells (qCells tb (.slice fa s.cs.length fc) s) 89 (0,0)):=hbq.trans ((HB3.out.block q hqlt (fun x=>x)).trans HQ.out.que)
   have hfl4:W4.ownsRow 0 48 4 (.slice fa s.cs.length fc) s.cs.length (s.cs.flatMap cmdCells):=by
    refine ownsRow_chg (ownsRow_chg HQ.out.fl HB3.out fun _ _ x=>x) hS.chg fun k hk ⟨x,hx,e⟩=>?_
    obtain⟨cur,hcur⟩:=own_heap HQ.out.fl hk
    exact ne_of_heap hcur (HQ.out.tab.reqs x hx) (by simp) e
   have k2:W4.cell? ⟨q,2,none⟩=some (.slice fa s.cs.length fc):=cell_of hq4 rfl
   have k4:W4.cell? ⟨q,4,none⟩=some (.int .i64 s.head):=cell_of hq4 rfl
   have kf:∀ i,W4.frozen? ⟨q,i,none⟩=false:=fun i=>free_of hq4
   have b0:W4.cell? ⟨w3.heap.size,0,none⟩=some (.bool f.r.write):=cell_of hS.blk rfl
   have b1:W4.cell? ⟨w3.heap.size,1,none⟩=some (.int .i64 p):=cell_of hS.blk rfl
   have b2:W4.cell? ⟨w3.heap.size,2,none⟩=some (.int .i64 n):=cell_of hS.blk rfl
   have b3:W4.cell? ⟨w3.heap.size,3,none⟩=some cv:=cell_of hS.blk rfl
   obtain⟨ca,cc,rfl⟩:=own_slice hS.row
   have HS:=Lib.hid hS
   have HQ4:=Lib.hid hq4
   have HF4:=Lib.hid hfl4
   clear hS hq4 hfl4 hbq
   go_wp2_with fail
   have ag:(Value.slice fa s.cs.length fc).ownBlock≠some q:=fun h=>HQ.out.ne_qf h rfl
   have hblt:w3.heap.size<W4.heap.size:=lt_of_heap HS.out.blk
   have n1:=World.new_ne W4 _ k2
   have n2:=World.new_ne W4 _ k4
   have hqlt4:q<W4.heap.size:=lt_of_heap HQ4.out
   have hcl:s.cs.length<=4:=by omega
   obtain⟨i4,hi4,hz40,hz41,hz42⟩:=info_parts Tryz.infoC
   go_region_law
    ((refine step_append_lies _ (by rfl) _ _ _ (by rfl) 0 48 i4 _ 4 48 Tryx.underlying55 hi4 hz40 hz41 hz42 rfl (by omega) (.slice fa s.cs.length fc) s.cs.length _ (by rfl) ((HF4.out.alloc _).drew)
       ⟨W4.heap.size,0,none⟩ 1 1 [.bool f.r.write,.int .i64 p,.int .i64 n,.slice ca j cc] (by rfl) (by rfl) (World.news_of_block (cs:=#[.bool f.r.write,.int .i64 p,.int .i64 n,.slice ca j cc]) (t:=48) (fr:=(0,0)) (heap_alloc_new W4 _)) (by simp[Value.oneCell'])
       (by omega) (by unfold maxLen;omega) (by omega) (by omega) (W4.heap.size+1) (by simp) ?_;intro gg cap2 w1 hown1 hgrow hat hltg
      have z2:=hgrow.cell (a:=⟨q,2,none⟩) (v:=.slice fa s.cs.length fc) (by go_keep) (fun h=>ag h.symm)
      have z3:=grown_free hgrow (a:=⟨q,2,none⟩) (v:=.slice fa s.cs.length fc) (by go_keep) (by simp[*,frozen?_alloc_cells]) (fun h=>ag h.symm)))
   all_goals
    have hfinal:=step_world (HQ.out.kept HB3.out fun _ _ x=>x) HS.out HNl.out (by go_grown) hown1 hgrow hat
    have hpn:IntKind.i64.wrap ((p:Int)+(n:Int))=(p:Int)+(n:Int):=by rw[IntKind.wrap_i64];omega
    obtain⟨W6,hW6⟩:∃ W6,((w1.setCell ⟨q,2,none⟩ (.slice (some ⟨gg,0,none⟩) (s.cs.length+1) cap2)).setCell ⟨q,4,none⟩ (.int .i64 ((p:Int)+(n:Int))))=W6:=⟨_,rfl⟩
    rw[hW6]at hfinal
    obtain⟨hfq,hfc,hff⟩:=hfinal
    have m4:(w1.setCell ⟨q,2,none⟩ (.slice (some ⟨gg,0,none⟩) (s.cs.length+1) cap2)).cell? ⟨q,4,none⟩=some (.int .i64 s.head):=by
     rw[World.cell?_setCell_other _ _ _ _ (by simp)]
     exact hgrow.cell (by go_keep) (fun h=>ag h.symm)
    have m4f:(w1.setCell ⟨q,2,none⟩ (.slice (some ⟨gg,0,none⟩) (s.cs.length+1) cap2)).frozen? ⟨q,4,none⟩=false:=by
     rw[World.frozen?_setCell]
     exact grown_free hgrow (v:=.int .i64 s.head) (by go_keep) (by simp[*,frozen?_alloc_cells]) (fun h=>ag h.symm)
    have hnb4:∀ k,w3.heap.size<=k->¬(k=q\/(Value.slice fa s.cs.length fc).ownBlock=some k):=fun k hk hh=>by
     rcases hh with e | e
     ·have:=Nat.lt_of_lt_of_le hqlt HB3.out.size;omega
     ·obtain⟨cur,hcur⟩:=own_heap HQ.out.fl e
      have:=Nat.lt_of_lt_of_le (lt_of_heap hcur) HB3.out.size;omega
    have hB6:W6.heap[w3.heap.size]?=some (.cells #[.bool f.r.write,.int .i64 p,.int .i64 n,.slice ca j cc] 48 (0,0)):=(hfc.block _ hblt (hnb4 _ (Nat.le_refl _))).trans HS.out.blk
    have x0:W6.cell? ⟨w3.heap.size,0,none⟩=some (.bool f.r.write):=cell_of hB6 rfl
    have x1:W6.cell? ⟨w3.heap.size,1,none⟩=some (.int .i64 p):=cell_of hB6 rfl
    have x2:W6.cell? ⟨w3.heap.size,2,none⟩=some (.int .i64 n):=cell_of hB6 rfl
    have x3:W6.cell? ⟨w3.heap.size,3,none⟩=some (.slice ca j cc):=cell_of hB6 rfl
    have HFQ:=Lib.hid hfq
    have HFC:=Lib.hid hfc
    have HFF:=Lib.hid hff
    have hr6:W6.heap[w.heap.size]?=some (.cells #[.bool false,.int .i64 0,.int .i64 0,.slice none 0 0] 48 (0,0)):=by
     have hlt3:=lt_of_heap HR3.out
     refine (hfc.block _ (Nat.lt_of_lt_of_le hlt3 HS.out.chg.size) ?_).trans ((HS.out.chg.block _ hlt3 ?_).trans HR3.out)
     ·intro hh
      have:=HQ0.out.foot_lt (k:=w.heap.size) (hh.elim (fun e=>.inl e) fun e=>.inr (.inr (.inr (.inl e))))
      omega
     ·rintro⟨x,hx,e⟩
      have:=HQ0.out.foot_lt (k:=w.heap.size) (.inr (.inr (.inr (.inr (.inl ⟨x,hx,e⟩)))))
      omega
    have HR6:=Lib.hid hr6
    have hsz6:w.heap.size<=W6.heap.size:=Nat.le_of_lt (lt_of_heap hr6)
    clear hfq hfc hff hnb4 hB6 hown1 hgrow hr6
    go_wp2_with fail
    refine (clone_any f.r.write p n (.slice ca j cc) (l.map (·.r.num)) W6 (HFQ.out.rows _ (List.mem_append_right _ (List.mem_singleton.2 rfl))) (by rw[List.length_map,<-HLE.out];exact hl4)).mono ?_
    rintro x w7 ⟨v',rfl,hv',hB7⟩
    have hr7:w7.heap[w.heap.size]?=some (.cells #[.bool false,.int .i64 0,.int .i64 0,.slice none 0 0] 48 (0,0)):=(hB7.block _ (lt_of_heap HR6.out)).trans HR6.out
    have y0:w7.cell? ⟨w.heap.size,0,none⟩=some (.bool false):=cell_of hr7 rfl
    have y1:w7.cell? ⟨w.heap.size,1,none⟩=some (.int .i64 0):=cell_of hr7 rfl
    have y2:w7.cell? ⟨w.heap.size,2,none⟩=some (.int .i64 0):=cell_of hr7 rfl
    have y3:w7.cell? ⟨w.heap.size,3,none⟩=some (.slice none 0 0):=cell_of hr7 rfl
    have yf:∀ i,w7.frozen? ⟨w.heap.size,i,none⟩=false:=fun i=>free_of hr7
    obtain⟨ya,yc,rfl⟩:=own_slice hv'
    have HV:=Lib.hid hv'
    have HB7:=Lib.hid hB7
    have HR7:=Lib.hid hr7
    clear hv' hB7 hr7
    go_wp2_with fail
    obtain⟨e9,hc9⟩:=cmd_set (W:=w7) (.bool f.r.write) (.int .i64 p) (.int .i64 n) (.slice ya (l.map (·.r.num)).length yc) HR7.out
    rw[List.length_map,HNl.out]at e9 hc9
    obtain⟨W9,hW9⟩:∃ W9,((((w7.setCell ⟨w.heap.size,0,none⟩ (.bool f.r.write)).setCell ⟨w.heap.size,1,none⟩ (.int .i64 p)).setCell ⟨w.heap.size,2,none⟩ (.int .i64 n)).setCell ⟨w.heap.size,3,none⟩ (.slice ya j yc))=W9:=⟨_,rfl⟩
    rw[hW9]at e9 hc9
    try simp only[List.length_map,HNl.out]
    try rw[hW9]
    have z0:W9.cell? ⟨w.heap.size,0,none⟩=some (.bool f.r.write):=cell_of e9 rfl
    have z1:W9.cell? ⟨w.heap.size,1,none⟩=some (.int .i64 p):=cell_of e9 rfl
    have z2:W9.cell? ⟨w.heap.size,2,none⟩=some (.int .i64 n):=cell_of e9 rfl
    have z3:W9.cell? ⟨w.heap.size,3,none⟩=some (.slice ya j yc):=cell_of e9 rfl
    have hfoot:∀ k,QFoot q tb mb (.slice (some ⟨gg,0,none⟩) (s.cs.length+1) cap2) (stepS s ⟨f.r.write,p,n,l.map (·.r.num)⟩ (.slice ca j cc)) k->k≠w.heap.size:=fun k hk he=>by
     rcases HFF.out k hk with h1 | h1
     ·have:=HQ0.out.foot_lt h1;omega
     ·have:=lt_of_heap HR3.out;omega
    have hq9:=(HFQ.out.kept (chgB HB7.out fun _=>False) (fun _ _ x=>x)).kept hc9 hfoot
    have hf9:∀ k,QFoot q tb mb (.slice (some ⟨gg,0,none⟩) (s.cs.length+1) cap2) (stepS s ⟨f.r.write,p,n,l.map (·.r.num)⟩ (.slice ca j cc)) k->(F k\/w.heap.size<=k)/\k<W6.heap.size:=fun k hk=>⟨(HFF.out k hk).imp (HF.out k) fun h=>Nat.le_trans HB.out.size (Nat.le_trans HB3.out.size h),HFQ.out.foot_lt hk⟩
    have hcF:Chg F w W9:=by
     have a1:Chg F w w3:=(chgB HB.out F).then (HB3.out.mono fun _ _ h=>h.elim)
     have a2:Chg F w W4:=a1.then (HS.out.chg.mono fun k _ ⟨x,hx,e⟩=>HF.out k (.inr (.inr (.inr (.inr (.inl ⟨x,hx,e⟩))))))
     have a3:Chg F w W6:=a2.then (HFC.out.mono fun k _ hk=>HF.out k (hk.elim (fun e=>.inl e) fun e=>.inr (.inr (.inr (.inl e)))))
     exact (a3.of_below HB7.out).trans (hc9.mono fun k _ hk=>.inr (by omega))
    have hv9:W9.ownsRow w.heap.size 3 1 (.slice ya j yc) (f :: t).length (((f :: t).map (·.r.num)).map fun n=>Value.int .i64 n):=by
     have h1:=HV.out
     rw[List.length_map,HNl.out]at h1
     rw[HLE.out,HNl.out]
     refine ownsRow_chg (ownsRow_low h1 hsz6) hc9 fun k hk hh=>?_
     have:=(h1.lt k hk).1
     have:=lt_of_heap HR6.out
     omega
    have hvb:∀ k,(Value.slice ya j yc).ownBlock=some k->W6.heap.size<=k:=fun k hk=>by
     have h1:=HV.out
     rw[List.length_map,HNl.out]at h1
     exact (h1.lt k hk).1
    refine bodyPost_ret (v:=.tuple #[.agg #[.bool f.r.write,.int .i64 p,.int .i64 n,.slice ya j yc],.bool true]) (by simp[results,Tryz.results18,go_sem,z0,z1,z2,z3]) rfl
     ⟨.slice ca j cc,.slice ya j yc,fun k=>(F k\/w.heap.size<=k)/\k<W6.heap.size,rfl,⟨tb,mb,clock,.slice (some ⟨gg,0,none⟩) (s.cs.length+1) cap2,?_,?_⟩,fun k hk=>hk.1,fun k hk hk2=>by have:=hvb k hk;omega,hcF,hv9⟩
    ·rw[HLE.out]
     exact hq9
    ·rw[HLE.out]
     exact hf9
theorem setCells_drew(g:Nat):∀ (vs:List Value) (o:Nat) (w:World),w.drew.setCells g o vs=(w.setCells g o vs).drew
 | [],_,_=>rfl
 | _ :: vs,o,w=>setCells_drew g vs (o+1) (w.setCell ⟨g,o,none⟩ _)
theorem del_any(g n cap k j1:Nat)(hj1:k+1=j1)(cur:Array Value)(cs:List (Cmd×Value))(w:World)(hn:cs.length=n)(hk:k<n)(hb:w.heap[g]?=some (.cells cur 48 (0,0)))(hcap:n<=cap)(hsz:cur.size=cap*4)(hrow:cur.toList.take (n*4)=cs.flatMap cmdCells)(h1c:∀ c∈cs,c.2.oneCell'=true):
  Calls Tryx.prog 71 #[.slice (some ⟨g,0,none⟩) n cap,.int .i64 k,.int .i64 j1] w fun x w'=>x=.returned (.slice (some ⟨g,0,none⟩) (n - 1:Nat) cap)/\Chg (fun i=>i=g) w w'/\
   ∃ cur2,w'.heap[g]?=some (.cells cur2 48 (0,0))/\cur2.size=cap*4/\cur2.toList.take ((n - 1)*4)=(cs.eraseIdx k).flatMap cmdCells:=by
 have hR:=del_row hn hk hb hcap hsz hrow
 have hb1:(0:Int)<=(k:Int):=by omega
 have hb2:(k:Int)<=(j1:Int):=by omega
 have hb3:(j1:Int)<=(n:Int):=by omega
 have hb4:(n:Int)<=(cap:Int):=by omega
 have hb5:((k:Int) == (j1:Int))=false:=by simp;omega
 have hb6:(k:Int)<=(cap:Int):=by omega
 have hb7:(0:Int)<=(j1:Int):=by omega
 obtain⟨W1,W2,hW1,hW2,hc2,hc1,⟨cur1,hu1,hu2⟩,hfin⟩:=hR
 obtain⟨tl,htl⟩:∃ tl,(cs.drop (k+1)).flatMap cmdCells=tl:=⟨_,rfl⟩
 have hlen:∀ l:List (Cmd×Value),(l.flatMap cmdCells).length=l.length*4:=fun l=>by
  induction l with
  | nil=>rfl
  | cons c l ih=>rw [List.flatMap_cons,List.length_append,ih];simp[cmdCells];omega
 have htll:tl.length=(n - j1)*4:=by rw[<-htl,hlen,List.length_drop,hn,hj1]
 have hcurl:cur.toList.length=cap*4:=by rw[Array.length_toList];exact hsz
 have hnews:∀ j u,tl[j]?=some u->w.drew.cell? ((⟨g,j1*4,none⟩:Addr).add j)=some u:=fun j u hu=>by
  rw[show (⟨g,j1*4,none⟩:Addr).add j=⟨g,j1*4+j,none⟩ from by unfold Addr.add;split <;> simp_all]
  refine cell_of (w:=w.drew) hb ?_
  have hj:j<tl.length:=(List.getElem?_eq_some_iff.1 hu).1
  have h1:cur.toList[j1*4+j]?=(cs.flatMap cmdCells)[j1*4+j]?:=by
   rw[<-hrow,List.getElem?_take_of_lt (by omega)]
  have h2:cs.flatMap cmdCells=(cs.take j1).flatMap cmdCells ++ tl:=by
   rw[<-htl,hj1,<-List.flatMap_append,List.take_append_drop]
  rw[<-Array.getElem?_toList,h1,h2,List.getElem?_append_right (by rw[hlen,List.length_take];omega),hlen,List.length_take,show j1*4+j - min j1 cs.length*4=j from by omega]
  exact hu
 have hone:∀ u∈tl,u.oneCell'=true:=by
  rw[<-htl]
  intro u hu
  obtain⟨c,_,hc⟩:=List.mem_flatMap.1 hu
  have h1:=h1c c (List.drop_subset _ _ ‹_›)
  simp only[cmdCells,List.mem_cons,List.mem_nil_iff,or_false]at hc
  rcases hc with rfl | rfl | rfl | rfl
  ·rfl
  ·rfl
  ·rfl
  ·exact h1
 have hspare:∀ j,j<tl.length->(w.drew.cell? ⟨g,0+k*4+j,none⟩).isSome=true/\w.drew.frozen? ⟨g,0+k*4+j,none⟩=false:=fun j hj=>by
  refine⟨?_,free_of (w:=w.drew) hb⟩
  have hx:(0+k*4+j)<cur.size:=by omega
  rw[cell_of (w:=w.drew) (i:=0+k*4+j) hb (Array.getElem?_eq_getElem hx)];rfl
 rw[htl]at hW1
 rw[<-show (0+k*4)=k*4 from by omega]at hW1
 have HNW:=Lib.hid hnews
 have HON:=Lib.hid hone
 have HSP:=Lib.hid hspare
 have HW1:=Lib.hid hW1
 have HW2:=Lib.hid hW2
 have HC2:=Lib.hid hc2
 have HF:=Lib.hid hfin
 have HU1:=Lib.hid hu1
 have HU2:=Lib.hid hu2
 have hclr:∀ c,(Builtin.clear_ #[55] 0 #[.slice (some ⟨g,(n - 1)*4,none⟩) 1 c]).run Tryx.prog W1.drew=.ok (.tuple #[]) W2.drew:=fun c=>by
  rw[hW2,<-setCells_drew]
  refine run_clear_cmd W1.drew g ((n - 1)*4) c 0 (fun j hj=>?_) fun j hj=>free_of (w:=W1.drew) hu1
  have hx:(n - 1)*4+j<cur1.size:=by omega
  rw[cell_of (w:=W1.drew) (i:=(n - 1)*4+j) hu1 (Array.getElem?_eq_getElem hx)];rfl
 have hst:w.drew.setCells g (k*4) tl=W1.drew:=by rw[setCells_drew,hW1,show 0+k*4=k*4 from by omega]
 have HCL:=Lib.hid hclr
 have HST:=Lib.hid hst
 clear hclr hst hb hsz hrow hW1 hW2 hc2 hc1 hu1 hu2 hfin hcurl hnews hone hspare htl hlen
 by_cases hce:cap=j1
 ·have hnj:n=j1:=by omega
  subst hnj
  subst hce
  have htn:tl=[]:=List.length_eq_zero_iff.1 (by omega)
  have HNW:Hid (∀ j u,tl[j]?=some u->w.drew.cell? ((⟨g,0,none⟩:Addr).add j)=some u):=Lib.hid (fun j u hu=>by rw[htn]at hu;simp at hu)
  have HTN:=Lib.hid htn
  clear htn
  go_enter Tryx.func71,Tryz.ntmps71
  go_wp2_with fail
  obtain⟨i4,hi4,hz40,hz41,hz42⟩:=info_parts Tryz.infoC
  have hkc:k<=cap:=by omega
  go_region_law (fail)
  rw[show k=cap - 1 from by omega]
  obtain⟨n1,hn1⟩:∃ n1,cap - 1=n1:=⟨_,rfl⟩
  have HN1:=Lib.hid hn1
  rw[hn1]
  have hn2:cap - n1=1:=by omega
  have hn3:(0:Int)<=(n1:Int):=by omega
  have hn4:(n1:Int)<=(cap:Int):=by omega
  have hn5:¬cap=n1:=by omega
  have hcl:=HCL.out
  rw[hn1]at hcl
  have hst2:=HST.out
  rw[HTN.out]at hst2
  have hst3:w.drew=W1.drew:=hst2
  clear hst2
  go_wp2_with fail
  go_ret
  rw[HN1.out]
  refine⟨rfl,HC2.out.drew,?_⟩
  obtain⟨cur2,f1,f2,f3⟩:=HF.out
  rw[HN1.out]at f3
  exact⟨cur2,f1,f2,f3⟩
 ·have hce2:¬cap=j1:=hce
  go_enter Tryx.func71,Tryz.ntmps71
  go_wp2_with fail
  obtain⟨i4,hi4,hz40,hz41,hz42⟩:=info_parts Tryz.infoC
  go_region_law
   (refine step_append_room (by rfl) _ _ 55 (by rfl) 48 i4 4 Tryx.underlying55 hi4 hz41 g 0 k cap (by rfl) ⟨g,j1*4,none⟩ (n - j1) (cap - j1) tl ?hx htll HNW.out HON.out (by omega) HSP.out ?hK;case hx=>simp [Act.eval,Act.put])
  rw[show k+(n - j1)=n - 1 from by omega]
  obtain⟨n1,hn1⟩:∃ n1,n - 1=n1:=⟨_,rfl⟩
  have HN1:=Lib.hid hn1
  rw[hn1]
  have hn2:n - n1=1:=by omega
  have hn3:(0:Int)<=(n1:Int):=by omega
  have hn4:(n1:Int)<=(n:Int):=by omega
  have hn5:¬cap=n1:=by omega
  have hcl:=HCL.out
  rw[hn1]at hcl
  have hst2:=HST.out
  go_wp2_with fail
  go_ret
  rw[HN1.out]
  refine⟨rfl,HC2.out.drew,?_⟩
  obtain⟨cur2,f1,f2,f3⟩:=HF.out
  rw[HN1.out]at f3
  exact⟨cur2,f1,f2,f3⟩
end
section
open Go.RowKit Go.Shelf Go.Lib
set_option maxRecDepth 100000
def landS(fault:Bool)(s:Sta)(n:Int):Sta:=
 match s.es.find? fun e=>e.r.num == n with
 | none=>s
 | some e=>{s with es:=landE (updE s.es e.r.num fun _=>St.landR s.now s.disk fault e.r) ⟨St.landR s.now s.disk fault e.r,e.p,e.born⟩,disk:=St.landD s.disk fault e.r}
theorem landS_some{s:Sta}{e:Ent}{n:Int}(hok:EntsOk s.es)(he:e∈s.es)(hn:e.r.num=n)(fault:Bool):
  landS fault s n={s with es:=landE (updE s.es e.r.num fun _=>St.landR s.now s.disk fault e.r) ⟨St.landR s.now s.disk fault e.r,e.p,e.born⟩,disk:=St.landD s.disk fault e.r}:=by
 have hf:(s.es.find? fun x=>x.r.num == n)=some e:=by
  obtain⟨l1,l2,e1,h1,h2⟩:=hok.split he
  rw[e1,List.find?_append,List.find?_eq_none.2 (fun x hx=>by have:=h1 x hx;simp;omega),List.find?_cons_of_pos (by simp[hn])]
  rfl
 unfold landS
 rw[hf]
theorem landS_same(fault:Bool)(s:Sta)(n:Int):(landS fault s n).depth=s.depth/\(landS fault s n).cs=s.cs/\(landS fault s n).now=s.now/\(landS fault s n).last=s.last/\(landS fault s n).held=s.held/\(landS fault s n).head=s.head:=by
 unfold landS
 split <;> exact⟨rfl,rfl,rfl,rfl,rfl,rfl⟩
theorem landS_p{fault:Bool}{s:Sta}{n:Int}{x:Ent}(hx:x∈(landS fault s n).es):∃ y∈s.es,y.p=x.p:=by
 unfold landS at hx
 split at hx
 ·exact⟨x,hx,rfl⟩
 ·have h1:=mem_landE hx
  obtain⟨y,hy,rfl⟩:=List.mem_map.1 h1
  exact⟨y,hy,by split <;> rfl⟩
def landsS(fault:Bool)(s:Sta)(ns:List Int):Sta:=ns.foldl (landS fault) s
theorem landsS_p{fault:Bool}:∀ {ns:List Int} {s:Sta} {x:Ent},x∈(landsS fault s ns).es->∃ y∈s.es,y.p=x.p
 | [],_,x,hx=>⟨x,hx,rfl⟩
 | n :: ns,s,x,hx=>by
   obtain⟨y,hy,e⟩:=landsS_p (ns:=ns) (s:=landS fault s n) hx
   obtain⟨z,hz,e'⟩:=landS_p hy
   exact⟨z,hz,e'.trans e⟩
theorem landsS_same(fault:Bool):∀ (ns:List Int) (s:Sta),(landsS fault s ns).cs=s.cs/\(landsS fault s ns).now=s.now
 | [],_=>⟨rfl,rfl⟩
 | n :: ns,s=>by
   obtain⟨a,b⟩:=landsS_same fault ns (landS fault s n)
   obtain⟨_,c,d,_⟩:=landS_same fault s n
   exact⟨a.trans c,b.trans d⟩
structure LandOk(s:Sta)(n:Int)(e:Ent):Prop where
 mem:e∈s.es
 num:e.r.num=n
 tries:0<=e.r.tries/\e.r.tries<=3
theorem land_all(q tb mb clock:Nat)(fv:Value)(s:Sta)(w:World)(fault:Bool)(n:Int)(e:Ent)(h:QB w q tb mb clock fv s)(hL:LandOk s n e)(hn:0<=s.now/\s.now<2 ^ 60):
  Calls Tryx.prog 72 #[ptr q,ptr e.p,.bool fault] w fun x w'=>x=.returned (.tuple #[])/\QB w' q tb mb clock fv (landS fault s n)/\Chg (fun k=>k=q\/k=mb\/k=e.p) w w':=by
 rw[landS_some h.tab.ok hL.mem hL.num]
 have hp:=h.tab.ok.page e hL.mem
 have hB:LandB w q tb fv s e e.r.page.toNat (dget s.disk e.r.page).a (dget s.disk e.r.page).b (dget s.disk e.r.page).c (dget s.disk e.r.page).d:=⟨h.que,h.tab.reqs e hL.mem,by omega,by omega,h.disk,rfl⟩
 have ht:=hL.tries
 cases fault with
 | false=>
   by_cases hs:e.r.state=1
   ·cases hw:e.r.write with
    | true=>exact land_wd q tb mb clock _ fv s w e _ _ _ _ h hL.mem hB ht hn hw hs
    | false=>exact land_rd q tb mb clock _ fv s w e _ _ _ _ h hL.mem hB ht hn hw hs
   ·cases hw:e.r.write with
    | true=>exact land_wn q tb mb clock _ fv s w e _ _ _ _ h hL.mem hB ht hn hw hs
    | false=>exact land_rn q tb mb clock _ fv s w e _ _ _ _ h hL.mem hB ht hn hw hs
 | true=>
   by_cases hs:e.r.state=1
   ·have h4:e.r.tries=0\/e.r.tries=1\/e.r.tries=2\/e.r.tries=3:=by omega
    rcases h4 with h4 | h4 | h4 | h4
    ·exact land_f0 q tb mb clock _ fv s w e _ _ _ _ h hL.mem hB ht hn hs h4
    ·exact land_f1 q tb mb clock _ fv s w e _ _ _ _ h hL.mem hB ht hn hs h4
    ·exact land_f2 q tb mb clock _ fv s w e _ _ _ _ h hL.mem hB ht hn hs h4
    ·exact land_ff q tb mb clock _ fv s w e _ _ _ _ h hL.mem hB ht hn hs h4
   ·exact land_fn q tb mb clock _ fv s w e _ _ _ _ h hL.mem hB ht hn hs
theorem QB.dropc{w W W2:World}{q tb mb clock:Nat}{g n cap k:Nat}{s:Sta}(h:QB w q tb mb clock (.slice (some ⟨g,0,none⟩) n cap) s)(hW:Below w.heap.size w W)(hc:Chg (fun i=>i=g) W W2){cur2:Array Value}(hcap:n - 1<=cap)(hcm:cap<=maxLen)(hn:s.cs.length=n)
  (h1:W2.heap[g]?=some (.cells cur2 48 (0,0))) (h2:cur2.size=cap*4) (h3:cur2.toList.take ((n - 1)*4)=(s.cs.eraseIdx k).flatMap cmdCells) (hk:k<n):
  QB (W2.setCell ⟨q,2,none⟩ (.slice (some ⟨g,0,none⟩) (n - 1:Nat) cap)) q tb mb clock (.slice (some ⟨g,0,none⟩) (n - 1:Nat) cap) {s with cs:=s.cs.eraseIdx k}:=by
 have hW2:=(h.kept (chgB hW fun _=>False) fun _ _ x=>x)
 have hqg:q≠g:=hW2.ne_qf rfl
 have hgh:=own_heap hW2.fl (k:=g) rfl
 obtain⟨cur,hcur⟩:=hgh
 have hcc:Chg (fun i=>i=g\/i=q) W (W2.setCell ⟨q,2,none⟩ (.slice (some ⟨g,0,none⟩) (n - 1:Nat) cap)):=(hc.mono fun _ _ h=>.inl h).then ((chg_set _).mono fun _ _ h=>.inr h)
 have hlen:(s.cs.eraseIdx k).length=n - 1:=by rw[List.length_eraseIdx,if_pos (by omega),hn]
 refine⟨?_,hW2.tab.kept hcc ?_ ?_ fun e he=>?_,?_,fun c hcm2=>?_,h.disk⟩
 ·have hq2:W2.heap[q]?=W.heap[q]?:=hc.block q (lt_of_heap hW2.que) hqg
  exact heap_setCell (i:=2) _ (hq2.trans hW2.que)
 ·rintro (e | e)
  ·exact ne_of_heap hW2.tab.tab hcur (by simp) e
  ·exact hW2.ne_qt e.symm
 ·rintro (e | e)
  ·exact ne_of_heap hW2.tab.map hcur (by simp) e
  ·exact hW2.ne_qm e.symm
 ·rintro (e' | e')
  ·exact ne_of_heap (hW2.tab.reqs e he) hcur (by simp) e'
  ·exact hW2.ne_qp he e'.symm
 ·have hlen2:((s.cs.eraseIdx k).flatMap cmdCells).length=(s.cs.eraseIdx k).length*4:=by
   generalize s.cs.eraseIdx k=l
   induction l with
   | nil=>rfl
   | cons c l ih=>rw [List.flatMap_cons,List.length_append,ih];simp[cmdCells];omega
  show (W2.setCell ⟨q,2,none⟩ _).ownsRow 0 _ 4 _ (s.cs.eraseIdx k).length _
  rw[hlen]
  refine⟨by rw[hlen2,hlen],.inr ⟨g,cap,cur2,rfl,Nat.zero_le _,?_,hcap,hcm,h2,h3⟩⟩
  exact (heap_setCell_ne _ hqg.symm).trans h1
 ·have hm:c∈s.cs:=(List.eraseIdx_sublist _ _).subset hcm2
  refine ownsRow_chg (hW2.rows c hm) hcc fun i hi hh=>?_
  obtain⟨cr,hcr⟩:=own_heap (hW2.rows c hm) hi
  rcases hh with e | e
  ·rw[e]at hcr
   rw[hcur]at hcr
   simp at hcr
  ·exact hW2.ne_qr hm hi e.symm
end
end Go.Proofs.YticobikhndlejaaGreatDoor
