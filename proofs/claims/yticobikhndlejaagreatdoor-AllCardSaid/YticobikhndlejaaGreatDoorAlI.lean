/- Part 9 of the proof (see the last part). -/
import Derived.Test.YticobikhndlejaaGreatDoorAlH
import Derived.Shelf.Sort.Plain
import Derived.Shelf.Slices.In.SortNone
namespace Go.Proofs.YticobikhndlejaaGreatDoor
section
open Go.RowKit Go.Shelf Go.Lib
set_option maxRecDepth 100000
set_option maxHeartbeats 8000000
theorem cmd_set{W:World}{b:Nat}{x0 x1 x2 x3:Value}(y0 y1 y2 y3:Value)(h:W.heap[b]?=some (.cells #[x0,x1,x2,x3] 48 (0,0))):
  ((((W.setCell ⟨b,0,none⟩ y0).setCell ⟨b,1,none⟩ y1).setCell ⟨b,2,none⟩ y2).setCell ⟨b,3,none⟩ y3).heap[b]?=some (.cells #[y0,y1,y2,y3] 48 (0,0))/\
  Chg (fun k=>k=b) W ((((W.setCell ⟨b,0,none⟩ y0).setCell ⟨b,1,none⟩ y1).setCell ⟨b,2,none⟩ y2).setCell ⟨b,3,none⟩ y3):=
 ⟨heap_setCell (i:=3) _ (heap_setCell (i:=2) _ (heap_setCell (i:=1) _ (heap_setCell (i:=0) _ h))),(((chg_set _).then (chg_set _)).then (chg_set _)).then (chg_set _)⟩
theorem Chg.drewN{S:Nat->Prop}{a w:World}(h:Chg S a w)(n:Nat):Chg S a (w.drewN n):=⟨h.os,h.tape,h.output,h.size,h.block⟩
abbrev noCmd:Value:=.agg #[.bool false,.int .i64 0,.int .i64 0,.slice none 0 0]
theorem step_full(q:Nat)(s:Sta)(F:Nat->Prop)(w:World)(h:QAt w q s F)(hd:s.depth<=s.cs.length):
  Calls Tryx.prog 18 #[ptr q] w fun x w'=>x=.returned (.tuple #[noCmd,.bool false])/\Below w.heap.size w w':=by
 obtain⟨tb,mb,clock,fv,hq,hF⟩:=h
 obtain⟨W0,hW0⟩:∃ W0,w.alloc (.cells #[.bool false,.int .i64 0,.int .i64 0,.slice none 0 0] 48)=W0:=⟨_,rfl⟩
 have hB0:Below w.heap.size w W0:=by rw[<-hW0];exact (Below.refl _ _).alloc (Nat.le_refl _) _
 have hr0:W0.heap[w.heap.size]?=some (.cells #[.bool false,.int .i64 0,.int .i64 0,.slice none 0 0] 48 (0,0)):=by rw[<-hW0];exact World.alloc_heap_new w _
 have hq:=hq.kept (chgB hB0 fun _=>False) fun _ _ x=>x
 have c0:=hq.c0
 have c2:=hq.c2
 obtain⟨fa,fc,rfl⟩:=own_slice hq.fl
 have hdd:decide ((s.cs.length:Int)>=(s.depth:Int))=true:=by simp;omega
 have r0:W0.cell? ⟨w.heap.size,0,none⟩=some (.bool false):=cell_of hr0 rfl
 have r1:W0.cell? ⟨w.heap.size,1,none⟩=some (.int .i64 0):=cell_of hr0 rfl
 have r2:W0.cell? ⟨w.heap.size,2,none⟩=some (.int .i64 0):=cell_of hr0 rfl
 have r3:W0.cell? ⟨w.heap.size,3,none⟩=some (.slice none 0 0):=cell_of hr0 rfl
 have rf:∀ i,W0.frozen? ⟨w.heap.size,i,none⟩=false:=fun i=>free_of hr0
 have HB:=Lib.hid hB0
 have HR:=Lib.hid hr0
 clear hq hF hB0 hr0
 go_enter Tryx.func18,Tryz.ntmps18
 go_wp2_with fail
 go_quiet (fail)
 go_wp2_with fail
 obtain⟨e5,hc5⟩:=cmd_set (W:=W0.drewN nq) (.bool false) (.int .i64 0) (.int .i64 0) (.slice none 0 0) HR.out
 obtain⟨W5,hW5⟩:∃ W5,(((((W0.drewN nq).setCell ⟨w.heap.size,0,none⟩ (.bool false)).setCell ⟨w.heap.size,1,none⟩ (.int .i64 0)).setCell ⟨w.heap.size,2,none⟩ (.int .i64 0)).setCell ⟨w.heap.size,3,none⟩ (.slice none 0 0))=W5:=⟨_,rfl⟩
 rw[hW5]at e5 hc5 ⊢
 have z0:W5.cell? ⟨w.heap.size,0,none⟩=some (.bool false):=cell_of e5 rfl
 have z1:W5.cell? ⟨w.heap.size,1,none⟩=some (.int .i64 0):=cell_of e5 rfl
 have z2:W5.cell? ⟨w.heap.size,2,none⟩=some (.int .i64 0):=cell_of e5 rfl
 have z3:W5.cell? ⟨w.heap.size,3,none⟩=some (.slice none 0 0):=cell_of e5 rfl
 refine bodyPost_ret (v:=.tuple #[noCmd,.bool false]) (by simp[results,Tryz.results18,go_sem,z0,z1,z2,z3]) rfl ⟨rfl,?_⟩
 have hc:=HB.out
 exact⟨hc5.os.trans hc.os,hc5.tape.trans hc.tape,hc5.output.trans hc.output,Nat.le_trans hc.size hc5.size,fun k hk=>(hc5.block k (Nat.lt_of_lt_of_le hk hc.size) (by omega)).trans (hc.block k hk)⟩
def sendE(es:List Ent)(ns:List Int):List Ent:=es.map fun e=>if e.r.num∈ns then ⟨sentR e.r,e.p,e.born⟩ else e
def stepS(s:Sta)(c:Cmd)(v:Value):Sta:={s with es:=sendE s.es c.nums,cs:=s.cs ++ [(c,v)],head:=c.page+c.count}
theorem nextE_spec(L:List Ent)(head:Nat)(hh:head<=16):nextE L head=(0,0,[])\/∃ p n f t,nextE L head=(p,n,f :: t)/\1<=n/\p+n<=16/\n<=4/\∀ e∈f :: t,e∈L:=by
 unfold nextE
 cases hb:beginE (fun k=>decide (0<(pageL L k).length)) head with
 | none=>exact .inl rfl
 | some p=>
   obtain⟨hp16,hne⟩:=beginE_of hh hb
   obtain⟨f,t,hft⟩:∃ f t,pageL L p=f :: t:=by
    cases hpl:pageL L p with
    | nil=>simp [hpl]at hne
    | cons f t=>exact ⟨f,t,rfl⟩
   have hfm:f∈L:=(List.mem_filter.1 (show f∈pageL L p from by rw[hft];simp)).1
   simp only[hft]
   cases hal:f.r.alone with
   | true=>exact .inr ⟨p,1,f,[],rfl,by omega,by omega,by omega,fun e he=>by rw[List.mem_singleton.1 he];exact hfm⟩
   | false=>
     simp only[Bool.false_eq_true,if_false]
     obtain⟨K,hK⟩:∃ K,nextK L f.r.write=K:=⟨_,rfl⟩
     have hk0:K p=f :: t.filter (isKind f.r.write):=by
      rw[<-hK]
      unfold nextK
      rw[hft,List.filter_cons_of_pos (by simp[isKind,hal])]
     have hkm:∀ k,∀ e∈K k,e∈L:=fun k e he=>by
      rw[<-hK]at he
      exact (List.mem_filter.1 (List.mem_filter.1 he).1).1
     rw[hK]
     obtain⟨M,hM⟩:∃ M,min 4 (16 - p)=M:=⟨_,rfl⟩
     rw[hM]
     have hr:runLen K p M<=M:=by
      unfold runLen
      exact Nat.le_trans (List.takeWhile_sublist _).length_le (by simp)
     have hr1:1<=runLen K p M:=by
      unfold runLen
      rw[show M=(M - 1)+1 from by omega,List.range_succ_eq_map,List.takeWhile_cons_of_pos (by simp[hk0])]
      simp
     obtain⟨n,hn⟩:∃ n,runLen K p M=n:=⟨_,rfl⟩
     rw[hn]at hr hr1 ⊢
     refine .inr ⟨p,n,f,t.filter (isKind f.r.write) ++ (List.range' 1 (n - 1)).flatMap fun i=>K (p+i),?_,hr1,by omega,by omega,?_⟩
     ·have:gather K p n=(f :: t.filter (isKind f.r.write)) ++ (List.range' 1 (n - 1)).flatMap fun i=>K (p+i):=by
       unfold gather
       rw[List.range_eq_range',show n=(n - 1)+1 from by omega,List.range'_succ,List.flatMap_cons]
       rw[show p+0=p from rfl,hk0]
       rfl
      rw[this]
      rfl
     ·intro e he
      rw[<-List.cons_append,List.mem_append]at he
      rcases he with he | he
      ·exact hkm p e (hk0 ▸ he)
      ·obtain⟨i,_,hi⟩:=List.mem_flatMap.1 he
       exact hkm _ e hi
theorem readyE_mem{now:Int}{es:List Ent}(h:EntsOk es){e:Ent}(he:e∈readyE now es):e∈es:=(byPage_perm h).mem_iff.1 (List.mem_filter.1 he).1
theorem readyE_len{now:Int}{es:List Ent}(h:EntsOk es):(readyE now es).length<=es.length:=Nat.le_trans (List.length_filter_le _ _) (Nat.le_of_eq (byPage_perm h).length_eq)
theorem step_none(q:Nat)(s:Sta)(F:Nat->Prop)(w:World)(h:QAt w q s F)(hd:s.cs.length<s.depth)(hh:s.head<=16)(hE:nextE (readyE s.now s.es) s.head=(0,0,[])):
  Calls Tryx.prog 18 #[ptr q] w fun x w'=>x=.returned (.tuple #[noCmd,.bool false])/\Below w.heap.size w w':=by
 obtain⟨tb,mb,clock,fv,hq,hF⟩:=h
 obtain⟨W0,hW0⟩:∃ W0,w.alloc (.cells #[.bool false,.int .i64 0,.int .i64 0,.slice none 0 0] 48)=W0:=⟨_,rfl⟩
 have hB0:Below w.heap.size w W0:=by rw[<-hW0];exact (Below.refl _ _).alloc (Nat.le_refl _) _
 have hr0:W0.heap[w.heap.size]?=some (.cells #[.bool false,.int .i64 0,.int .i64 0,.slice none 0 0] 48 (0,0)):=by rw[<-hW0];exact World.alloc_heap_new w _
 have hq:=hq.kept (chgB hB0 fun _=>False) fun _ _ x=>x
 have c0:=hq.c0
 have c1:=hq.c1
 have c2:=hq.c2
 have c3:=hq.c3
 have c4:=hq.c4
 obtain⟨fa,fc,rfl⟩:=own_slice hq.fl
 have hdd:decide ((s.cs.length:Int)>=(s.depth:Int))=false:=by simp;omega
 obtain⟨L,hL⟩:∃ L,readyE s.now s.es=L:=⟨_,rfl⟩
 have hLm:∀ e∈L,e∈s.es:=fun e he=>readyE_mem hq.tab.ok (now:=s.now) (hL ▸ he)
 have hLl:L.length<=1000000:=hL ▸ Nat.le_trans (readyE_len hq.tab.ok) hq.tab.len
 rw[hL]at hE
 have hqlt:=lt_of_heap hq.que
 have HQ:=Lib.hid hq
 have HB:=Lib.hid hB0
 have HR:=Lib.hid hr0
 have HL:=Lib.hid hL
 have HM:=Lib.hid hLm
 clear hq hF hB0 hr0 hL hLm
 go_enter Tryx.func18,Tryz.ntmps18
 go_wp2_with fail
 go_quiet (fail)
 go_wp2_with fail
 obtain⟨W1,hW1⟩:∃ W1,W0.drewN nq=W1:=⟨_,rfl⟩
 have hc1:Chg (fun _=>False) W0 W1:=by rw[<-hW1];exact (Chg.refl _ _).drewN _
 have d1:W1.cell? ⟨q,1,none⟩=some (ptr tb):=(hc1.cell (p:=⟨q,1,none⟩) hqlt (fun x=>x)).trans c1
 have d3:W1.cell? ⟨q,3,none⟩=some (.int .i64 s.now):=(hc1.cell (p:=⟨q,3,none⟩) hqlt (fun x=>x)).trans c3
 have d4:W1.cell? ⟨q,4,none⟩=some (.int .i64 s.head):=(hc1.cell (p:=⟨q,4,none⟩) hqlt (fun x=>x)).trans c4
 have hqlt1:q<W1.heap.size:=Nat.lt_of_lt_of_le hqlt hc1.size
 have HC1:=Lib.hid hc1
 rw[hW1]
 clear hW1 c0 c1 c2 c3 c4 hc1
 go_region_held3 (fun w'=>w'.cell? ⟨q,1,none⟩=some (ptr tb)/\w'.cell? ⟨q,3,none⟩=some (.int .i64 s.now)/\w'.cell? ⟨q,4,none⟩=some (.int .i64 s.head))
  (go_keep)
  (first
    | (go_at_call 38;refine (ready_any tb mb clock s.last s.held s.now s.es _ ?_).mono ?_;exact HQ.out.tab.kept (HC1.out.drew) (fun x=>x) (fun x=>x) (fun _ _ x=>x);rintro e w2 ⟨v,rfl,hrow,hB2⟩
       have hqlt2:q<w2.heap.size:=Nat.lt_of_lt_of_le hqlt1 hB2.size
       have e1:w2.cell? ⟨q,1,none⟩=some (ptr tb):=(hB2.cell hqlt1).trans d1
       have e3:w2.cell? ⟨q,3,none⟩=some (.int .i64 s.now):=(hB2.cell hqlt1).trans d3
       have e4:w2.cell? ⟨q,4,none⟩=some (.int .i64 s.head):=(hB2.cell hqlt1).trans d4)
    | (go_at_call 37;refine (next_any _ _ s.head L _ (HL.out ▸ hrow) hLl ?_ ?_ hh).mono ?_
       ·exact fun e he=>(hB2.block e.p (Nat.lt_of_lt_of_le (lt_of_heap (HQ.out.tab.reqs e (HM.out e he))) HC1.out.size)).trans ((HC1.out.block e.p (lt_of_heap (HQ.out.tab.reqs e (HM.out e he))) (fun x=>x)).trans (HQ.out.tab.reqs e (HM.out e he)))
       ·exact fun e he=>HQ.out.tab.ok.page e (HM.out e he)
       rintro e w3 ⟨v3,rfl,hrow3,hB3⟩
       rw[hE]at hrow3 ⊢;dsimp only at hrow3 ⊢
       have e1':w3.cell? ⟨q,1,none⟩=some (ptr tb):=(hB3.cell hqlt2).trans e1
       have e3':w3.cell? ⟨q,3,none⟩=some (.int .i64 s.now):=(hB3.cell hqlt2).trans e3
       have e4':w3.cell? ⟨q,4,none⟩=some (.int .i64 s.head):=(hB3.cell hqlt2).trans e4))
 have HB3:=Lib.hid (((HC1.out.drew).of_below hB2).of_below hB3)
 have hsz3:W0.heap.size<=w2.heap.size:=Nat.le_trans HC1.out.size hB2.size
 have HROW:=Lib.hid hrow3
 clear hB2 hB3 hrow hrow3 e1 e3 e4 d1 d3 d4
 have hr3:w3.heap[w.heap.size]?=some (.cells #[.bool false,.int .i64 0,.int .i64 0,.slice none 0 0] 48 (0,0)):=(HB3.out.block _ (lt_of_heap HR.out) (fun x=>x)).trans HR.out
 have r0:w3.cell? ⟨w.heap.size,0,none⟩=some (.bool false):=cell_of hr3 rfl
 have r1:w3.cell? ⟨w.heap.size,1,none⟩=some (.int .i64 0):=cell_of hr3 rfl
 have r2:w3.cell? ⟨w.heap.size,2,none⟩=some (.int .i64 0):=cell_of hr3 rfl
 have r3:w3.cell? ⟨w.heap.size,3,none⟩=some (.slice none 0 0):=cell_of hr3 rfl
 have rf:∀ i,w3.frozen? ⟨w.heap.size,i,none⟩=false:=fun i=>free_of hr3
 have HR3:=Lib.hid hr3
 clear hr3
 go_wp2_with fail
 obtain⟨e5,hc5⟩:=cmd_set (W:=w3) (.bool false) (.int .i64 0) (.int .i64 0) (.slice none 0 0) HR3.out
 obtain⟨W5,hW5⟩:∃ W5,((((w3.setCell ⟨w.heap.size,0,none⟩ (.bool false)).setCell ⟨w.heap.size,1,none⟩ (.int .i64 0)).setCell ⟨w.heap.size,2,none⟩ (.int .i64 0)).setCell ⟨w.heap.size,3,none⟩ (.slice none 0 0))=W5:=⟨_,rfl⟩
 rw[hW5]at e5 hc5 ⊢
 have z0:W5.cell? ⟨w.heap.size,0,none⟩=some (.bool false):=cell_of e5 rfl
 have z1:W5.cell? ⟨w.heap.size,1,none⟩=some (.int .i64 0):=cell_of e5 rfl
 have z2:W5.cell? ⟨w.heap.size,2,none⟩=some (.int .i64 0):=cell_of e5 rfl
 have z3:W5.cell? ⟨w.heap.size,3,none⟩=some (.slice none 0 0):=cell_of e5 rfl
 (try simp only[Exit.inBlock,Exit.then])
 refine bodyPost_ret (v:=.tuple #[noCmd,.bool false]) (by simp[results,Tryz.results18,go_sem,z0,z1,z2,z3]) rfl ⟨rfl,?_⟩
 have hc:=HB.out
 have hc3:=HB3.out
 have hz:=hc.size
 have hz3:=hc3.size
 exact⟨hc5.os.trans (hc3.os.trans hc.os),hc5.tape.trans (hc3.tape.trans hc.tape),hc5.output.trans (hc3.output.trans hc.output),Nat.le_trans hz (Nat.le_trans hz3 hc5.size),fun k hk=>(hc5.block k (by omega) (by omega)).trans ((hc3.block k (by omega) (fun x=>x)).trans (hc.block k hk))⟩
theorem sendE_succ(es:List Ent)(ns:List Int)(n:Int):sendE es (ns ++ [n])=updE (sendE es ns) n sentR:=by
 unfold sendE updE
 rw[List.map_map]
 refine List.map_congr_left fun e _=>?_
 simp only[Function.comp]
 by_cases h1:e.r.num∈ns
 ·simp only[List.mem_append,h1,true_or,if_true]
  by_cases h2:e.r.num=n <;> simp[sentR,h2]
 ·by_cases h2:e.r.num=n
  ·simp[h2,sentR]
   subst h2
   simp[h1]
  ·simp[h1,h2]
theorem sendE_mem{es:List Ent}{e:Ent}(he:e∈es)(ns:List Int):∃ r,(⟨r,e.p,e.born⟩:Ent)∈sendE es ns/\r.num=e.r.num:=by
 by_cases h:e.r.num∈ns
 ·exact⟨sentR e.r,List.mem_map.2 ⟨e,he,by simp[h]⟩,rfl⟩
 ·exact⟨e.r,List.mem_map.2 ⟨e,he,by simp[h]⟩,rfl⟩
structure SendB(w3 wr:World)(tb mb clock:Nat)(s:Sta)(wt:Bool)(p n:Nat)(l:List Ent)(j:Nat)(cv:Value):Prop where
 blk:wr.heap[w3.heap.size]?=some (.cells #[.bool wt,.int .i64 p,.int .i64 n,cv] 48 (0,0))
 row:wr.ownsRow (w3.heap.size+1) 3 1 cv j ((l.take j).map fun e=>Value.int .i64 e.r.num)
 tab:TabB wr tb mb clock s.last s.held (sendE s.es ((l.take j).map (·.r.num)))
 chg:Chg (fun k=>∃ e∈s.es,k=e.p) w3 wr
theorem sent_req{wr:World}{p:Nat}{r:Req}(h:ReqB wr p r):ReqB ((wr.setCell ⟨p,7,none⟩ (.int .i64 1)).setCell ⟨p,11,none⟩ (.bool true)) p (sentR r):=
 heap_setCell (i:=11) _ (heap_setCell (i:=7) _ h)
theorem SendB.sent{w3 wr:World}{tb mb clock:Nat}{s:Sta}{wt:Bool}{p n:Nat}{l:List Ent}{j:Nat}{cv:Value}(h:SendB w3 wr tb mb clock s wt p n l j cv)(hj:j<l.length){e:Ent}(he:l[j]=e)(hm:e∈s.es)(hlt:∀ x∈s.es,x.p<w3.heap.size){W':World}
  (hW':(wr.setCell ⟨e.p,7,none⟩ (.int .i64 1)).setCell ⟨e.p,11,none⟩ (.bool true)=W'):
  W'.heap[w3.heap.size]?=some (.cells #[.bool wt,.int .i64 p,.int .i64 n,cv] 48 (0,0))/\W'.ownsRow (w3.heap.size+1) 3 1 cv j ((l.take j).map fun e=>Value.int .i64 e.r.num)/\
  TabB W' tb mb clock s.last s.held (sendE s.es ((l.take (j+1)).map (·.r.num)))/\Chg (fun k=>∃ e∈s.es,k=e.p) w3 W'/\W'.heap.size=wr.heap.size/\W'.cell? ⟨e.p,0,none⟩=some (.int .i64 e.r.num):=by
 obtain⟨r,hr,hrn⟩:=sendE_mem hm ((l.take j).map (·.r.num))
 have hR:=h.tab.reqs _ hr
 have hep:=hlt e hm
 have hc:Chg (fun k=>k=e.p) wr W':=by rw[<-hW'];exact (chg_set _).then (chg_set _)
 have hs:=sent_req hR
 rw[show (⟨r,e.p,e.born⟩:Ent).p=e.p from rfl,hW']at hs
 refine⟨(hc.block _ (lt_of_heap h.blk) (by omega)).trans h.blk,ownsRow_chg h.row hc fun k hk=>?_,?_,h.chg.then (hc.mono fun k _ hk=>⟨e,hm,hk⟩),by rw[<-hW'];simp[World.setCell],?_⟩
 ·have:=(h.row.lt k hk).1
  omega
 ·have:=h.tab.upd hr sentR (fun r=>⟨rfl,rfl⟩) hs hc
  rw[List.take_succ_eq_append_getElem hj,List.map_append,List.map_cons,List.map_nil,sendE_succ,he,<-hrn]
  exact this
 ·rw[<-hrn];exact (ReqB.at hs).c0
theorem SendB.next{w3 wr:World}{tb mb clock:Nat}{s:Sta}{wt:Bool}{p n:Nat}{l:List Ent}{j:Nat}{cv:Value}(h:SendB w3 wr tb mb clock s wt p n l j cv)(hj:j<l.length){e:Ent}(he:l[j]=e)(hm:e∈s.es)(hlt:∀ x∈s.es,x.p<w3.heap.size)(htb:tb<w3.heap.size)(hmb:mb<w3.heap.size){W' W w1:World}
  (hW':(wr.setCell ⟨e.p,7,none⟩ (.int .i64 1)).setCell ⟨e.p,11,none⟩ (.bool true)=W') (hW:Below W'.heap.size W' W) {gg cap:Nat}
  (hown:w1.ownsRow (w3.heap.size+1) 3 1 (.slice (some ⟨gg,0,none⟩) (j+1) cap) (j+1) (((l.take j).map fun e=>Value.int .i64 e.r.num) ++ [.int .i64 e.r.num])) (hgrow:W.grownBy w1 cv.ownBlock) (_hat:cv.ownBlock=some gg\/gg=W'.heap.size+1):
  SendB w3 (w1.setCell ⟨w3.heap.size,3,none⟩ (.slice (some ⟨gg,0,none⟩) (j+1) cap)) tb mb clock s wt p n l (j+1) (.slice (some ⟨gg,0,none⟩) (j+1) cap):=by
 obtain⟨hb,hrow,htab,hchg,hsz,_⟩:=h.sent hj he hm hlt hW'
 have hblt:=lt_of_heap hb
 have hcv:∀ k,cv.ownBlock=some k->w3.heap.size+1<=k:=fun k hk=>(hrow.lt k hk).1
 have hc1:Chg (fun k=>w3.heap.size<=k) W' w1:=(chgB hW _).grown hgrow fun k hk=>.inl (by have:=hcv k hk;omega)
 have hc2:Chg (fun k=>w3.heap.size<=k) W' (w1.setCell ⟨w3.heap.size,3,none⟩ (.slice (some ⟨gg,0,none⟩) (j+1) cap)):=hc1.setCell (p:=⟨w3.heap.size,3,none⟩) (.inl (Nat.le_refl _)) _
 have hgg:gg≠w3.heap.size:=fun e=>by
  have:=(hown.lt gg rfl).1
  omega
 refine⟨?_,?_,?_,?_⟩
 ·have h1:w1.heap[w3.heap.size]?=some (.cells #[.bool wt,.int .i64 p,.int .i64 n,cv] 48 (0,0)):=by
   refine (hgrow.block _ (Nat.lt_of_lt_of_le hblt hW.size) fun e=>?_).trans ((hW.block _ hblt).trans hb)
   have:=hcv _ e.symm
   omega
  exact heap_setCell (i:=3) _ h1
 ·rw[List.take_succ_eq_append_getElem hj,List.map_append,List.map_cons,List.map_nil,he]
  exact ownsRow_chg hown (chg_set _) fun k hk hh=>by cases hk;exact hgg hh
 ·refine htab.kept hc2 (by omega) (by omega) fun x hx=>?_
  obtain⟨y,hy,hyx⟩:=List.mem_map.1 hx
  have:x.p=y.p:=by rw[<-hyx];split <;> rfl
  have:=hlt y hy
  omega
 ·exact hchg.trans (hc2.mono fun k _ hk=>.inr hk)
theorem step_world{w3 W4 W w1:World}{q tb mb clock:Nat}{fv:Value}{s:Sta}{wt:Bool}{p n N gg cap:Nat}{l:List Ent}{cv:Value}(hQ:QB w3 q tb mb clock fv s)(hS:SendB w3 W4 tb mb clock s wt p n l N cv)(hN:l.length=N)
  (hW:Below W4.heap.size W4 W) (hown:w1.ownsRow 0 48 4 (.slice (some ⟨gg,0,none⟩) (s.cs.length+1) cap) (s.cs.length+1) (s.cs.flatMap cmdCells ++ [.bool wt,.int .i64 p,.int .i64 n,cv])) (hgrow:W.grownBy w1 fv.ownBlock) (hat:fv.ownBlock=some gg\/gg=W4.heap.size+1):
  QB ((w1.setCell ⟨q,2,none⟩ (.slice (some ⟨gg,0,none⟩) (s.cs.length+1) cap)).setCell ⟨q,4,none⟩ (.int .i64 ((p:Int)+(n:Int)))) q tb mb clock (.slice (some ⟨gg,0,none⟩) (s.cs.length+1) cap) (stepS s ⟨wt,p,n,l.map (·.r.num)⟩ cv)/\
  Chg (fun k=>k=q\/fv.ownBlock=some k) W4 ((w1.setCell ⟨q,2,none⟩ (.slice (some ⟨gg,0,none⟩) (s.cs.length+1) cap)).setCell ⟨q,4,none⟩ (.int .i64 ((p:Int)+(n:Int))))/\
  (∀ k,QFoot q tb mb (.slice (some ⟨gg,0,none⟩) (s.cs.length+1) cap) (stepS s ⟨wt,p,n,l.map (·.r.num)⟩ cv) k->QFoot q tb mb fv s k\/w3.heap.size<=k):=by
 have hcw1:Chg (fun k=>k=q\/fv.ownBlock=some k) W4 w1:=(chgB hW _).grown hgrow fun k hk=>.inl (.inr hk)
 have hcc:Chg (fun k=>k=q\/fv.ownBlock=some k) W4 ((w1.setCell ⟨q,2,none⟩ (.slice (some ⟨gg,0,none⟩) (s.cs.length+1) cap)).setCell ⟨q,4,none⟩ (.int .i64 ((p:Int)+(n:Int)))):=
  (hcw1.setCell (p:=⟨q,2,none⟩) (.inl (.inl rfl)) _).setCell (p:=⟨q,4,none⟩) (.inl (.inl rfl)) _
 have hqlt:q<w3.heap.size:=lt_of_heap hQ.que
 have hqW4:W4.heap[q]?=some (.cells (qCells tb fv s) 89 (0,0)):=(hS.chg.block q hqlt fun ⟨x,hx,e⟩=>hQ.ne_qp hx e).trans hQ.que
 have hqw1:w1.heap[q]?=some (.cells (qCells tb fv s) 89 (0,0)):=
  (hgrow.block q (Nat.lt_of_lt_of_le (lt_of_heap hqW4) hW.size) fun e=>hQ.ne_qf e.symm rfl).trans ((hW.block q (lt_of_heap hqW4)).trans hqW4)
 have hnq:∀ k,k=q\/fv.ownBlock=some k->k<w3.heap.size:=fun k hk=>hk.elim (fun e=>e ▸ hqlt) fun e=>by
  obtain⟨cur,hc⟩:=own_heap hQ.fl e
  exact lt_of_heap hc
 have hgq:gg≠q:=by
  rcases hat with h | h
  ·exact (hQ.ne_qf h).symm
  ·have:=hS.chg.size;omega
 have htake:l.take N=l:=by rw[<-hN,List.take_length]
 refine⟨⟨?_,?_,?_,?_,hQ.disk⟩,hcc,?_⟩
 ·exact heap_setCell (i:=4) _ (heap_setCell (i:=2) _ hqw1)
 ·have ht:=hS.tab
  rw[htake]at ht
  refine ht.kept hcc ?_ ?_ fun x hx=>?_
  ·exact fun hk=>hk.elim hQ.ne_qt.symm fun e=>by
    obtain⟨cur,hc⟩:=own_heap hQ.fl e
    exact ne_of_heap hc hQ.tab.tab (by simp) rfl
  ·exact fun hk=>hk.elim hQ.ne_qm.symm fun e=>by
    obtain⟨cur,hc⟩:=own_heap hQ.fl e
    exact ne_of_heap hc hQ.tab.map (by simp) rfl
  ·obtain⟨y,hy,hyx⟩:=List.mem_map.1 hx
   have hxy:x.p=y.p:=by rw[<-hyx];split <;> rfl
   rw[hxy]
   exact fun hk=>hk.elim (hQ.ne_qp hy).symm fun e=>by
    obtain⟨cur,hc⟩:=own_heap hQ.fl e
    exact ne_of_heap hc (hQ.tab.reqs y hy) (by simp) rfl
 ·have h1:(stepS s ⟨wt,p,n,l.map (·.r.num)⟩ cv).cs.flatMap cmdCells=s.cs.flatMap cmdCells ++ [.bool wt,.int .i64 p,.int .i64 n,cv]:=by
   simp[stepS,cmdCells,List.flatMap_append]
  have h2:(stepS s ⟨wt,p,n,l.map (·.r.num)⟩ cv).cs.length=s.cs.length+1:=by simp[stepS]
  rw[h1,h2]
  exact ownsRow_chg (ownsRow_chg hown (chg_set _) fun k hk e=>by cases hk;exact hgq e) (chg_set _) fun k hk e=>by cases hk;exact hgq e
 ·intro c hc
  rcases List.mem_append.1 hc with hc | hc
  ·refine ownsRow_chg (ownsRow_chg (hQ.rows c hc) hS.chg fun k hk ⟨x,hx,e⟩=>?_) hcc fun k hk hh=>?_
   ·obtain⟨cur,hcur⟩:=own_heap (hQ.rows c hc) hk
    exact ne_of_heap hcur (hQ.tab.reqs x hx) (by simp) e
   ·rcases hh with e | e
    ·exact hQ.ne_qr hc hk e.symm
    ·obtain⟨cur,hcur⟩:=own_heap (hQ.rows c hc) hk
     obtain⟨cur2,hcur2⟩:=own_heap hQ.fl e
     exact ne_of_heap hcur hcur2 (by simp) rfl
  ·rw[List.mem_singleton.1 hc]
   have hr:=hS.row
   rw[htake]at hr
   have hr2:W4.ownsRow 0 3 1 cv (l.map (·.r.num)).length ((l.map (·.r.num)).map fun n=>Value.int .i64 n):=by
    rw[List.map_map,List.length_map,hN]
    exact ownsRow_low hr (Nat.zero_le _)
   refine ownsRow_chg hr2 hcc fun k hk hh=>?_
   have:=(hS.row.lt k hk).1
   have:=hnq k hh
   omega
 ·intro k hk
  rcases hk with h | h | h | h |⟨e,he,h⟩ |⟨c,hc,h⟩
  ·exact .inl (.inl h)
  ·exact .inl (.inr (.inl h))
  ·exact .inl (.inr (.inr (.inl h)))
  ·cases h
   rcases hat with h | h
   ·exact .inl (.inr (.inr (.inr (.inl h))))
   ·exact .inr (by have:=hS.chg.size;show w3.heap.size<=gg;omega)
  ·obtain⟨y,hy,hyx⟩:=List.mem_map.1 he
   have hxy:e.p=y.p:=by rw[<-hyx];split <;> rfl
   exact .inl (.inr (.inr (.inr (.inr (.inl ⟨y,hy,h.trans hxy⟩)))))
  ·rcases List.mem_append.1 hc with hc | hc
   ·exact .inl (.inr (.inr (.inr (.inr (.inr ⟨c,hc,h⟩)))))
   ·rw[List.mem_singleton.1 hc]at h
    have:=(hS.row.lt k h).1
    exact .inr (by omega)
theorem Tryz.infoC:(Tryx.prog.info? 48).map (fun i=>(i.zero,i.size,i.bytes))=some (some (.agg #[.bool false,.int .i64 0,.int .i64 0,.slice none 0 0]),4,48):=by kernel_rfl
theorem Tryz.infoI:(Tryx.prog.info? 3).map (fun i=>(i.zero,i.size,i.bytes))=some (some (.int .i64 0),1,8):=by kernel_rfl
theorem step_some(q:Nat)(s:Sta)(F:Nat->Prop)(w:World)(h:QAt w q s F)(hd:s.cs.length<s.depth)(hh:s.head<=16)(p n:Nat)(f:Ent)(t:List Ent)(hE:nextE (readyE s.now s.es) s.head=(p,n,f :: t))(hn1:1<=n)(hn2:p+n<=16)(hin:∀ e∈f :: t,e∈s.es)(hl4:(f :: t).length<=1000000)(hd4:s.depth<=4):
  Calls Tryx.prog 18 #[ptr q] w fun x w'=>∃ v v' F',x=.returned (.tuple #[.agg #[.bool f.r.write,.int .i64 p,.int .i64 n,v'],.bool true])/\QAt w' q (stepS s ⟨f.r.write,p,n,(f :: t).map (·.r.num)⟩ v) F'/\(∀ k,F' k->F k\/w.heap.size<=k)/\(∀ k,v'.ownBlock=some k->¬F' k)/\Chg F w w'/\w'.ownsRow w.heap.size 3 1 v' (f :: t).length (((f :: t).map (·.r.num)).map fun n=>Value.int .i64 n):=by
 obtain⟨tb,mb,clock,fv,hq,hF⟩:=h
 obtain⟨W0,hW0⟩:∃ W0,w.alloc (.cells #[.bool false,.int .i64 0,.int .i64 0,.slice none 0 0] 48)=W0:=⟨_,rfl⟩
 have hB0:Below w.heap.size w W0:=by rw[<-hW0];exact (Below.refl _ _).alloc (Nat.le_refl _) _
 have hr0:W0.heap[w.heap.size]?=some (.cells #[.bool false,.int .i64 0,.int .i64 0,.slice none 0 0] 48 (0,0)):=by rw[<-hW0];exact World.alloc_heap_new w _
 have HQ0:=Lib.hid hq
 have HF:=Lib.hid hF
 have hq:=hq.kept (chgB hB0 fun _=>False) fun _ _ x=>x
 have c0:=hq.c0
 have c1:=hq.c1
 have c2:=hq.c2
 have c3:=hq.c3
 have c4:=hq.c4
 obtain⟨fa,fc,rfl⟩:=own_slice hq.fl
 have hdd:decide ((s.cs.length:Int)>=(s.depth:Int))=false:=by simp;omega
 obtain⟨L,hL⟩:∃ L,readyE s.now s.es=L:=⟨_,rfl⟩
 have hLm:∀ e∈L,e∈s.es:=fun e he=>readyE_mem hq.tab.ok (now:=s.now) (hL ▸ he)
 have hLl:L.length<=1000000:=hL ▸ Nat.le_trans (readyE_len hq.tab.ok) hq.tab.len
 rw[hL]at hE
 have hqlt:=lt_of_heap hq.que
 have HQ:=Lib.hid hq
 have HB:=Lib.hid hB0
 have HR:=Lib.hid hr0
 have HL:=Lib.hid hL
 have HM:=Lib.hid hLm
 clear hq hF hB0 hr0 hL hLm
 go_enter Tryx.func18,Tryz.ntmps18
 go_wp2_with fail
 go_quiet (fail)
 go_wp2_with fail
 obtain⟨W1,hW1⟩:∃ W1,W0.drewN nq=W1:=⟨_,rfl⟩
 have hc1:Chg (fun _=>False) W0 W1:=by rw[<-hW1];exact (Chg.refl _ _).drewN _
 have d1:W1.cell? ⟨q,1,none⟩=some (ptr tb):=(hc1.cell (p:=⟨q,1,none⟩) hqlt (fun x=>x)).trans c1
 have d3:W1.cell? ⟨q,3,none⟩=some (.int .i64 s.now):=(hc1.cell (p:=⟨q,3,none⟩) hqlt (fun x=>x)).trans c3
 have d4:W1.cell? ⟨q,4,none⟩=some (.int .i64 s.head):=(hc1.cell (p:=⟨q,4,none⟩) hqlt (fun x=>x)).trans c4
 have hqlt1:q<W1.heap.size:=Nat.lt_of_lt_of_le hqlt hc1.size
 have HC1:=Lib.hid hc1
 rw[hW1]
 clear hW1 c0 c1 c2 c3 c4 hc1
 go_region_held3 (fun w'=>w'.cell? ⟨q,1,none⟩=some (ptr tb)/\w'.cell? ⟨q,3,none⟩=some (.int .i64 s.now)/\w'.cell? ⟨q,4,none⟩=some (.int .i64 s.head))
  (go_keep)
  (first
    | (go_at_call 38;refine (ready_any tb mb clock s.last s.held s.now s.es _ ?_).mono ?_;exact HQ.out.tab.kept (HC1.out.drew) (fun x=>x) (fun x=>x) (fun _ _ x=>x);rintro e w2 ⟨v,rfl,hrow,hB2⟩
       have hqlt2:q<w2.heap.size:=Nat.lt_of_lt_of_le hqlt1 hB2.size
       have e1:w2.cell? ⟨q,1,none⟩=some (ptr tb):=(hB2.cell hqlt1).trans d1
       have e3:w2.cell? ⟨q,3,none⟩=some (.int .i64 s.now):=(hB2.cell hqlt1).trans d3
       have e4:w2.cell? ⟨q,4,none⟩=some (.int .i64 s.head):=(hB2.cell hqlt1).trans d4)
    | (go_at_call 37;refine (next_any _ _ s.head L _ (HL.out ▸ hrow) hLl ?_ ?_ hh).mono ?_
       ·exact fun e he=>(hB2.block e.p (Nat.lt_of_lt_of_le (lt_of_heap (HQ.out.tab.reqs e (HM.out e he))) HC1.out.size)).trans ((HC1.out.block e.p (lt_of_heap (HQ.out.tab.reqs e (HM.out e he))) (fun x=>x)).trans (HQ.out.tab.reqs e (HM.out e he)))
       ·exact fun e he=>HQ.out.tab.ok.page e (HM.out e he)
       rintro e w3 ⟨v3,rfl,hrow3,hB3⟩
       rw[hE]at hrow3 ⊢;dsimp only at hrow3 ⊢
       have e1':w3.cell? ⟨q,1,none⟩=some (ptr tb):=(hB3.cell hqlt2).trans e1
       have e3':w3.cell? ⟨q,3,none⟩=some (.int .i64 s.now):=(hB3.cell hqlt2).trans e3
       have e4':w3.cell? ⟨q,4,none⟩=some (.int .i64 s.head):=(hB3.cell hqlt2).trans e4))
 have HB3:=Lib.hid (((HC1.out.drew).of_below hB2).of_below hB3)
 have hsz3:W0.heap.size<=w2.heap.size:=Nat.le_trans HC1.out.size hB2.size
 have HROW:=Lib.hid hrow3
 clear hB2 hB3 hrow hrow3 e1 e3 e4 d1 d3 d4
 have hr3:w3.heap[w.heap.size]?=some (.cells #[.bool false,.int .i64 0,.int .i64 0,.slice none 0 0] 48 (0,0)):=(HB3.out.block _ (lt_of_heap HR.out) (fun x=>x)).trans HR.out
 have r0:w3.cell? ⟨w.heap.size,0,none⟩=some (.bool false):=cell_of hr3 rfl
 have r1:w3.cell? ⟨w.heap.size,1,none⟩=some (.int .i64 0):=cell_of hr3 rfl
 have r2:w3.cell? ⟨w.heap.size,2,none⟩=some (.int .i64 0):=cell_of hr3 rfl
 have r3:w3.cell? ⟨w.heap.size,3,none⟩=some (.slice none 0 0):=cell_of hr3 rfl
 have rf:∀ i,w3.frozen? ⟨w.heap.size,i,none⟩=false:=fun i=>free_of hr3
 have HR3:=Lib.hid hr3
 clear hr3
 have hnb:((n:Int) == 0)=false:=by simp;omega
 obtain⟨g1,cap1,cur1,rfl,hg1,hg2,hg3,hg4,hg5,hg6⟩:∃ g cap cur,v3=.slice (some ⟨g,0,none⟩) (f :: t).length cap/\w2.heap.size<=g/\w3.heap[g]?=some (.cells cur 97 (0,0))/\(f :: t).length<=cap/\cap<=maxLen/\cur.size=cap*1/\cur.toList.take ((f :: t).length*1)=(f :: t).map fun e=>ptr e.p:=by
  rcases HROW.out.2 with ⟨_,h0⟩ | h1
  ·simp at h0
  ·exact h1
 have hcell:∀ j (hj:j<(f :: t).length),w3.cell? ⟨g1,j,none⟩=some (ptr ((f :: t)[j]'hj).p):=fun j hj=>row_cell (B:=g1+1) (wr:=w3) hg2 hg6 (Below.refl _ _) (by omega) j hj
 obtain⟨N,hN⟩:∃ N,(f :: t).length=N:=⟨_,rfl⟩
 have hN0:(0:Int)<(N:Int):=by rw[<-hN];simp
 have hf0:=hcell 0 (by simp)
 simp only[List.getElem_cons_zero]at hf0
 have hfw:w3.cell? ⟨f.p,1,none⟩=some (.bool f.r.write):=by
  have:=(HB3.out.block f.p (lt_of_heap (HQ.out.tab.reqs f (hin f (by simp)))) (fun x=>x)).trans (HQ.out.tab.reqs f (hin f (by simp)))
  exact (ReqB.at this).c1
 have HC:=Lib.hid hcell
 have HG:=Lib.hid hg2
 have HG1:=Lib.hid hg1
 have HIN:=Lib.hid hin
 rw[hN]
 have HN:=Lib.hid hN
 clear hcell hg1 hg2 hg6 hin hN
 go_wp2_with fail
 obtain⟨i0,hi,hz0,hz1,hz2⟩:=info_parts Tryz.infoI
 obtain⟨l,hl⟩:∃ l,f :: t=l:=⟨_,rfl⟩
 have hNl:l.length=N:=by rw[<-hl];exact HN.out
 have HNl:=Lib.hid hNl
 have hlt3:∀ x∈s.es,x.p<w3.heap.size:=fun x hx=>Nat.lt_of_lt_of_le (lt_of_heap (HQ.out.tab.reqs x hx)) HB3.out.size
 have htb3:tb<w3.heap.size:=Nat.lt_of_lt_of_le (lt_of_heap HQ.out.tab.tab) HB3.out.size
 have hmb3:mb<w3.heap.size:=Nat.lt_of_lt_of_le (lt_of_heap HQ.out.tab.map) HB3.out.size
 have HLT:=Lib.hid hlt3
 have HLE:=Lib.hid hl
 have HC2:Hid (∀ j (hj:j<l.length),w3.cell? ⟨g1,j,none⟩=some (ptr (l[j]'hj).p)):=Lib.hid (hl ▸ HC.out)
 have HIN2:Hid (∀ e∈l,e∈s.es):=Lib.hid (hl ▸ HIN.out)
 have hg1lt:g1<w3.heap.size:=lt_of_heap HG.out
 have hg1ge:∀ x∈s.es,x.p<g1:=fun x hx=>Nat.lt_of_lt_of_le (lt_of_heap (HQ.out.tab.reqs x hx)) (Nat.le_trans hsz3 HG1.out)
 have HG2:=Lib.hid hg1ge
 have HTM:=Lib.hid (And.intro htb3 hmb3)
 clear hlt3 hl hg1ge htb3 hmb3
 go_loopg [53] N (fun k i wr=>∃ (j:Nat) (cv:Value),k=N - j/\j<=N/\i=.int .i64 j/\SendB w3 wr tb mb clock s f.r.write p n l j cv)
 case atStart=>exact ⟨0,.slice none 0 0,by simp,Nat.zero_le _,rfl,World.alloc_heap_new w3 _,World.ownsRow_nil _ _ _ _,by
  have h1:sendE s.es ((l.take 0).map (·.r.num))=s.es:=by simp[sendE]
  rw[h1]
  exact (HQ.out.tab.kept HB3.out (fun x=>x) (fun x=>x) (fun _ _ x=>x)).below ((Below.refl _ _).alloc (Nat.le_refl _) _),(Chg.refl _ _).alloc _⟩
 case round=>
  obtain⟨j,cv,rfl,hj,rfl,hS⟩:=hrel
  by_cases hlt:j<N
  ·have hjl:j<l.length:=by omega
   obtain⟨e,he⟩:∃ e,l[j]=e:=⟨_,rfl⟩
   have hm:e∈s.es:=HIN2.out e (by rw[<-he];exact List.getElem_mem hjl)
   have hcg:wr.cell? ⟨g1,j,none⟩=some (ptr e.p):=by
    rw[<-he]
    exact (hS.chg.cell (p:=⟨g1,j,none⟩) hg1lt (fun ⟨x,hx,hxe⟩=>by have:=HG2.out x hx;simp at hxe;omega)).trans (HC2.out j hjl)
   obtain⟨r,hr,hrn⟩:=sendE_mem hm ((l.take j).map (·.r.num))
   have hR:=hS.tab.reqs _ hr
   have a7:wr.cell? ⟨e.p,7,none⟩=some (.int .i64 r.state):=hR.at.c7
   have a11:wr.cell? ⟨e.p,11,none⟩=some (.bool r.inAir):=hR.at.c11
   have f7:wr.frozen? ⟨e.p,7,none⟩=false:=free_of hR
   have f11:wr.frozen? ⟨e.p,11,none⟩=false:=free_of hR
   obtain⟨W',hW'⟩:∃ W',(wr.setCell ⟨e.p,7,none⟩ (.int .i64 1)).setCell ⟨e.p,11,none⟩ (.bool true)=W':=⟨_,rfl⟩
   obtain⟨hb,hrow,htab,hchg,hsz,hc0⟩:=hS.sent hjl he hm HLT.out hW'
   have hltI:(j:Int)<(N:Int):=by omega
   have HS:=Lib.hid hS
   have HE:=Lib.hid he
   have hep:=HLT.out e hm
   have HMM:=Lib.hid hm
   have HWW:=Lib.hid hW'
   clear hS he hr hR htab hchg hm
   go_wp2_with fail
   have hbl:W'.cell? ⟨w3.heap.size,3,none⟩=some cv:=cell_of hb rfl
   have hbf:W'.frozen? ⟨w3.heap.size,3,none⟩=false:=free_of hb
   have hblt:=lt_of_heap hb
   have hwlt:=Nat.lt_of_lt_of_le hep (Nat.le_of_lt hblt)
   obtain⟨xs,hxs⟩:∃ xs,((l.take j).map fun e=>Value.int .i64 e.r.num)=xs:=⟨_,rfl⟩
   rw[hxs]at hrow
   have HX:=Lib.hid hxs
   have ab:cv.ownBlock≠some w3.heap.size:=fun h=>by have:=(hrow.lt _ h).1;omega
   have n1:=World.new_ne W' _ hbl
   have hN4:N<=1000000:=by rw[<-HN.out];exact hl4
   clear hW' hxs hb hsz
   go_region_law
    ((refine step_append_lies _ (by rfl) _ _ _ (by rfl) (w3.heap.size+1) 3 i0 _ 1 8 Tryx.underlying24 hi hz0 hz1 hz2 rfl (by omega) cv j xs (by rfl) ((hrow.alloc _).drew)
       ⟨W'.heap.size,0,none⟩ 1 1 [.int .i64 e.r.num] (by rfl) (by rfl) (World.news_of_block (cs:=#[.int .i64 e.r.num]) (t:=3) (fr:=(0,0)) (heap_alloc_new W' _)) (by simp[Value.oneCell'])
       (by omega) (by unfold maxLen;omega) (by omega) (by simp;omega) (W'.heap.size+1) (by simp) ?_;intro gg cap2 w1 hown1 hgrow hat hltg
      have z2:=hgrow.cell (a:=⟨w3.heap.size,3,none⟩) (v:=cv) (by go_keep) (fun h=>ab h.symm)
      have z3:=grown_free hgrow (a:=⟨w3.heap.size,3,none⟩) (v:=cv) (by go_keep) (by simp[*,frozen?_alloc_cells]) (fun h=>ab h.symm)))
   all_goals try go_wp2_with fail
   all_goals go_roundg (N - (j+1))
   all_goals first
    | (show N - (j+1)<N - j;omega)
    | exact⟨j+1,_,rfl,by omega,by go_num,HS.out.next hjl HE.out HMM.out HLT.out HTM.out.1 HTM.out.2 HWW.out (by go_grown) (HX.out ▸ hown1) hgrow hat⟩
  ·have hjN:j=N:=by omega
   subst hjN
   obtain⟨W4,rfl⟩:∃ x,x=wr:=⟨_,rfl⟩
   have hbq:W4.heap[q]?=w3.heap[q]?:=hS.chg.block q (Nat.lt_of_lt_of_le hqlt HB3.out.size) fun ⟨x,hx,e⟩=>HQ.out.ne_qp hx e
   have hq4:W4.heap[q]?=some (.cells (qCells tb (.slice fa s.cs.length fc) s) 89 (0,0)):=hbq.trans ((HB3.out.block q hqlt (fun x=>x)).trans HQ.out.que)
   have hfl4:W4.ownsRow 0 48 4 (.slice fa s.cs.length fc) s.cs.length (s.cs.flatMap cmdCells):=by
    refine ownsRow_chg (ownsRow_chg HQ.out.fl HB3.out fun _ _ x=>x) hS.chg fun k hk ⟨x,hx,e⟩=>?_
    obtain⟨cur,hcur⟩:=own_heap HQ.out.fl hk
    exact ne_of_heap hcur (HQ.out.tab.reqs x hx) (by simp) e
   have k2:W4.cell? ⟨q,2,none⟩=some (.slice fa s.cs.length fc):=cell_of hq4 rfl
   have k4:W4.cell? ⟨q,4,none⟩=some (.int .i64 s.head):=cell_of hq4 rfl
   have kf:∀ i,W4.frozen? ⟨q,i,none⟩=false:=fun i=>free_of hq4
   have b0:W4.cell? ⟨w3.heap.size,0,none⟩=some (.bool f.r.write):=cell_of hS.blk rfl
   have b1:W4.cell? ⟨w3.heap.size,1,none⟩=some (.int .i64 p):=cell_of hS.blk rfl
   have b2:W4.cell? ⟨w3.heap.size,2,none⟩=some (.int .i64 n):=cell_of hS.blk rfl
   have b3:W4.cell? ⟨w3.heap.size,3,none⟩=some cv:=cell_of hS.blk rfl
   obtain⟨ca,cc,rfl⟩:=own_slice hS.row
   have HS:=Lib.hid hS
   have HQ4:=Lib.hid hq4
   have HF4:=Lib.hid hfl4
   clear hS hq4 hfl4 hbq
   go_wp2_with fail
   have ag:(Value.slice fa s.cs.length fc).ownBlock≠some q:=fun h=>HQ.out.ne_qf h rfl
   have hblt:w3.heap.size<W4.heap.size:=lt_of_heap HS.out.blk
   have n1:=World.new_ne W4 _ k2
   have n2:=World.new_ne W4 _ k4
   have hqlt4:q<W4.heap.size:=lt_of_heap HQ4.out
   have hcl:s.cs.length<=4:=by omega
   obtain⟨i4,hi4,hz40,hz41,hz42⟩:=info_parts Tryz.infoC
   go_region_law
    ((refine step_append_lies _ (by rfl) _ _ _ (by rfl) 0 48 i4 _ 4 48 Tryx.underlying55 hi4 hz40 hz41 hz42 rfl (by omega) (.slice fa s.cs.length fc) s.cs.length _ (by rfl) ((HF4.out.alloc _).drew)
       ⟨W4.heap.size,0,none⟩ 1 1 [.bool f.r.write,.int .i64 p,.int .i64 n,.slice ca j cc] (by rfl) (by rfl) (World.news_of_block (cs:=#[.bool f.r.write,.int .i64 p,.int .i64 n,.slice ca j cc]) (t:=48) (fr:=(0,0)) (heap_alloc_new W4 _)) (by simp[Value.oneCell'])
       (by omega) (by unfold maxLen;omega) (by omega) (by omega) (W4.heap.size+1) (by simp) ?_;intro gg cap2 w1 hown1 hgrow hat hltg
      have z2:=hgrow.cell (a:=⟨q,2,none⟩) (v:=.slice fa s.cs.length fc) (by go_keep) (fun h=>ag h.symm)
      have z3:=grown_free hgrow (a:=⟨q,2,none⟩) (v:=.slice fa s.cs.length fc) (by go_keep) (by simp[*,frozen?_alloc_cells]) (fun h=>ag h.symm)))
   all_goals
    have hfinal:=step_world (HQ.out.kept HB3.out fun _ _ x=>x) HS.out HNl.out (by go_grown) hown1 hgrow hat
    have hpn:IntKind.i64.wrap ((p:Int)+(n:Int))=(p:Int)+(n:Int):=by rw[IntKind.wrap_i64];omega
    obtain⟨W6,hW6⟩:∃ W6,((w1.setCell ⟨q,2,none⟩ (.slice (some ⟨gg,0,none⟩) (s.cs.length+1) cap2)).setCell ⟨q,4,none⟩ (.int .i64 ((p:Int)+(n:Int))))=W6:=⟨_,rfl⟩
    rw[hW6]at hfinal
    obtain⟨hfq,hfc,hff⟩:=hfinal
    have m4:(w1.setCell ⟨q,2,none⟩ (.slice (some ⟨gg,0,none⟩) (s.cs.length+1) cap2)).cell? ⟨q,4,none⟩=some (.int .i64 s.head):=by
     rw[World.cell?_setCell_other _ _ _ _ (by simp)]
     exact hgrow.cell (by go_keep) (fun h=>ag h.symm)
    have m4f:(w1.setCell ⟨q,2,none⟩ (.slice (some ⟨gg,0,none⟩) (s.cs.length+1) cap2)).frozen? ⟨q,4,none⟩=false:=by
     rw[World.frozen?_setCell]
     exact grown_free hgrow (v:=.int .i64 s.head) (by go_keep) (by simp[*,frozen?_alloc_cells]) (fun h=>ag h.symm)
    have hnb4:∀ k,w3.heap.size<=k->¬(k=q\/(Value.slice fa s.cs.length fc).ownBlock=some k):=fun k hk hh=>by
     rcases hh with e | e
     ·have:=Nat.lt_of_lt_of_le hqlt HB3.out.size;omega
     ·obtain⟨cur,hcur⟩:=own_heap HQ.out.fl e
      have:=Nat.lt_of_lt_of_le (lt_of_heap hcur) HB3.out.size;omega
    have hB6:W6.heap[w3.heap.size]?=some (.cells #[.bool f.r.write,.int .i64 p,.int .i64 n,.slice ca j cc] 48 (0,0)):=(hfc.block _ hblt (hnb4 _ (Nat.le_refl _))).trans HS.out.blk
    have x0:W6.cell? ⟨w3.heap.size,0,none⟩=some (.bool f.r.write):=cell_of hB6 rfl
    have x1:W6.cell? ⟨w3.heap.size,1,none⟩=some (.int .i64 p):=cell_of hB6 rfl
    have x2:W6.cell? ⟨w3.heap.size,2,none⟩=some (.int .i64 n):=cell_of hB6 rfl
    have x3:W6.cell? ⟨w3.heap.size,3,none⟩=some (.slice ca j cc):=cell_of hB6 rfl
    have HFQ:=Lib.hid hfq
    have HFC:=Lib.hid hfc
    have HFF:=Lib.hid hff
    have hr6:W6.heap[w.heap.size]?=some (.cells #[.bool false,.int .i64 0,.int .i64 0,.slice none 0 0] 48 (0,0)):=by
     have hlt3:=lt_of_heap HR3.out
     refine (hfc.block _ (Nat.lt_of_lt_of_le hlt3 HS.out.chg.size) ?_).trans ((HS.out.chg.block _ hlt3 ?_).trans HR3.out)
     ·intro hh
      have:=HQ0.out.foot_lt (k:=w.heap.size) (hh.elim (fun e=>.inl e) fun e=>.inr (.inr (.inr (.inl e))))
      omega
     ·rintro⟨x,hx,e⟩
      have:=HQ0.out.foot_lt (k:=w.heap.size) (.inr (.inr (.inr (.inr (.inl ⟨x,hx,e⟩)))))
      omega
    have HR6:=Lib.hid hr6
    have hsz6:w.heap.size<=W6.heap.size:=Nat.le_of_lt (lt_of_heap hr6)
    clear hfq hfc hff hnb4 hB6 hown1 hgrow hr6
    go_wp2_with fail
    refine (clone_any f.r.write p n (.slice ca j cc) (l.map (·.r.num)) W6 (HFQ.out.rows _ (List.mem_append_right _ (List.mem_singleton.2 rfl))) (by rw[List.length_map,<-HLE.out];exact hl4)).mono ?_
    rintro x w7 ⟨v',rfl,hv',hB7⟩
    have hr7:w7.heap[w.heap.size]?=some (.cells #[.bool false,.int .i64 0,.int .i64 0,.slice none 0 0] 48 (0,0)):=(hB7.block _ (lt_of_heap HR6.out)).trans HR6.out
    have y0:w7.cell? ⟨w.heap.size,0,none⟩=some (.bool false):=cell_of hr7 rfl
    have y1:w7.cell? ⟨w.heap.size,1,none⟩=some (.int .i64 0):=cell_of hr7 rfl
    have y2:w7.cell? ⟨w.heap.size,2,none⟩=some (.int .i64 0):=cell_of hr7 rfl
    have y3:w7.cell? ⟨w.heap.size,3,none⟩=some (.slice none 0 0):=cell_of hr7 rfl
    have yf:∀ i,w7.frozen? ⟨w.heap.size,i,none⟩=false:=fun i=>free_of hr7
    obtain⟨ya,yc,rfl⟩:=own_slice hv'
    have HV:=Lib.hid hv'
    have HB7:=Lib.hid hB7
    have HR7:=Lib.hid hr7
    clear hv' hB7 hr7
    go_wp2_with fail
    obtain⟨e9,hc9⟩:=cmd_set (W:=w7) (.bool f.r.write) (.int .i64 p) (.int .i64 n) (.slice ya (l.map (·.r.num)).length yc) HR7.out
    rw[List.length_map,HNl.out]at e9 hc9
    obtain⟨W9,hW9⟩:∃ W9,((((w7.setCell ⟨w.heap.size,0,none⟩ (.bool f.r.write)).setCell ⟨w.heap.size,1,none⟩ (.int .i64 p)).setCell ⟨w.heap.size,2,none⟩ (.int .i64 n)).setCell ⟨w.heap.size,3,none⟩ (.slice ya j yc))=W9:=⟨_,rfl⟩
    rw[hW9]at e9 hc9
    try simp only[List.length_map,HNl.out]
    try rw[hW9]
    have z0:W9.cell? ⟨w.heap.size,0,none⟩=some (.bool f.r.write):=cell_of e9 rfl
    have z1:W9.cell? ⟨w.heap.size,1,none⟩=some (.int .i64 p):=cell_of e9 rfl
    have z2:W9.cell? ⟨w.heap.size,2,none⟩=some (.int .i64 n):=cell_of e9 rfl
    have z3:W9.cell? ⟨w.heap.size,3,none⟩=some (.slice ya j yc):=cell_of e9 rfl
    have hfoot:∀ k,QFoot q tb mb (.slice (some ⟨gg,0,none⟩) (s.cs.length+1) cap2) (stepS s ⟨f.r.write,p,n,l.map (·.r.num)⟩ (.slice ca j cc)) k->k≠w.heap.size:=fun k hk he=>by
     rcases HFF.out k hk with h1 | h1
     ·have:=HQ0.out.foot_lt h1;omega
     ·have:=lt_of_heap HR3.out;omega
    have hq9:=(HFQ.out.kept (chgB HB7.out fun _=>False) (fun _ _ x=>x)).kept hc9 hfoot
    have hf9:∀ k,QFoot q tb mb (.slice (some ⟨gg,0,none⟩) (s.cs.length+1) cap2) (stepS s ⟨f.r.write,p,n,l.map (·.r.num)⟩ (.slice ca j cc)) k->(F k\/w.heap.size<=k)/\k<W6.heap.size:=fun k hk=>⟨(HFF.out k hk).imp (HF.out k) fun h=>Nat.le_trans HB.out.size (Nat.le_trans HB3.out.size h),HFQ.out.foot_lt hk⟩
    have hcF:Chg F w W9:=by
     have a1:Chg F w w3:=(chgB HB.out F).then (HB3.out.mono fun _ _ h=>h.elim)
     have a2:Chg F w W4:=a1.then (HS.out.chg.mono fun k _ ⟨x,hx,e⟩=>HF.out k (.inr (.inr (.inr (.inr (.inl ⟨x,hx,e⟩))))))
     have a3:Chg F w W6:=a2.then (HFC.out.mono fun k _ hk=>HF.out k (hk.elim (fun e=>.inl e) fun e=>.inr (.inr (.inr (.inl e)))))
     exact (a3.of_below HB7.out).trans (hc9.mono fun k _ hk=>.inr (by omega))
    have hv9:W9.ownsRow w.heap.size 3 1 (.slice ya j yc) (f :: t).length (((f :: t).map (·.r.num)).map fun n=>Value.int .i64 n):=by
     have h1:=HV.out
     rw[List.length_map,HNl.out]at h1
     rw[HLE.out,HNl.out]
     refine ownsRow_chg (ownsRow_low h1 hsz6) hc9 fun k hk hh=>?_
     have:=(h1.lt k hk).1
     have:=lt_of_heap HR6.out
     omega
    have hvb:∀ k,(Value.slice ya j yc).ownBlock=some k->W6.heap.size<=k:=fun k hk=>by
     have h1:=HV.out
     rw[List.length_map,HNl.out]at h1
     exact (h1.lt k hk).1
    refine bodyPost_ret (v:=.tuple #[.agg #[.bool f.r.write,.int .i64 p,.int .i64 n,.slice ya j yc],.bool true]) (by simp[results,Tryz.results18,go_sem,z0,z1,z2,z3]) rfl
     ⟨.slice ca j cc,.slice ya j yc,fun k=>(F k\/w.heap.size<=k)/\k<W6.heap.size,rfl,⟨tb,mb,clock,.slice (some ⟨gg,0,none⟩) (s.cs.length+1) cap2,?_,?_⟩,fun k hk=>hk.1,fun k hk hk2=>by have:=hvb k hk;omega,hcF,hv9⟩
    ·rw[HLE.out]
     exact hq9
    ·rw[HLE.out]
     exact hf9
structure CmdsAt(w:World)(base:Nat)(v:Value)(cs:List (Cmd×Value)):Prop where
 row:w.ownsRow base 48 4 v cs.length (cs.flatMap cmdCells)
 rows:∀ c∈cs,w.ownsRow base 3 1 c.2 c.1.nums.length (c.1.nums.map fun n=>Value.int .i64 n)
 apart:cs.Pairwise fun a b=>∀ k,a.2.ownBlock=some k->b.2.ownBlock≠some k
theorem flat4{cs:List (Cmd×Value)}{j:Nat}{c:Cmd×Value}(h:cs[j]?=some c):∀ i v,(cmdCells c)[i]?=some v->(cs.flatMap cmdCells)[j*4+i]?=some v:=by
 induction cs generalizing j with
 | nil=>simp at h
 | cons x cs ih=>
   intro i v hv
   have hi:i<4:=(List.getElem?_eq_some_iff.1 hv).1
   cases j with
   | zero=>
     simp at h
     subst h
     rw[List.flatMap_cons,List.getElem?_append_left (by simp[cmdCells];omega)]
     simpa using hv
   | succ j=>
     rw[List.flatMap_cons,List.getElem?_append_right (by simp[cmdCells];omega)]
     have:=ih (by simpa using h) i v hv
     rw[show (j+1)*4+i - (cmdCells x).length=j*4+i from by simp[cmdCells];omega]
     exact this
theorem cmd_cells{w:World}{base:Nat}{v:Value}{cs:List (Cmd×Value)}(h:w.ownsRow base 48 4 v cs.length (cs.flatMap cmdCells)){j:Nat}{c:Cmd×Value}(hj:cs[j]?=some c):∃ g cap,v=.slice (some ⟨g,0,none⟩) cs.length cap/\base<=g/\g<w.heap.size/\∀ i x,(cmdCells c)[i]?=some x->w.cell? ⟨g,j*4+i,none⟩=some x:=by
 have hjl:=(List.getElem?_eq_some_iff.1 hj).1
 rcases h.2 with ⟨_,h0⟩ |⟨g,cap,cur,e,hb,h3,h4,h5,h6,h7⟩
 ·omega
 ·refine⟨g,cap,e,hb,lt_of_heap h3,fun i x hx=>cell_of h3 ?_⟩
  have hi:i<4:=(List.getElem?_eq_some_iff.1 hx).1
  have h1:=flat4 hj i x hx
  rw[<-h7,List.getElem?_take_of_lt (by omega)]at h1
  rw[<-Array.getElem?_toList];exact h1
theorem flights_any(q:Nat)(s:Sta)(F:Nat->Prop)(w:World)(h:QAt w q s F)(hl:∀ c∈s.cs,c.1.nums.length<=1000000)(hcl:s.cs.length<=1000):
  Calls Tryx.prog 22 #[ptr q] w fun x w'=>∃ v cs',x=.returned v/\cs'.map (·.1)=s.cs.map (·.1)/\CmdsAt w' w.heap.size v cs'/\Below w.heap.size w w':=by
 obtain⟨tb,mb,clock,fv,hq,hF⟩:=h
 obtain⟨fa,fc,rfl⟩:=own_slice hq.fl
 have c2:=hq.c2
 obtain⟨n,hn⟩:∃ n,s.cs.length=n:=⟨_,rfl⟩
 rw[hn]at c2
 have HQ:=Lib.hid hq
 have HL:=Lib.hid hl
 obtain⟨i0,hi,hz0,hz1,hz2⟩:=info_parts Tryz.infoC
 clear hq hF hl
 go_enter Tryx.func22,Tryz.ntmps22
 go_wp2_with fail
 go_loopg [3,11] n (fun k out i wr=>∃ (j:Nat) (cs':List (Cmd×Value)),k=n - j/\j<=n/\i=.int .i64 j/\cs'.length=j/\Hid (cs'.map (·.1)=(s.cs.take j).map (·.1))/\CmdsAt wr w.heap.size out cs'/\Below w.heap.size w wr)
 case atStart=>exact ⟨0,[],by simp,by omega,rfl,rfl,Lib.hid (by simp),⟨World.ownsRow_nil _ _ _ _,(fun _ h=>by cases h),List.Pairwise.nil⟩,Below.refl _ _⟩
 case round=>
  obtain⟨j,cs',rfl,hj,rfl,hlen,hM,hC,hB⟩:=hrel
  by_cases hlt:j<n
  ·have hltI:(j:Int)<(n:Int):=by omega
   obtain⟨⟨c,cv⟩,hc⟩:∃ c,s.cs[j]?=some c:=⟨_,List.getElem?_eq_getElem (by omega)⟩
   have hQ:=HQ.out.kept (chgB hB fun _=>False) fun _ _ x=>x
   have hcm:(c,cv)∈s.cs:=List.mem_of_getElem? hc
   have hrow:=hQ.rows _ hcm
   obtain⟨va,vc,rfl⟩:∃ va vc,cv=.slice va c.nums.length vc:=own_slice hrow
   obtain⟨g,cap,e,_,hgl,hcell⟩:=cmd_cells hQ.fl hc
   simp only[Value.slice.injEq]at e
   obtain⟨rfl,_,rfl⟩:=e
   have p0:wr.cell? ⟨g,j*4,none⟩=some (.bool c.write):=hcell 0 _ rfl
   have p1:wr.cell? ⟨g,j*4+1,none⟩=some (.int .i64 c.page):=hcell 1 _ rfl
   have p2:wr.cell? ⟨g,j*4+2,none⟩=some (.int .i64 c.count):=hcell 2 _ rfl
   have p3:wr.cell? ⟨g,j*4+3,none⟩=some (.slice va c.nums.length vc):=hcell 3 _ rfl
   have hll:=HL.out _ hcm
   have hW:∀ W,Below wr.heap.size wr W->Calls Tryx.prog 39 #[.agg #[.bool c.write,.int .i64 c.page,.int .i64 c.count,.slice va c.nums.length vc]] W fun e w'=>∃ v',e=.returned (.agg #[.bool c.write,.int .i64 c.page,.int .i64 c.count,v'])/\w'.ownsRow W.heap.size 3 1 v' c.nums.length (c.nums.map fun n=>Value.int .i64 n)/\Below W.heap.size W w':=
    fun W hb=>clone_any c.write c.page c.count _ c.nums W (ownsRow_chg hrow (chgB hb fun _=>False) fun _ _ x=>x) hll
   have HC:=Lib.hid hC
   have HW:=Lib.hid hW
   have HCC:=Lib.hid hc
   clear hcell hQ hC hrow hc hW hcm hll
   go_wp2_with fail
   refine (HW.out _ (by go_grown)).mono ?_
   rintro x w2 ⟨v',rfl,hr2,hb2⟩
   obtain⟨va',vc',rfl⟩:=own_slice hr2
   have hb2':Below wr.heap.size wr w2:=((Below.refl _ _).alloc (Nat.le_refl _) _).trans (hb2.mono (by simp))
   have hB2:Below w.heap.size w w2:=hB.trans (hb2'.mono hB.size)
   have hC2:CmdsAt w2 w.heap.size u3 cs':=⟨ownsRow_chg HC.out.row (chgB hb2' fun _=>False) (fun _ _ x=>x),(fun d hd=>ownsRow_chg (HC.out.rows d hd) (chgB hb2' fun _=>False) fun _ _ x=>x),HC.out.apart⟩
   have hsz:=hb2'.size
   have hszB:=hB.size
   have hrow0:=hC2.row
   rw[hlen]at hrow0
   have HC2:=Lib.hid hC2
   have HR2:=Lib.hid hr2
   clear hC2 hr2
   go_wp2_with (at_builtin;refine wpList_append_own _ rfl _ _ 55 rfl w.heap.size 48 i0 (.agg #[.bool false,.int .i64 0,.int .i64 0,.slice none 0 0]) 4 48 Tryx.underlying55 hi hz0 hz1 hz2 rfl (by decide) _ _ _ rfl (hrow0.alloc _) ⟨w2.heap.size,0,none⟩ 1 1 [.bool c.write,.int .i64 c.page,.int .i64 c.count,.slice va' c.nums.length vc'] rfl rfl (World.news_of_block (World.alloc_heap_new w2 _)) (by simp[Value.oneCell']) ?_ ?_ ?_ ?_)
   ·unfold maxLen;omega
   ·omega
   ·simp;omega
   intro v'' w3 hown' hgrow _
   have hc3:Chg (fun k=>u3.ownBlock=some k) w2 w3:=((Chg.refl _ w2).alloc _).grown hgrow fun k hk=>.inl hk
   have hB3:Below w.heap.size w w3:=(hB2.alloc hB2.size _).grown hgrow (by have:=hB2.size;simp;omega) (fun k ek=>(hrow0.lt k ek).1)
   have hkeep:∀ (v:Value) (ns:List Int) (b:Nat),w2.ownsRow b 3 1 v ns.length (ns.map fun n=>Value.int .i64 n)->w3.ownsRow b 3 1 v ns.length (ns.map fun n=>Value.int .i64 n):=fun v ns b hv=>ownsRow_chg hv hc3 fun k hk hh=>by
    obtain⟨cur1,e1⟩:=own_heap hv hk
    obtain⟨cur2,e2⟩:=own_heap hrow0 hh
    rw[e1]at e2
    cases e2
   have hC3:CmdsAt w3 w.heap.size v'' (cs' ++ [(c,.slice va' c.nums.length vc')]):=by
    refine⟨?_,fun d hd=>?_,?_⟩
    ·rw[List.flatMap_append,List.length_append,hlen]
     simpa[cmdCells]using hown'
    ·rcases List.mem_append.1 hd with hd | hd
     ·exact hkeep _ _ _ (HC2.out.rows d hd)
     ·rw[List.mem_singleton.1 hd]
      exact ownsRow_low (hkeep _ _ _ HR2.out) (by simp;omega)
    ·refine List.pairwise_append.2 ⟨HC2.out.apart,List.pairwise_singleton _ _,fun d hd e he k hk hk2=>?_⟩
     rw[List.mem_singleton.1 he]at hk2
     have h1:=(HR2.out.lt k hk2).1
     have h2:=((HC.out.rows d hd).lt k hk).2
     simp at h1
     omega
   have HC3:=Lib.hid hC3
   clear hown' hgrow hC3 hkeep hc3 hrow0
   go_wp2
   go_roundg (n - (j+1))
   case measure=>omega
   case rel=>exact ⟨j+1,_,rfl,by omega,by go_num,by simp[hlen],Lib.hid (by rw[List.take_succ_eq_append_getElem (by omega),List.map_append,List.map_append,hM.out,(List.getElem?_eq_some_iff.1 HCC.out).2];rfl),HC3.out,hB3⟩
  ·obtain rfl:j=n:=by omega
   have HC:=Lib.hid hC
   clear hC
   go_wp2
   go_ret
   exact⟨_,rfl,cs',by rw[hM.out,List.take_of_length_le (by omega)],HC.out,hB⟩
end
end Go.Proofs.YticobikhndlejaaGreatDoor
namespace Go.Proofs
section
open Go.Shelf
def Tryz.lays189_ren:Go.Shelf.Ren:=⟨fun | 189=>106 | 125=>123 | 257=>122 | 128=>140 | 129=>141 | 294=>131 | 295=>132 | 296=>133 | 297=>134 | 298=>135 | 299=>136 | 216=>137 | 300=>138 | 301=>139 | 328=>151 | 329=>152 | 330=>153 | 331=>154 | 332=>155 | 215=>156 | 343=>160 | n=>n,fun | 28=>24 | 3=>3 | 46=>220 | 0=>0 | 51=>239 | 53=>241 | 4=>4 | 183=>231 | 182=>230 | 131=>236 | 5=>5 | 9=>9 | 218=>247 | 222=>251 | 228=>255 | 229=>256 | n=>n,fun | n=>n⟩
theorem Tryz.lays189:Go.Proofs.Lays.n189 Tryx.prog Tryz.lays189_ren:={
 mixed:=by kernel_rfl
 f125:=Tryx.func123.trans (congrArg some (by kernel_rfl))
 f128:=Tryx.func140.trans (congrArg some (by kernel_rfl))
 f129:=Tryx.func141.trans (congrArg some (by kernel_rfl))
 f189:=Tryx.func106.trans (congrArg some (by kernel_rfl))
 f215:=Tryx.func156.trans (congrArg some (by kernel_rfl))
 f216:=Tryx.func137.trans (congrArg some (by kernel_rfl))
 f257:=Tryx.func122.trans (congrArg some (by kernel_rfl))
 f294:=Tryx.func131.trans (congrArg some (by kernel_rfl))
 f295:=Tryx.func132.trans (congrArg some (by kernel_rfl))
 f296:=Tryx.func133.trans (congrArg some (by kernel_rfl))
 f297:=Tryx.func134.trans (congrArg some (by kernel_rfl))
 f298:=Tryx.func135.trans (congrArg some (by kernel_rfl))
 f299:=Tryx.func136.trans (congrArg some (by kernel_rfl))
 f300:=Tryx.func138.trans (congrArg some (by kernel_rfl))
 f301:=Tryx.func139.trans (congrArg some (by kernel_rfl))
 f328:=Tryx.func151.trans (congrArg some (by kernel_rfl))
 f329:=Tryx.func152.trans (congrArg some (by kernel_rfl))
 f330:=Tryx.func153.trans (congrArg some (by kernel_rfl))
 f331:=Tryx.func154.trans (congrArg some (by kernel_rfl))
 f332:=Tryx.func155.trans (congrArg some (by kernel_rfl))
 f343:=Tryx.func160.trans (congrArg some (by kernel_rfl))
 t0:=Tryx.underlying0
 a0:=Tryx.isAgg0
 z0:=Tryx.sizeOf0
 v0:=Tryx.zeroValue0
 t3:=Tryx.underlying3
 a3:=Tryx.isAgg3
 z3:=Tryx.sizeOf3
 v3:=Tryx.zeroValue3
 t4:=Tryx.underlying4
 a4:=Tryx.isAgg4
 z4:=Tryx.sizeOf4
 v4:=Tryx.zeroValue4
 t5:=Tryx.underlying5
 a5:=Tryx.isAgg5
 z5:=Tryx.sizeOf5
 v5:=Tryx.zeroValue5
 t9:=Tryx.underlying9
 a9:=Tryx.isAgg9
 z9:=Tryx.sizeOf9
 v9:=Tryx.zeroValue9
 t28:=Tryx.underlying24
 a28:=Tryx.isAgg24
 z28:=Tryx.sizeOf24
 v28:=Tryx.zeroValue24
 t46:=Tryx.underlying220
 a46:=Tryx.isAgg220
 z46:=Tryx.sizeOf220
 v46:=Tryx.zeroValue220
 t51:=Tryx.underlying239
 a51:=Tryx.isAgg239
 z51:=Tryx.sizeOf239
 v51:=Tryx.zeroValue239
 t53:=Tryx.underlying241
 a53:=Tryx.isAgg241
 z53:=Tryx.sizeOf241
 v53:=Tryx.zeroValue241
 t131:=Tryx.underlying236
 a131:=Tryx.isAgg236
 z131:=Tryx.sizeOf236
 v131:=Tryx.zeroValue236
 t182:=Tryx.underlying230
 a182:=Tryx.isAgg230
 z182:=Tryx.sizeOf230
 v182:=Tryx.zeroValue230
 t183:=Tryx.underlying231
 a183:=Tryx.isAgg231
 z183:=Tryx.sizeOf231
 v183:=Tryx.zeroValue231
 t218:=Tryx.underlying247
 a218:=Tryx.isAgg247
 z218:=Tryx.sizeOf247
 v218:=Tryx.zeroValue247
 t222:=Tryx.underlying251
 a222:=Tryx.isAgg251
 z222:=Tryx.sizeOf251
 v222:=Tryx.zeroValue251
 t228:=Tryx.underlying255
 a228:=Tryx.isAgg255
 z228:=Tryx.sizeOf255
 v228:=Tryx.zeroValue255
 t229:=Tryx.underlying256
 a229:=Tryx.isAgg256
 z229:=Tryx.sizeOf256
 v229:=Tryx.zeroValue256}
open Go.Sort Go.RowKit in
theorem Tryz.slices_Sort_int(blk off cap:Nat)(zs:List Int)(w:World)(hH:Holds (Value.int .i64) w blk off zs.toArray)(hblk:blk<w.heap.size)(hsz:zs.length<4611686018427387904):
  Calls Tryx.prog 106 #[.slice (some ⟨blk,off,none⟩) zs.length cap] w fun e w'=>
   e=.returned (.tuple #[])/\∃ n os,w'=grow (putRow (Value.int .i64) (Sort.ahead w n) blk off (zs.mergeSort fun x y=>decide (x<=y)).toArray) os:=Any.slices_Sort_int Tryz.lays189 blk off cap zs w hH hblk hsz
open Go.RowKit Go.Sort in
theorem Tryz.slices_Sort_int_none(p:Option Addr)(cap:Nat)(w:World):
  Calls Tryx.prog 106 #[.slice p 0 cap] w fun e w'=>e=.returned (.tuple #[])/\w'=w:=Any.slices_Sort_int_none Tryz.lays189 p cap w
end
end Go.Proofs
namespace Go.Proofs.YticobikhndlejaaGreatDoor
section
open Go.RowKit Go.Shelf
set_option maxRecDepth 100000
set_option maxHeartbeats 8000000
attribute [local go_sem] Oper.semAt_some
theorem keys1_in(F:Fence)(n:Nat)(hf:F.fn 107)(hro:F.round=none)(hn:1<=n)(l Bm mb clock:Nat)(es:List Ent)(J Jx:List Ent->World->Prop)
  (hY:∀ pre x W,J pre W->pre.length<es.length->YieldAt F (n - 1) Tryx.prog l #[Value.int .i64 x.r.num] W fun e W'=>
    (e=.returned (.bool true)/\J (pre ++ [x]) W'/\KeepsWalks W W')\/(e=.returned (.bool false)/\Jx (pre ++ [x]) W'))
  (W:World) (hJ:AbidesFrom W.heap.size J) (hm:W.cell? ⟨Bm,0,none⟩=some (.map (some mb))) (hmap:W.heap[mb]?=some (mapObj es clock)) (hb:∀ e∈es,e.born<clock) (hnd:(es.map Ent.born).Nodup) (h0:J [] W):
  CallsIn F n Tryx.prog 107 #[.func (.yield l) #[] #[],ptr Bm] W fun e W'=>(∃ v,e=.returned v)/\
   ((∃ xs,xs.Perm es/\J xs W')\/(∃ pre,True/\Jx pre W')):=by
 have hml:=lt_of_heap hmap
 have hrg:=run_range_map (P:=Tryx.prog) (w:=W) Tryx.underlying146 hmap
 refine callsIn_of_wp Tryx.func107 rfl hf ?_ hro
 simp only[Tryz.ntmps107,List.size_toArray,List.length_cons,List.length_nil,Nat.reduceAdd,Nat.reduceSub,Array.replicate_succ,Array.replicate_zero,List.push_toArray,List.append_toArray,List.nil_append,List.cons_append]
 gi_wp2
 gi_loopw [3] (fun _ wr=>∃ vs:List Ent,wr.heap[W.heap.size]?=some (iterObj mb clock (vs.map Ent.born))/\wr.heap[mb]?=some (mapObj es clock)/\(∀ v∈vs,v∈es)/\(vs.map Ent.born).Nodup/\J vs wr)
  (fun _ wr=>iterLeft es.length W.heap.size wr)
 case atStart=>
  refine⟨[],World.alloc_heap_new W _,(Below.heap_alloc _ _ _ hml).trans hmap,by simp,by simp,?_⟩
  exact hJ [] W _ none h0 (World.grownBy_alloc W _ none) (fun r e=>by cases e)
 case round=>
  obtain⟨vs,hI,hM,hve,hvn,hJs⟩:=hrel
  by_cases hl:leftOf es (vs.map Ent.born)=[]
  ·have hnx:=fun ty=>next_over (P:=Tryx.prog) ty _ _ hI hM hb hl
   have hp:=left_perm hve hnd hvn hl
   gi_wp2
   go_end0
   exact⟨⟨_,rfl⟩,.inl ⟨vs,hp,hJs⟩⟩
  ·obtain⟨e,he,w2,hnx,hw2⟩:=next_some (P:=Tryx.prog) 0 _ _ hI hM hb hl
   have hlt:=len_lt_of_left hve hvn he
   have hee:=(List.mem_filter.1 he).1
   have hnb:e.born ∉ vs.map Ent.born:=by simpa using (List.mem_filter.1 he).2
   have hml2:=lt_of_heap hM
   have hil:=lt_of_heap hI
   have hI2:w2.heap[W.heap.size]?=some (iterObj mb clock ((vs ++ [e]).map Ent.born)):=by
    rcases hw2 with rfl | rfl
    ·rw[World.putObj_heap_same hil];simp
    ·rw[World.putObj_heap_same (by simpa using hil)];simp
   have hM2:w2.heap[mb]?=some (mapObj es clock):=by
    rcases hw2 with rfl | rfl <;> rw[World.putObj_heap_other (by omega)]
    ·exact hM
    ·exact hM
   have hg2:wr.grownBy w2 (some W.heap.size):=by
    rcases hw2 with rfl | rfl
    ·exact grownBy_putObj' _ _ _
    ·exact⟨rfl,rfl,rfl,by simp,fun k _ hk=>World.putObj_heap_other (fun e=>hk (by rw[e]))⟩
   have hJ2:J vs w2:=hJ vs wr w2 (some W.heap.size) hJs hg2 (fun r e=>by cases e;exact⟨Nat.le_refl _,_,hI,rfl⟩)
   have hen:=entry_run (P:=Tryx.prog) (w:=w2) _ _ (by simpa using hI2) hM2 hee hnd
   obtain⟨fn,tmps,assign,body,hy,hR⟩:=hY vs e w2 hJ2 hlt
   clear hw2
   have HI2:=Lib.hid hI2
   have HM2:=Lib.hid hM2
   have HI:=Lib.hid hI
   clear hI2 hM2 hI hM hmap hrg
   gi_wp2
   refine hR.mono ?_
   have hve':∀ v∈vs ++ [e],v∈es:=fun v hv=>(List.mem_append.1 hv).elim (hve v) (fun h=>by simp at h;subst h;exact hee)
   have hvn':((vs ++ [e]).map Ent.born).Nodup:=by
    rw[List.map_append]
    exact List.nodup_append.2 ⟨hvn,by simp,fun a ha b hb hab=>by simp at hb;subst hb;exact hnb (hab ▸ ha)⟩
   rintro e' W3 (⟨rfl,hJ3,hk3⟩ |⟨rfl,hJx3⟩)
   ·gi_wp2
    have hI3:=hk3.same _ _ HI2.out rfl
    go_roundw
    case rel=>exact ⟨vs ++ [e],hI3,hk3.same _ _ HM2.out rfl,hve',hvn',hJ3⟩
    case measure=>rw [iterLeft_eq hI3,iterLeft_eq HI.out];simp;omega
   ·gi_wp2
    refine bodyPost_ret (results_none rfl _ _ _) rfl ?_
    exact⟨⟨_,rfl⟩,.inr ⟨vs ++ [e],trivial,hJx3⟩⟩
theorem keys_in(F:Fence)(n:Nat)(hf:F.fn 74)(hro:F.round=none)(m:Option Nat)(w:World):
  CallsIn F n Tryx.prog 74 #[.map m] w fun e w'=>e=.returned (.func (.func 107) #[] #[ptr w.heap.size])/\w'=w.alloc (.cells #[.map m] 146):=by
 refine callsIn_of_wp Tryx.func74 rfl hf ?_ hro
 simp only[Tryz.ntmps74,List.size_toArray,List.length_cons,List.length_nil,Nat.reduceAdd,Nat.reduceSub,Array.replicate_succ,Array.replicate_zero,List.push_toArray,List.append_toArray,List.nil_append,List.cons_append]
 gi_wp2
 go_ret
 exact⟨rfl,rfl⟩
theorem keys_stops(F:Fence)(n:Nat)(hf:F.fn 107)(hro:F.round=none)(hn:1<=n)(Bm mb clock:Nat)(es:List Ent)(w:World)(hBm:Bm<w.heap.size)
  (hm:w.cell? ⟨Bm,0,none⟩=some (.map (some mb))) (hmap:w.heap[mb]?=some (mapObj es clock)) (hb:∀ e∈es,e.born<clock) (hnd:(es.map Ent.born).Nodup):
  SeqStopsK F n Tryx.prog 107 #[ptr Bm] (fun e:Ent=>#[Value.int .i64 e.r.num]) KeepsWalks (fun xs=>xs.Perm es) (fun _=>True) es.length w:=fun l J Jx W hW hJ _ hY h0=>
 keys1_in F n hf hro hn l Bm mb clock es J Jx hY W hJ ((hW.cell (p:=⟨Bm,0,none⟩) hBm).trans hm) ((hW.block mb (lt_of_heap hmap)).trans hmap) hb hnd h0
theorem Tryz.infoK:(Tryx.prog.info? 3).map (fun i=>(i.zero,i.size,i.bytes))=some (some (.int .i64 0),1,8):=by kernel_rfl
theorem appendSeq_inK(F:Fence)(n:Nat)(hf:F.fn 121)(hg:F.fn 107)(hro:F.round=none)(hn:3<=n)(Bm:Nat)(S:List Ent->Prop)(N:Nat)(hN:N<=1000000)
  (w:World) (hs:SeqStopsK F (n - 1) Tryx.prog 107 #[ptr Bm] (fun e:Ent=>#[Value.int .i64 e.r.num]) KeepsWalks S (fun _=>True) N w):
  CallsIn F n Tryx.prog 121 #[.slice none 0 0,.func (.func 107) #[] #[ptr Bm]] w fun e W'=>
   ∃ v vs,e=.returned v/\S vs/\W'.ownsRow w.heap.size 3 1 v vs.length (vs.map fun e=>Value.int .i64 e.r.num)/\Below w.heap.size w W':=by
 have h1:1<=n:=by omega
 obtain⟨i0,hi,hz0,hz1,hz2⟩:=info_parts Tryz.infoK
 refine callsIn_of_wp_marks Tryx.func121 rfl hf ?_ hro
 simp only[Tryz.ntmps121,List.size_toArray,List.length_cons,List.length_nil,Nat.reduceAdd,Nat.reduceSub,Array.replicate_succ,Array.replicate_zero,List.push_toArray,List.append_toArray,List.nil_append,List.cons_append]
 have HS:=Lib.hid hs
 clear hs
 gi_wp2
 have bO:=Boxed.new w 24 (.slice none 0 0)
 have hB0:Below w.heap.size w (w.alloc (.cells #[.slice none 0 0] 24)):=(Below.refl _ w).alloc (Nat.le_refl _) _
 refine wpIn_rangeFunc_ownG hro h1 (gf:=107) (lb:=#[ptr Bm]) rfl hg (enters_of Tryx.func107 (by kernel_rfl) rfl)
  (fun l J Jx W' hW hJ hJx hY h0=>HS.out l J Jx W' (hB0.trans (hW.mono hB0.size)) hJ hJx hY h0) walksK_t walksK_b (Below.refl _ _) (fun _=>rfl)
  (fun (pre:List Ent) W=>(∃ v,Boxed W w.heap.size 24 v/\W.ownsRow w.heap.size 3 1 v pre.length (pre.map fun e:Ent=>Value.int .i64 e.r.num)/\True)/\Below w.heap.size w W)
  (fun _ _ _=>False)
  (OwnFrom.and (Own.from (holdsRow_own w.heap.size w.heap.size 24 3 1 (fun pre:List Ent=>pre.length) (fun pre:List Ent=>pre.map fun e=>Value.int .i64 e.r.num) (fun (_:List Ent) _=>True)) _) (ownFrom_below (Nat.le_refl _) (by simp)))
  (fun _ _ _ _ _ hs _ _=>hs)
  ⟨⟨_,bO,World.ownsRow_nil _ _ _ _,trivial⟩,hB0⟩
  (fun x:Ent=>{tmps:=#[.slice none 0 0,.func (.func 107) #[] #[ptr Bm],ptr w.heap.size,undef,.slice none 0 0,Value.int .i64 x.r.num,.func (.func 107) #[] #[ptr Bm],Value.int .i64 x.r.num,undef,undef,undef,undef,undef],defers:=[]}) ?assign ?body ?done ?stop
 case assign=>
  intro l x W K hK
  gi_wp2
  exact hK
 case body=>
  rintro l pre x W ⟨⟨v,hv,hrow,_⟩,hB⟩ hlt
  have hc:=hv.cell
  gi_wp2_with (gi_at_builtin;refine wpListIn_append_own _ rfl _ _ 24 rfl w.heap.size 3 i0 (.int .i64 0) 1 8 Tryx.underlying24 hi hz0 hz1 hz2 rfl (by decide) _ _ _ rfl (hrow.alloc _) ⟨W.heap.size,0,none⟩ 1 1 [Value.int .i64 x.r.num] rfl rfl (cell_one_new _ _ _) (by simp[Value.oneCell']) (by unfold maxLen;omega) (by omega) (by have:=hB.size;simp;omega) ?_;intro v' w1 hown' hgrow _;obtain⟨g',cap',rfl⟩:=ownsRow_succ hown';obtain⟨hv1,hv2,hr2,hk2,hb2⟩:=hv.appended (by decide) hrow hB.size (Nat.le_refl _) hown' hgrow;have hc1:=hv1.cell;have hf1:=hv1.frozen)
  exact⟨hk2.from _,hk2.walks,⟨_,hv2,by simpa using hr2,trivial⟩,hB.trans hb2⟩
 case done=>
  rintro D ys W hD hS ⟨⟨v,hv,hrow,_⟩,hB⟩ hK
  have hc:=hv.cell
  gi_wp2
  refine⟨by simp,.inl ⟨_,_,rfl,run_takeDeferred hK,?_⟩⟩
  exact⟨_,results_tmp rfl _ _ _,v,ys,rfl,hS,ownsRow_putObj hrow _ hK rfl,hB.trans (belowK_b (w:=w) (Nat.le_refl _) W D _ _ (by simp at hD;omega) hK rfl rfl)⟩
 case stop=>
  rintro D c pre W _ _ h _
  exact h.elim
theorem collect_inK(F:Fence)(n:Nat)(hf:F.fn 105)(hf2:F.fn 121)(hg:F.fn 107)(hro:F.round=none)(hn:4<=n)(Bm:Nat)(S:List Ent->Prop)(N:Nat)(hN:N<=1000000)
  (w:World) (hs:SeqStopsK F (n - 1 - 1) Tryx.prog 107 #[ptr Bm] (fun e:Ent=>#[Value.int .i64 e.r.num]) KeepsWalks S (fun _=>True) N w):
  CallsIn F n Tryx.prog 105 #[.func (.func 107) #[] #[ptr Bm]] w fun e W'=>
   ∃ v vs,e=.returned v/\S vs/\W'.ownsRow w.heap.size 3 1 v vs.length (vs.map fun e=>Value.int .i64 e.r.num)/\Below w.heap.size w W':=by
 have h1:1<=n:=by omega
 refine callsIn_of_wp Tryx.func105 rfl hf ?_ hro
 simp only[Tryz.ntmps105,List.size_toArray,List.length_cons,List.length_nil,Nat.reduceAdd,Nat.reduceSub,Array.replicate_succ,Array.replicate_zero,List.push_toArray,List.append_toArray,List.nil_append,List.cons_append]
 have HS:=Lib.hid hs
 clear hs
 gi_wp2_with (gi_at_call 121;refine (appendSeq_inK F (n - 1) hf2 hg hro (by omega) Bm S N hN _ HS.out).mono ?_;rintro e w' ⟨v,vs,rfl,hS,hrow,hb⟩)
 go_ret
 exact⟨v,vs,rfl,hS,hrow,hb⟩
theorem collect_anyK(Bm mb clock:Nat)(es:List Ent)(w:World)(hlen:es.length<=1000000)(hm:w.cell? ⟨Bm,0,none⟩=some (.map (some mb)))(hmap:w.heap[mb]?=some (mapObj es clock))(hb:∀ e∈es,e.born<clock)(hnd:(es.map Ent.born).Nodup):
  Calls Tryx.prog 105 #[.func (.func 107) #[] #[ptr Bm]] w fun e W'=>
   ∃ (v:Value) (vs:List Ent),e=.returned v/\vs.Perm es/\W'.ownsRow w.heap.size 3 1 v vs.length (vs.map fun e=>Value.int .i64 e.r.num)/\Below w.heap.size w W':=
 (callsIn_wide (n:=6)).1 (collect_inK Fence.wide 6 trivial trivial trivial rfl (by omega) Bm _ es.length hlen w
   (keys_stops Fence.wide (6 - 1 - 1) trivial rfl (by omega) Bm mb clock es w (lt_of_cell hm) hm hmap hb hnd))
end
section
open Go.RowKit Go.Shelf Go.Lib Go.Sort
set_option maxRecDepth 100000
set_option maxHeartbeats 8000000
theorem sorted_ints{l m:List Int}(hp:l.Perm m)(hl:l.Pairwise (·<=·))(hm:m.Pairwise (· < ·)):l=m:=
 List.Perm.eq_of_pairwise (le:=fun a b:Int=>a<=b) (fun a b _ _ h1 h2=>by omega) hl (hm.imp fun h=>by omega) hp
theorem sortedK_any(Bm mb clock:Nat)(es:List Ent)(w:World)(hlen:es.length<=1000000)(hm:w.cell? ⟨Bm,0,none⟩=some (.map (some mb)))(hmap:w.heap[mb]?=some (mapObj es clock))(hb:∀ e∈es,e.born<clock)(hnd:(es.map Ent.born).Nodup)
  (hok:EntsOk es):
  Calls Tryx.prog 73 #[.func (.func 107) #[] #[ptr Bm]] w fun e w'=>
   ∃ v:Value,e=.returned v/\w'.ownsRow w.heap.size 3 1 v es.length (es.map fun e=>.int .i64 e.r.num)/\Below w.heap.size w w':=by
 have HC:=Lib.hid (collect_anyK Bm mb clock es w hlen hm hmap hb hnd)
 clear hm hmap hb
 go_enter Tryx.func73,Tryz.ntmps73
 go_wp2_with fail
 refine HC.out.mono ?_
 rintro e w1 ⟨v,vs,rfl,hp,hrow,hbel⟩
 rcases hrow.2 with ⟨rfl,hz⟩ |⟨g,cap,cur,rfl,hbase,hgb,r1,r2,r3,r4⟩
 ·have hvs:vs=[]:=List.eq_nil_of_length_eq_zero hz
  subst hvs
  have hes:es=[]:=hp.symm.eq_nil
  subst hes
  go_wp2_with fail
  refine (Tryz.slices_Sort_int_none none 0 w1).mono ?_
  rintro e w2 ⟨rfl,rfl⟩
  go_wp2
  go_ret
  exact⟨_,rfl,World.ownsRow_nil _ _ _ _,hbel⟩
 ·obtain⟨D,hD⟩:∃ D:List Int,vs.map (·.r.num)=D:=⟨_,rfl⟩
  have hlD:D.length=vs.length:=by rw[<-hD];simp
  have hDm:vs.map (fun e=>Value.int .i64 e.r.num)=D.map (Value.int .i64):=by rw[<-hD,List.map_map];rfl
  rw[hDm,<-hlD,Nat.mul_one]at r4
  rw[<-hlD]at r1
  have hH:Holds (Value.int .i64) w1 g 0 D.toArray:=holds_of_blockE hgb r4
  have hle:=hp.length_eq
  have hsz:D.length<4611686018427387904:=by omega
  have hgl:g<w1.heap.size:=lt_of_heap hgb
  have hc:=Tryz.slices_Sort_int g 0 cap D w1 hH hgl hsz
  have hfin:(D.mergeSort fun x y=>decide (x<=y))=es.map (·.r.num):=by
   refine sorted_ints ((List.mergeSort_perm D _).trans (by rw[<-hD];exact hp.map _)) ?_ (List.pairwise_map.2 hok.nums)
   have:=List.pairwise_mergeSort (le:=fun x y:Int=>decide (x<=y)) (fun a b c hab hbc=>by simp at *;omega) (fun a b=>by simp;omega) D
   exact this.imp fun h=>by simpa using h
  have HCs:=Lib.hid hc
  have HF:=Lib.hid hfin
  have hlen2:vs.length=D.length:=hlD.symm
  have HL:=Lib.hid hlen2
  have hne:es.length=D.length:=by omega
  have HN:=Lib.hid hne
  clear hc hfin hrow hp hD hDm hlD hlen2 hne r4 hH hle
  go_wp2_with fail
  rw[HL.out]
  refine HCs.out.mono ?_
  rintro e w2 ⟨rfl,n,os,hw2⟩
  have hrow2:w2.ownsRow w.heap.size 3 1 (.slice (some ⟨g,0,none⟩) D.length cap) D.length ((D.mergeSort fun x y=>decide (x<=y)).map (Value.int .i64)):=by
   rw[hw2];exact ownsRow_sortedE (by simp) hbase hgb r1 r2 r3
  have hb2:Below w.heap.size w w2:=by rw[hw2];exact hbel.grown (grownBy_sortedE _) hbel.size (fun k e=>by cases e;exact hbase)
  have HR2:=Lib.hid hrow2
  clear hrow2 hw2
  go_wp2
  go_ret
  refine⟨_,rfl,?_,hb2⟩
  have:=HR2.out
  rw[HF.out,List.map_map]at this
  rw[HN.out]
  exact this
theorem Tryz.infoI2:(Tryx.prog.info? 3).map (fun i=>(i.zero,i.size,i.bytes))=some (some (.int .i64 0),1,8):=by kernel_rfl
def waitE(es:List Ent):List Int:=(es.filter fun e=>e.r.state == 0).map (·.r.num)
theorem row_at{w:World}{base n:Nat}{a:Option Addr}{c:Nat}{t:TypeId}{xs:List Value}(h:w.ownsRow base t 1 (.slice a n c) n xs){j:Nat}{x:Value}(hj:xs[j]?=some x)(hn:xs.length=n):∃ g,a=some ⟨g,0,none⟩/\g<w.heap.size/\base<=g/\w.cell? ⟨g,j,none⟩=some x:=by
 have hjl:=(List.getElem?_eq_some_iff.1 hj).1
 rcases h.2 with ⟨_,h0⟩ |⟨g,cap,cur,e,hb,h3,h4,h5,h6,h7⟩
 ·omega
 ·simp only[Value.slice.injEq]at e
  obtain⟨rfl,_,rfl⟩:=e
  refine⟨g,rfl,lt_of_heap h3,hb,cell_of h3 ?_⟩
  rw[<-h7,List.getElem?_take_of_lt (by omega)]at hj
  rw[<-Array.getElem?_toList];exact hj
theorem twaiting_any(tb mb clock:Nat)(last held:Int)(es:List Ent)(w:World)(h:TabB w tb mb clock last held es):
  Calls Tryx.prog 41 #[ptr tb] w fun x w'=>∃ v,x=.returned v/\w'.ownsRow w.heap.size 3 1 v (waitE es).length ((waitE es).map fun n=>Value.int .i64 n)/\Below w.heap.size w w':=by
 have c0:=h.c0
 have hb:Below w.heap.size w (w.alloc (.cells #[.map (some mb)] 146)):=(Below.refl _ w).alloc (Nat.le_refl _) _
 have h1:=h.below hb
 have HC:=Lib.hid (sortedK_any w.heap.size mb clock es _ h1.len (cell_new (w:=w) (c:=#[.map (some mb)]) (t:=146) rfl) h1.map h1.born h1.borns h1.ok)
 have hV:=(callsIn_wide (n:=6)).1 (keys_in Fence.wide 6 trivial rfl (some mb) w)
 have HV:=Lib.hid hV
 have HT:=Lib.hid h
 obtain⟨n,hn⟩:∃ n,es.length=n:=⟨_,rfl⟩
 obtain⟨i0,hi,hz0,hz1,hz2⟩:=info_parts Tryz.infoI2
 have hlen:=h.len
 clear h h1 hV
 go_enter Tryx.func41,Tryz.ntmps41
 go_wp2_with fail
 refine HV.out.mono ?_
 rintro e w1 ⟨rfl,rfl⟩
 go_wp2_with fail
 refine HC.out.mono ?_
 rintro e w1 ⟨v,rfl,hrow,hbel⟩
 rw[hn]at hrow
 obtain⟨va,vc,rfl⟩:=own_slice hrow
 have hbw:Below w.heap.size w w1:=hb.trans (hbel.mono (by simp))
 have HR:=Lib.hid hrow
 have HBW:=Lib.hid hbw
 clear hrow hbel hbw
 go_wp2_with fail
 go_loopg [3,13] n (fun k out i wr=>∃ (j:Nat),k=n - j/\j<=n/\i=.int .i64 j/\wr.ownsRow w1.heap.size 3 1 out (waitE (es.take j)).length ((waitE (es.take j)).map fun n=>Value.int .i64 n)/\Below w1.heap.size w1 wr)
 case atStart=>exact ⟨0,by simp,by omega,rfl,by simpa[waitE]using World.ownsRow_nil _ _ _ _,Below.refl _ _⟩
 case round=>
  obtain⟨j,rfl,hj,rfl,hrow,hB⟩:=hrel
  by_cases hlt:j<n
  ·have hltI:(j:Int)<(n:Int):=by omega
   obtain⟨e,he⟩:∃ e,es[j]?=some e:=⟨_,List.getElem?_eq_getElem (by omega)⟩
   have hem:e∈es:=List.mem_of_getElem? he
   have hrw:wr.ownsRow (w.alloc (.cells #[.map (some mb)] 146)).heap.size 3 1 (.slice va n vc) n (es.map fun e=>Value.int .i64 e.r.num):=ownsRow_chg HR.out (chgB hB fun _=>False) fun _ _ x=>x
   obtain⟨g,rfl,hgl,_,hcell⟩:=row_at hrw (j:=j) (x:=.int .i64 e.r.num) (by rw[List.getElem?_map,he];rfl) (by simp[hn])
   have hT:=HT.out.below (HBW.out.trans (hB.mono HBW.out.size))
   have t0:=hT.c0
   have hlk:=(hT.look hem).2
   have hreq:=hT.reqs e hem
   have a7:=hreq.at.c7
   have htk:waitE (es.take (j+1))=waitE (es.take j) ++ (if e.r.state == 0 then [e.r.num]else []):=by
    obtain⟨h1,h2⟩:=List.getElem?_eq_some_iff.1 he
    unfold waitE
    rw[List.take_succ_eq_append_getElem h1,h2,List.filter_append,List.map_append]
    congr 1
    cases hs:(e.r.state == 0) <;> simp[hs]
   have hwl:(waitE (es.take j)).length<=j:=by
    unfold waitE
    rw[List.length_map]
    refine Nat.le_trans (List.length_filter_le _ _) ?_
    rw[List.length_take]
    exact Nat.min_le_left _ _
   have HTK:=Lib.hid htk
   clear hrw htk he hem hT hreq
   cases hs:(e.r.state == 0)with
   | false=>
     go_wp2_with fail
     go_roundg (n - (j+1))
     case measure=>omega
     case rel=>exact ⟨j+1,rfl,by omega,by go_num,by rw[HTK.out,hs];simpa using hrow,hB⟩
   | true=>
     have hsz:=hB.size
     obtain⟨m,hm⟩:∃ m,(waitE (es.take j)).length=m:=⟨_,rfl⟩
     rw[hm]at hrow hwl
     have HM:=Lib.hid hm
     clear hm
     go_wp2_with (at_builtin;refine wpList_append_own _ rfl _ _ 24 rfl w1.heap.size 3 i0 (.int .i64 0) 1 8 Tryx.underlying24 hi hz0 hz1 hz2 rfl (by decide) _ _ _ rfl (hrow.alloc _) ⟨wr.heap.size,0,none⟩ 1 1 [.int .i64 e.r.num] rfl rfl (World.news_of_block (World.alloc_heap_new wr _)) (by simp[Value.oneCell']) ?_ ?_ ?_ ?_)
     ·unfold maxLen;omega
     ·omega
     ·simp;omega
     intro v' w3 hown' hgrow _
     have hB3:Below w1.heap.size w1 w3:=(hB.alloc hB.size _).grown hgrow (by simp;omega) (fun k ek=>(hrow.lt k ek).1)
     have HO:=Lib.hid hown'
     clear hown' hgrow hrow
     go_wp2
     go_roundg (n - (j+1))
     case measure=>omega
     case rel=>exact ⟨j+1,rfl,by omega,by go_num,by rw[HTK.out,hs,if_pos rfl,List.length_append,List.map_append,HM.out];exact HO.out,hB3⟩
  ·obtain rfl:j=n:=by omega
   have hall:es.take j=es:=List.take_of_length_le (by omega)
   rw[hall]at hrow
   have HO:=Lib.hid hrow
   clear hrow hall
   go_wp2
   go_ret
   exact⟨_,rfl,ownsRow_low HO.out HBW.out.size,HBW.out.trans (hB.mono HBW.out.size)⟩
theorem waiting_any(q:Nat)(s:Sta)(F:Nat->Prop)(w:World)(h:QAt w q s F):
  Calls Tryx.prog 20 #[ptr q] w fun x w'=>∃ v,x=.returned v/\w'.ownsRow w.heap.size 3 1 v (waitE s.es).length ((waitE s.es).map fun n=>Value.int .i64 n)/\Below w.heap.size w w':=by
 obtain⟨tb,mb,clock,fv,hq,hF⟩:=h
 have c1:=hq.c1
 have HW:=Lib.hid (twaiting_any tb mb clock s.last s.held s.es w hq.tab)
 clear hq hF
 go_enter Tryx.func20,Tryz.ntmps20
 go_wp2_with fail
 refine HW.out.mono ?_
 rintro x w1 ⟨v,rfl,h1,h2⟩
 have H1:=Lib.hid h1
 clear h1
 go_wp2_with fail
 go_ret
 exact⟨v,rfl,H1.out,h2⟩
end
section
open Go.RowKit Go.Shelf Go.Lib
set_option maxRecDepth 100000
set_option maxHeartbeats 8000000
structure RB(w:World)(q:Nat)(t:St)(l:List RR)(told:List Int)(fs:List (Cmd×Value))(rv tv fv dv:Value):Prop where
 que:w.heap[q]?=some (.cells #[.int .i64 t.depth,rv,tv,fv,.int .i64 t.now,.int .i64 t.head,.int .i64 t.last,dv] 119 (0,0))
 reqs:w.ownsRow 0 191 10 rv l.length (l.flatMap rrCells)
 tol:w.ownsRow 0 3 1 tv told.length (told.map fun n=>Value.int .i64 n)
 fls:CmdsAt w 0 fv fs
 fcs:fs.map (·.1)=t.cs
 dsk:w.ownsRow 0 5 1 dv 64 (t.disk.map fun b=>Value.int .u8 b)
 tf:∀ c∈fs,∀ k,tv.ownBlock=some k->c.2.ownBlock≠some k
def RFoot(q:Nat)(rv tv fv dv:Value)(fs:List (Cmd×Value))(k:Nat):Prop:=k=q\/rv.ownBlock=some k\/tv.ownBlock=some k\/fv.ownBlock=some k\/dv.ownBlock=some k\/∃ c∈fs,c.2.ownBlock=some k
section
variable {w W:World} {q:Nat} {t:St} {l:List RR} {told:List Int} {fs:List (Cmd×Value)} {rv tv fv dv:Value}
theorem RB.kept(h:RB w q t l told fs rv tv fv dv){S:Nat->Prop}(hc:Chg S w W)(hn:∀ k,RFoot q rv tv fv dv fs k->¬S k):RB W q t l told fs rv tv fv dv:=
 ⟨(hc.block _ (lt_of_heap h.que) (hn _ (.inl rfl))).trans h.que,ownsRow_chg h.reqs hc fun k hk=>hn k (.inr (.inl hk)),ownsRow_chg h.tol hc fun k hk=>hn k (.inr (.inr (.inl hk))),
  ⟨ownsRow_chg h.fls.row hc fun k hk=>hn k (.inr (.inr (.inr (.inl hk)))),fun c hc'=>ownsRow_chg (h.fls.rows c hc') hc fun k hk=>hn k (.inr (.inr (.inr (.inr (.inr ⟨c,hc',hk⟩))))),h.fls.apart⟩,h.fcs,
  ownsRow_chg h.dsk hc fun k hk=>hn k (.inr (.inr (.inr (.inr (.inl hk))))),h.tf⟩
theorem RB.below(h:RB w q t l told fs rv tv fv dv)(hb:Below w.heap.size w W):RB W q t l told fs rv tv fv dv:=h.kept (chgB hb fun _=>False) fun _ _ x=>x
theorem RB.lt(h:RB w q t l told fs rv tv fv dv){k:Nat}(hk:RFoot q rv tv fv dv fs k):k<w.heap.size:=by
 have g:∀ {b:Nat} {ty:TypeId} {sz n:Nat} {v:Value} {xs:List Value},w.ownsRow b ty sz v n xs->v.ownBlock=some k->k<w.heap.size:=fun hr he=>by
  obtain⟨cur,hcur⟩:=own_heap hr he
  exact lt_of_heap hcur
 rcases hk with rfl | hk | hk | hk | hk |⟨c,hc,hk⟩
 ·exact lt_of_heap h.que
 ·exact g h.reqs hk
 ·exact g h.tol hk
 ·exact g h.fls.row hk
 ·exact g h.dsk hk
 ·exact g (h.fls.rows c hc) hk
theorem RB.c0(h:RB w q t l told fs rv tv fv dv):w.cell? ⟨q,0,none⟩=some (.int .i64 t.depth):=cell_of h.que rfl
theorem RB.c1(h:RB w q t l told fs rv tv fv dv):w.cell? ⟨q,1,none⟩=some rv:=cell_of h.que rfl
theorem RB.c2(h:RB w q t l told fs rv tv fv dv):w.cell? ⟨q,2,none⟩=some tv:=cell_of h.que rfl
theorem RB.c3(h:RB w q t l told fs rv tv fv dv):w.cell? ⟨q,3,none⟩=some fv:=cell_of h.que rfl
theorem RB.c4(h:RB w q t l told fs rv tv fv dv):w.cell? ⟨q,4,none⟩=some (.int .i64 t.now):=cell_of h.que rfl
theorem RB.c5(h:RB w q t l told fs rv tv fv dv):w.cell? ⟨q,5,none⟩=some (.int .i64 t.head):=cell_of h.que rfl
theorem RB.c6(h:RB w q t l told fs rv tv fv dv):w.cell? ⟨q,6,none⟩=some (.int .i64 t.last):=cell_of h.que rfl
theorem RB.c7(h:RB w q t l told fs rv tv fv dv):w.cell? ⟨q,7,none⟩=some dv:=cell_of h.que rfl
theorem RB.free(h:RB w q t l told fs rv tv fv dv)(i:Nat):w.frozen? ⟨q,i,none⟩=false:=free_of h.que
theorem RB.req(h:RB w q t l told fs rv tv fv dv){k:Nat}{x:RR}(hk:l[k]?=some x):∃ g cap,rv=.slice (some ⟨g,0,none⟩) l.length cap/\g<w.heap.size/\(∃ cur,w.heap[g]?=some (.cells cur 191 (0,0))/\l.length<=cap/\cap<=maxLen/\cur.size=cap*10/\cur.toList.take (l.length*10)=l.flatMap rrCells)/\
  ∀ i v,(rrCells x)[i]?=some v->w.cell? ⟨g,k*10+i,none⟩=some v:=by
 have hkl:=(List.getElem?_eq_some_iff.1 hk).1
 rcases h.reqs.2 with ⟨_,h0⟩ |⟨g,cap,cur,e,hb,h3,h4,h5,h6,h7⟩
 ·omega
 ·refine⟨g,cap,e,lt_of_heap h3,⟨cur,h3,h4,h5,h6,h7⟩,fun i v hv=>cell_of h3 ?_⟩
  have hi:i<10:=(List.getElem?_eq_some_iff.1 hv).1
  have h1:=rr_at hk i v hv
  rw[<-h7,List.getElem?_take_of_lt (by omega)]at h1
  rw[<-Array.getElem?_toList];exact h1
end
theorem told_take{told:List Int}{n x:Int}{i:Nat}(hx:told[i]?=some x)(h:n ∉ told.take i)(hne:x≠n):n ∉ told.take (i+1):=by
 obtain⟨hl,e⟩:=List.getElem?_eq_some_iff.1 hx
 rw[List.take_succ_eq_append_getElem hl,e]
 simp only[List.mem_append,List.mem_singleton]
 rintro (hm | hm)
 ·exact h hm
 ·exact hne hm.symm
theorem isTold_r(n:Int)(w:World){q:Nat}{t:St}{l:List RR}{told:List Int}{fs:List (Cmd×Value)}{rv tv fv dv:Value}(h:RB w q t l told fs rv tv fv dv)(hlen:told.length<=1000000):
  Calls Tryx.prog 112 #[ptr q,.int .i64 n] w fun x w'=>x=.returned (.bool (decide (n∈told)))/\Below w.heap.size w w':=by
 obtain⟨ta,tc,rfl⟩:=own_slice h.tol
 obtain⟨m,hm⟩:∃ m,told.length=m:=⟨_,rfl⟩
 rw[hm]at h hlen
 have c2:=h.c2
 have HR:=Lib.hid h
 clear h
 go_enter Tryx.func112,Tryz.ntmps112
 go_wp2_with fail
 go_loopg [5] m (fun k i wr=>∃ (j:Nat),k=m - j/\j<=m/\i=.int .i64 j/\n ∉ told.take j/\Below w.heap.size w wr)
 case atStart=>exact ⟨0,by simp,by omega,rfl,by simp,Below.refl _ _⟩
 case round=>
  obtain⟨j,rfl,hj,rfl,hno,hB⟩:=hrel
  have hR:=HR.out.below hB
  have d2:=hR.c2
  by_cases hlt:j<m
  ·have hltI:(j:Int)<(m:Int):=by omega
   obtain⟨x,hx⟩:∃ x,told[j]?=some x:=⟨_,List.getElem?_eq_getElem (by omega)⟩
   have hrow:=hR.tol
   rw[hm]at hrow
   obtain⟨g,rfl,hgl,_,hcell⟩:=row_at hrow (j:=j) (x:=.int .i64 x) (by rw[List.getElem?_map,hx];rfl) (by simp[hm])
   have HNO:=Lib.hid hno
   clear hR hrow hno
   by_cases he:x=n
   ·subst he
    go_wp2_with fail
    go_ret
    exact⟨by simp[List.mem_of_getElem? hx],hB⟩
   ·go_wp2_with fail
    go_roundg (m - (j+1))
    case measure=>omega
    case rel=>exact ⟨j+1,rfl,by omega,by go_num,told_take hx HNO.out he,hB⟩
  ·obtain rfl:j=m:=by omega
   have hall:n ∉ told:=by rw[List.take_of_length_le (by omega)]at hno;exact hno
   clear hR hno
   go_wp2_with fail
   go_ret
   exact⟨by simp[hall],hB⟩
end
end Go.Proofs.YticobikhndlejaaGreatDoor
