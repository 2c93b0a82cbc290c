/- Part 15 of the proof (see the last part). -/
import Derived.Test.YticobikhndlejaaGreatDoorOrN
namespace Go.Proofs.YticobikhndlejaaGreatDoor
section
open Go.RowKit Go.Shelf Go.Lib
set_option maxRecDepth 100000
theorem ask_write(wo q:Nat)(rv:Value)(F:Nat->Prop)(t:St)(rs:List KReq)(w:World)(page v:Int)(h:KB w wo q rv F t rs)(hg:ErrVar w)(hF:¬F 0)(_hw0:wo≠0)(hr0:rv.ownBlock≠some 0)(hk:t.Ok)(hs:t.Small)(hh:t.held<40)(hp:0<=page/\page<16)(hl:t.last=rs.length)(_hv:0<=v/\v<=255):
  Calls Tryx.prog 14 #[ptr wo,.bool true,.int .i64 page,.int .u8 v] w fun x w'=>x=.returned (.bool true)/\∃ rv' F',KB w' wo q rv' F' (t.add true page (askD v rs.length)) (rs ++ [newK (t.last+1) true page (strOfNums (askL v rs.length))])/\(∀ k,KFoot wo rv' F' k->KFoot wo rv F k\/w.heap.size<=k)/\Chg (KFoot wo rv F) w w':=by
 have h:=h.lt
 obtain⟨ra,rc,rfl⟩:=own_slice h.row
 obtain⟨n,hn⟩:∃ n,rs.length=n:=⟨_,rfl⟩
 obtain⟨kk,hkk⟩:∃ kk:Int,(n:Int) % 256=kk:=⟨_,rfl⟩
 obtain⟨k2,hk2⟩:∃ k2:Int,kk / 2=k2:=⟨_,rfl⟩
 have hd4:askD v rs.length=⟨v,kk,k2,1⟩:=by unfold askD;rw[hn,hkk,hk2]
 have hdl:askL v rs.length=[v,kk,k2,1]:=by unfold askL;rw[hn,hkk,hk2]
 rw[hd4,hdl]
 have hw8:IntKind.u8.wrap (n:Int)=kk:=by rw[<-hkk];exact IntKind.wrap_u8 _
 have hkb:0<=kk/\kk<256:=by omega
 have htd:kk.tdiv 2=k2:=by rw[<-hk2,Int.tdiv_eq_ediv_of_nonneg hkb.1]
 have hk2b:0<=k2/\k2<128:=by omega
 have hw9:IntKind.u8.wrap k2=k2:=by rw[IntKind.wrap_u8];omega
 obtain⟨sd,hsd⟩:∃ sd,strOfNums [v,kk,k2,1]=sd:=⟨_,rfl⟩
 obtain⟨W0,hW0⟩:∃ W0,(w.alloc (.cells #[.int .i64 0,.bool true,.int .i64 page,.string ⟨#[]⟩,.int .i64 0,.string ⟨#[]⟩] 32)).alloc (.cells #[.int .u8 v,.int .u8 kk,.int .u8 k2,.int .u8 1] 5)=W0:=⟨_,rfl⟩
 have hcv:∀ dst,Tryx.prog.underlying dst=some .string->(convert 41 dst (.slice (some ⟨w.heap.size+1,0,none⟩) 4 4)).run Tryx.prog W0=.ok (.string sd) W0:=by
  rw[<-hsd]
  have hb:W0.heap[w.heap.size+1]?=some (.cells #[.int .u8 v,.int .u8 kk,.int .u8 k2,.int .u8 1] 5 (0,0)):=by
   rw[<-hW0,show w.heap.size+1=(w.alloc (.cells #[.int .i64 0,.bool true,.int .i64 page,.string ⟨#[]⟩,.int .i64 0,.string ⟨#[]⟩] 32)).heap.size from by simp];exact World.alloc_heap_new _ _
  refine run_convert_bytes_arg (P:=Tryx.prog) W0 41 5 Tryx.underlying41 Tryx.underlying5 (w.heap.size+1) 0 4 4 [v,kk,k2,1] rfl fun i hi=>?_
  refine cell_of hb ?_
  match i,hi with
  | 0,_=>rfl
  | 1,_=>rfl
  | 2,_=>rfl
  | 3,_=>rfl
 have hcv2:=hcv 9 Tryx.underlying9
 rw[<-hW0]at hcv2
 have c0:=h.c0
 have c1:=h.c1
 rw[hn]at c1
 have HK:=Lib.hid h
 have HG:=Lib.hid hg
 have hwlt:=lt_of_heap h.blk
 have HW0:=Lib.hid hW0
 clear h hg hW0 hcv hd4 hdl
 go_enter Tryx.func14,Tryz.ntmps14
 go_wp2_with fail
 obtain⟨WA,hWA⟩:∃ WA,(w.alloc (.cells #[.int .i64 0,.bool true,.int .i64 page,.string sd,.int .i64 0,.string ⟨#[]⟩] 32)).alloc (.cells #[.int .u8 v,.int .u8 kk,.int .u8 k2,.int .u8 1] 5)=WA:=⟨_,rfl⟩
 have hsA:WA.heap.size=w.heap.size+2:=by rw[<-hWA];simp
 have hB0:Below w.heap.size w WA:=by rw[<-hWA];exact ((Below.refl _ _).alloc (Nat.le_refl _) _).alloc (by simp) _
 have hrA:WA.heap[w.heap.size]?=some (.cells #[.int .i64 0,.bool true,.int .i64 page,.string sd,.int .i64 0,.string ⟨#[]⟩] 32 (0,0)):=by
  rw[<-hWA];exact (Below.heap_alloc _ _ _ (by simp)).trans (World.alloc_heap_new w _)
 have hbA:WA.heap[w.heap.size+1]?=some (.cells #[.int .u8 v,.int .u8 kk,.int .u8 k2,.int .u8 1] 5 (0,0)):=by
  rw[<-hWA,show w.heap.size+1=(w.alloc (.cells #[.int .i64 0,.bool true,.int .i64 page,.string sd,.int .i64 0,.string ⟨#[]⟩] 32)).heap.size from by simp];exact World.alloc_heap_new _ _
 have hdat:DatV WA (.slice (some ⟨w.heap.size+1,0,none⟩) 4 4) ⟨v,kk,k2,1⟩:=.four _ _ _ _ (cell_of hbA rfl) (cell_of hbA rfl) (cell_of hbA rfl) (cell_of hbA rfl)
 have hKA:=HK.out.below hB0
 have HKA:=Lib.hid hKA
 have HGA:=Lib.hid (HG.out.chg (chgB hB0 fun _=>False) fun x=>x)
 have HB0:=Lib.hid hB0
 have HR0:=Lib.hid hrA
 have HDA:=Lib.hid hdat
 have hwlt0:=lt_of_heap hKA.blk
 rw[hWA]
 clear hWA hB0 hrA hbA hdat hKA hcv2
 refine (write_p HKA.out.que hk hs HGA.out (fun x=>hF x.1) hh page hp _ 4 _ HDA.out).mono ?_
 rintro x w1 ⟨rfl,hq1,hc1⟩
 have hr1:=(hc1.block w.heap.size (by omega) (by omega)).trans HR0.out
 have r0:w1.cell? ⟨w.heap.size,0,none⟩=some (.int .i64 0):=cell_of hr1 rfl
 have r1:w1.cell? ⟨w.heap.size,1,none⟩=some (.bool true):=cell_of hr1 rfl
 have r2:w1.cell? ⟨w.heap.size,2,none⟩=some (.int .i64 page):=cell_of hr1 rfl
 have r3:w1.cell? ⟨w.heap.size,3,none⟩=some (.string sd):=cell_of hr1 rfl
 have r4:w1.cell? ⟨w.heap.size,4,none⟩=some (.int .i64 0):=cell_of hr1 rfl
 have r5:w1.cell? ⟨w.heap.size,5,none⟩=some (.string ⟨#[]⟩):=cell_of hr1 rfl
 have rf:∀ i,w1.frozen? ⟨w.heap.size,i,none⟩=false:=fun i=>free_of hr1
 have hK1:=HKA.out.que' hc1 hq1 fun k hk=>hk.imp id fun h=>by omega
 have hrl:=lt_of_heap hr1
 have d0:=hK1.c0
 have d1:=hK1.c1
 have df:=hK1.free
 have HK1:=Lib.hid hK1
 have HC1:=Lib.hid hc1
 have HR1:=Lib.hid hr1
 clear hK1 hc1 hr1 hq1
 go_wp2_with fail
 obtain⟨W2,hW2⟩:∃ W2,(w1.setCell ⟨w.heap.size,0,none⟩ (.int .i64 (n+1))).alloc (.cells #[.int .i64 0,.int .i64 (-1),.int .i64 0,.bool true] 39)=W2:=⟨_,rfl⟩
 have hc2:Chg (fun k=>k=w.heap.size) w1 W2:=by rw[<-hW2];exact (chg_set _).alloc _
 have hr2:W2.heap[w.heap.size]?=some (.cells #[.int .i64 (n+1),.bool true,.int .i64 page,.string sd,.int .i64 0,.string ⟨#[]⟩] 32 (0,0)):=by
  rw[<-hW2]
  exact (Below.heap_alloc _ _ _ (by simpa[World.setCell]using hrl)).trans (heap_setCell (i:=0) _ HR1.out)
 have hK2:=HK1.out.kept hc2 fun k hk e=>by
  rcases hk with h | h | h
  ·rcases h with ⟨_,h⟩ | h <;> omega
  ·omega
  ·obtain⟨cur,hcur⟩:=own_heap HK.out.row h
   have:=lt_of_heap hcur;omega
 rw[hW2]
 have HK2:=Lib.hid hK2
 have HR2:=Lib.hid hr2
 have HC2:=Lib.hid hc2
 clear hK2 hr2 hc2 hW2 r0 r1 r2 r3 r4 r5 rf d0 d1 df
 refine (fine_yes W2).mono ?_
 rintro x w3 ⟨rfl,hB3⟩
 have hr3:=(hB3.block _ (lt_of_heap HR2.out)).trans HR2.out
 have hK3:=HK2.out.below hB3
 have d0:=hK3.c0
 have d1:=hK3.c1
 have df:=hK3.free
 have r0:w3.cell? ⟨w.heap.size,0,none⟩=some (.int .i64 (n+1)):=cell_of hr3 rfl
 have r1:w3.cell? ⟨w.heap.size,1,none⟩=some (.bool true):=cell_of hr3 rfl
 have r2:w3.cell? ⟨w.heap.size,2,none⟩=some (.int .i64 page):=cell_of hr3 rfl
 have r3:w3.cell? ⟨w.heap.size,3,none⟩=some (.string sd):=cell_of hr3 rfl
 have r4:w3.cell? ⟨w.heap.size,4,none⟩=some (.int .i64 0):=cell_of hr3 rfl
 have r5:w3.cell? ⟨w.heap.size,5,none⟩=some (.string ⟨#[]⟩):=cell_of hr3 rfl
 have hwlt3:=lt_of_heap hK3.blk
 have hrl3:=lt_of_heap hr3
 have hrow:=hK3.row
 have hneb:∀ k,(Value.slice ra n rc).ownBlock=some k->wo≠k:=fun k hk=>by
  rw[<-hn]at hk;exact hK3.ne hk
 rw[hn]at d1 hrow
 have hwn:IntKind.i64.wrap ((n:Int)+1)=(n:Int)+1:=by
  have:=hs.last
  rw[IntKind.wrap_i64];omega
 have HK3:=Lib.hid hK3
 have HB3:=Lib.hid hB3
 clear hK3 hB3 hr3
 go_wp2_with fail
 go_quiet (fail)
 go_wp2_with fail
 obtain⟨W4,hW4⟩:∃ W4,w3.drewN nq=W4:=⟨_,rfl⟩
 have hB4:Below w3.heap.size w3 W4:=by rw[<-hW4];exact below_drewN (Below.refl _ _) _
 have hK4:=HK3.out.below hB4
 have hr4:=(hB4.block _ hrl3).trans ((HB3.out.block _ (lt_of_heap HR2.out)).trans HR2.out)
 have d0':=hK4.c0
 have d1':=hK4.c1
 have df':=hK4.free
 have u0:W4.cell? ⟨w.heap.size,0,none⟩=some (.int .i64 (n+1)):=cell_of hr4 rfl
 have u1:W4.cell? ⟨w.heap.size,1,none⟩=some (.bool true):=cell_of hr4 rfl
 have u2:W4.cell? ⟨w.heap.size,2,none⟩=some (.int .i64 page):=cell_of hr4 rfl
 have u3:W4.cell? ⟨w.heap.size,3,none⟩=some (.string sd):=cell_of hr4 rfl
 have u4:W4.cell? ⟨w.heap.size,4,none⟩=some (.int .i64 0):=cell_of hr4 rfl
 have u5:W4.cell? ⟨w.heap.size,5,none⟩=some (.string ⟨#[]⟩):=cell_of hr4 rfl
 have hrow4:=hK4.row
 rw[hn]at d1' hrow4
 have hwlt4:=lt_of_heap hK4.blk
 have hrl4:=lt_of_heap hr4
 have HK4:=Lib.hid hK4
 have HB4:=Lib.hid hB4
 rw[hW4]
 clear hW4 hK4 hB4 hr4 d0 d1 df r0 r1 r2 r3 r4 r5
 obtain⟨i4,hi4,hz40,hz41,hz42⟩:=info_parts Tryz.infoQ
 have ag:(Value.slice ra n rc).ownBlock≠some wo:=fun h=>hneb wo h rfl
 have hnl:n<=900000:=by have:=hs.last;omega
 have n1:=World.new_ne W4 _ d1'
 have n2:=World.new_ne W4 _ u0
 go_region_law
  ((refine step_append_lies _ (by rfl) _ _ _ (by rfl) 0 32 i4 _ 6 64 Tryx.underlying34 hi4 hz40 hz41 hz42 rfl (by omega) (.slice ra n rc) n _ (by rfl) ((hrow4.alloc _).drew)
     ⟨W4.heap.size,0,none⟩ 1 1 [.int .i64 (n+1),.bool true,.int .i64 page,.string sd,.int .i64 0,.string ⟨#[]⟩] (by rfl) (by rfl) (World.news_of_block (cs:=#[.int .i64 (n+1),.bool true,.int .i64 page,.string sd,.int .i64 0,.string ⟨#[]⟩]) (t:=32) (fr:=(0,0)) (heap_alloc_new W4 _)) (by simp[Value.oneCell'])
     (by omega) (by unfold maxLen;omega) (by omega) (by omega) (W4.heap.size+1) (by simp) ?_;intro gg cap2 w5 hown5 hgrow hat hltg
    have z2:=hgrow.cell (a:=⟨wo,1,none⟩) (v:=.slice ra n rc) (by go_keep) (fun h=>ag h.symm)
    have z3:=grown_free hgrow (a:=⟨wo,1,none⟩) (v:=.slice ra n rc) (by go_keep) (by simp[*,frozen?_alloc_cells]) (fun h=>ag h.symm)))
 all_goals
  have hg1:Below W4.heap.size W4 (((W4.alloc (.cells #[.int .i64 (n+1),.bool true,.int .i64 page,.string sd,.int .i64 0,.string ⟨#[]⟩] 32)).drew)):=by go_grown
  have hKB:KB W4 wo q (.slice ra n rc) _ _ rs:=hn ▸ HK4.out
  obtain⟨f1,f2⟩:=hKB.push hn hg1 (r:=newK (n+1) true page sd) hown5 hgrow hat
  have HF1:=Lib.hid f1
  have HF2:=Lib.hid f2
  clear f1 f2 hKB hg1 hown5 hgrow
  go_wp2_with fail
  go_ret
  refine⟨rfl,.slice (some ⟨gg,0,none⟩) (n+1) cap2,_,HF1.out,?_,?_⟩
  ·rintro k (h | h | h)
   ·rcases h.1 with h | h
    ·exact .inl (.inl h.1)
    ·exact .inr (by omega)
   ·exact .inl (.inr (.inl h))
   ·simp[Value.ownBlock]at h
    subst h
    rcases hat with e | e
    ·exact .inl (.inr (.inr e))
    ·exact .inr (by have:=HB4.out.size;have:=HB3.out.size;have:=HC2.out.size;omega)
  ·have g1:Chg (KFoot wo (.slice ra n rc) F) w w1:=(chgB HB0.out _).then (HC1.out.mono fun k _ hk=>.inl hk.1)
   have g2:Chg (KFoot wo (.slice ra n rc) F) w W4:=((g1.trans (HC2.out.mono fun k _ hk=>.inr (by omega))).of_below HB3.out).of_below HB4.out
   exact g2.then (HF2.out.mono fun k _ hk=>hk.elim (fun e=>.inr (.inl e)) fun e=>.inr (.inr e))
end
section
theorem askD_ok{v:Int}(hv:0<=v/\v<=255)(n:Nat):BOk (askD v n):=by
 unfold askD BOk
 simp only
 omega
theorem b0_ok:BOk ⟨0,0,0,0⟩:=by unfold BOk;simp only;omega
theorem complete_same{t t':St}{k:Nat}{fault:Bool}(h:t.complete k fault=some t'):t'.last=t.last/\t'.now=t.now/\t'.held=t.held:=by
 unfold St.complete at h
 split at h
 ·cases h
 ·simp only[Option.some.injEq]at h
  subst h
  rename_i c _
  obtain⟨_,_,_,a4,a5,a6⟩:=lands_same fault c.nums {t with cs:=t.cs.eraseIdx k}
  exact⟨a5,a4,a6⟩
def bytesOf(d:B4):ByteArray:=strOfNums [d.a,d.b,d.c,d.d]
end
section
open Go.RowKit Go.Shelf Go.Lib
structure KW where
 rs:List KReq
 t:St
def St.step(t:St):St:=match t.cmd with
 | none=>t
 | some c=>t.sent c
def St.comp(t:St)(k:Nat)(fault:Bool):St:=(t.complete k fault).getD t
def St.flies(t:St)(n:Int):Bool:=t.cs.any fun c=>c.nums.any (· == n)
namespace KW
def askR(x:KW)(page:Int):KW:=if 40<=x.t.held then x else ⟨x.rs ++ [newK (x.t.last+1) false page ⟨#[]⟩],x.t.add false page ⟨0,0,0,0⟩⟩
def askW(x:KW)(page v:Int):KW:=if 40<=x.t.held then x else ⟨x.rs ++ [newK (x.t.last+1) true page (strOfNums (askL v x.rs.length))],x.t.add true page (askD v x.rs.length)⟩
def pollR(r:KReq)(o:Req):KReq:=if o.state=2 then {r with how:=1,read:=if o.write then ⟨#[]⟩ else bytesOf o.data} else if o.state=3 then {r with how:=2} else r
def poll(x:KW)(i:Nat):KW:=
 match x.rs[i]? with
 | none=>x
 | some r=>if r.how=1\/r.how=2 then x else
   match x.t.find r.num with
   | none=>x
   | some o=>if o.state<2 then x else ⟨x.rs.set i (pollR r o),x.t.tell r.num⟩
def cancel(x:KW)(i:Nat):KW:=
 match x.rs[i]? with
 | none=>x
 | some r=>
   match x.t.find r.num with
   | none=>x
   | some o=>if o.state<2 then ⟨x.rs.set i {r with how:=if x.t.flies r.num then 4 else 3},x.t.give r.num⟩ else x
def act(x:KW)(b:Nat):KW:=
 if b % 12<3 then x.askR ((b / 12 % 8:Nat):Int)
 else if b % 12<6 then x.askW ((b / 12 % 8:Nat):Int) (b:Int)
 else if b % 12<8 then ⟨x.rs,x.t.step⟩
 else if b % 12<10 then ⟨x.rs,x.t.comp (b / 12 % 3) (decide (b / 12 % 5=4))⟩
 else if b % 12=10 then
  if 0<x.rs.length/\b / 12 % 2=0 then (⟨x.rs,x.t.tick⟩:KW).poll (b / 12*7 % x.rs.length)else ⟨x.rs,x.t.tick⟩
 else if 0<x.rs.length/\b / 12 % 3=0 then x.cancel (b / 12*5 % x.rs.length)
 else if 0<x.rs.length then x.poll (x.rs.length - 1 - b / 12 % x.rs.length)
 else x
end KW
structure Tu(o o':Req):Prop where
 num:o'.num=o.num
 told:o'.told=o.told
 write:o'.write=o.write
 page:o'.page=o.page
 data:o.write=true->o'.data=o.data
 four:o'.state=4↔o.state=4
theorem Tu.refl(o:Req):Tu o o:=⟨rfl,rfl,rfl,rfl,fun _=>rfl,Iff.rfl⟩
theorem Tu.trans{a b c:Req}(h:Tu a b)(g:Tu b c):Tu a c:=
 ⟨g.num.trans h.num,g.told.trans h.told,g.write.trans h.write,g.page.trans h.page,fun hw=>(g.data (h.write.trans hw)).trans (h.data hw),g.four.trans h.four⟩
structure Tur(l l':List Req):Prop where
 back:∀ o'∈l',∃ o∈l,Tu o o'
 on:∀ o∈l,o.told=false->∃ o'∈l',Tu o o'
theorem Tur.refl(l:List Req):Tur l l:=⟨fun o h=>⟨o,h,.refl o⟩,fun o h _=>⟨o,h,.refl o⟩⟩
theorem Tur.trans{a b c:List Req}(h:Tur a b)(g:Tur b c):Tur a c:=
 ⟨fun o ho=>by
   obtain⟨o1,h1,h2⟩:=g.back o ho
   obtain⟨o2,h3,h4⟩:=h.back o1 h1
   exact⟨o2,h3,h4.trans h2⟩,fun o ho ht=>by
   obtain⟨o1,h1,h2⟩:=h.on o ho ht
   obtain⟨o2,h3,h4⟩:=g.on o1 h1 (h2.told.trans ht)
   exact⟨o2,h3,h2.trans h4⟩⟩
theorem Tur.map{l:List Req}(f:Req->Req)(p:Req->Bool)(hf:∀ o∈l,Tu o (f o))(hp:∀ o∈l,o.told=false->p (f o)=true):Tur l ((l.map f).filter p):=
 ⟨fun o' h=>by
   obtain⟨h1,_⟩:=List.mem_filter.1 h
   obtain⟨o,ho,rfl⟩:=List.mem_map.1 h1
   exact⟨o,ho,hf o ho⟩,fun o ho ht=>⟨f o,List.mem_filter.2 ⟨List.mem_map_of_mem ho,hp o ho ht⟩,hf o ho⟩⟩
def Dn(l:List Req):Prop:=∀ o∈l,(o.state=2->1<=o.tries)/\(o.state=3->o.tries=4)
theorem tu_land{now:Int}{disk:List Int}{fault:Bool}{o:Req}:Tu o (St.landR now disk fault o):=by
 obtain⟨h1,h2,h3,_,h5⟩:=landR_num now disk fault o
 refine⟨h1,h5,h3,h2,fun hw=>?_,?_⟩
 ·unfold St.landR
  simp only[hw,Bool.not_true,Bool.and_false,Bool.false_eq_true,if_false]
  repeat' split
  all_goals rfl
 ·unfold St.landR
  simp only
  split
  ·rename_i h
   split
   ·simp[h]
   ·split <;> simp[h]
  ·rfl
theorem tur_land{t:St}(fault:Bool)(n:Int):Tur t.rs (t.land fault n).rs:=by
 unfold St.land
 split
 ·exact .refl _
 ·simp only
  refine Tur.map _ _ (fun o _=>?_) fun o _ ht=>?_
  ·split
   ·exact tu_land
   ·exact .refl o
  ·split
   ·rw[tu_land.told,ht];simp
   ·rw[ht];simp
theorem dn_land{t:St}{n:Int}{air:List Int}(h:t.OkA (n :: air))(hd:Dn t.rs)(fault:Bool):Dn (t.land fault n).rs:=by
 unfold St.land
 split
 ·exact hd
 ·intro o' ho'
  simp only at ho'
  obtain⟨h1,_⟩:=List.mem_filter.1 ho'
  obtain⟨o,ho,rfl⟩:=List.mem_map.1 h1
  have hk:=h.rs.ok o ho
  have hdo:=hd o ho
  split
  ·unfold St.landR
   simp only
   split
   ·rename_i h1'
    have h3:=hk.try3 (by simp[Req.live,hk.uair h1'])
    have h4:=hk.tries
    split
    ·simp;omega
    ·split
     ·simp;omega
     ·simp
   ·rename_i h1'
    simp only
    have h4:=hk.tries
    constructor
    ·intro h2;have:=hdo.1 h2;omega
    ·intro h2
     exfalso
     rename_i hn
     obtain⟨r,hr,hrn,hra⟩:=h.rs.fly n (by simp)
     have:r=o:=rnum_inj h.rs.nums hr ho (by omega)
     subst this
     have:=hk.air hra
     omega
  ·exact hdo
theorem lands_turn(fault:Bool):∀ (ns:List Int) (t:St) (air:List Int),t.OkA (ns ++ air)->Dn t.rs->Tur t.rs (ns.foldl (St.land fault) t).rs/\Dn (ns.foldl (St.land fault) t).rs
 | [],_,_,_,hd=>⟨.refl _,hd⟩
 | n :: ns,t,air,h,hd=>by
   obtain⟨h1,h2⟩:=lands_turn fault ns (t.land fault n) air (okA_land (air:=ns ++ air) h fault) (dn_land (air:=ns ++ air) h hd fault)
   exact⟨(tur_land fault n).trans h1,h2⟩
theorem okA_erase{t:St}(h:t.Ok){k:Nat}{c:Cmd}(hck:t.cs[k]?=some c):({t with cs:=t.cs.eraseIdx k}:St).OkA (c.nums ++ ((t.cs.eraseIdx k).flatMap (·.nums))):=by
 obtain⟨hlt,hck3⟩:=List.getElem?_eq_some_iff.1 hck
 have hperm:(t.cs.flatMap (·.nums)).Perm (c.nums ++ (t.cs.eraseIdx k).flatMap (·.nums)):=by
  have:=(perm_erase hlt hck3).flatMap_right (·.nums)
  simpa using this
 exact⟨h.a.depth,h.a.head,h.a.dlen,h.a.dbyte,h.a.last,h.a.now,⟨h.a.rs.nums,h.a.rs.num,h.a.rs.ok,hperm.nodup_iff.1 h.a.rs.nodup,fun n hn=>h.a.rs.fly n (hperm.mem_iff.2 hn),fun r hr ha=>hperm.mem_iff.1 (h.a.rs.airs r hr ha),h.a.rs.free⟩,h.a.held,h.a.h40,h.a.soon⟩
theorem complete_turn{t t':St}(h:t.Ok)(hd:Dn t.rs){k:Nat}{fault:Bool}(hc:t.complete k fault=some t'):Tur t.rs t'.rs/\Dn t'.rs:=by
 unfold St.complete at hc
 cases hck:t.cs[k]? with
 | none=>rw [hck]at hc;cases hc
 | some c=>
   rw[hck]at hc
   simp only[Option.some.injEq]at hc
   subst hc
   exact lands_turn fault c.nums _ _ (okA_erase h hck) hd
theorem sent_turn{t:St}(h:t.Ok)(hd:Dn t.rs){c:Cmd}(hc:t.cmd=some c):Tur t.rs (t.sent c).rs/\Dn (t.sent c).rs:=by
 obtain⟨_,f,l,hsel,_,hnums⟩:=cmd_some h.a.head hc
 have hz:∀ o∈t.rs,o.num∈c.nums->o.state=0:=fun o ho hn=>by
  rw[hnums]at hn
  have:=Sel.numsIn h.a.rs.nums hsel ho hn
  exact (mem_readyR (hsel.mem o this).1).2.1
 have hm:(t.sent c).rs=t.rs.map fun r=>if r.num∈c.nums then sentR r else r:=rfl
 constructor
 ·have hfil:(t.sent c).rs=(t.rs.map fun r=>if r.num∈c.nums then sentR r else r).filter fun _=>true:=hm.trans (List.filter_eq_self.2 fun _ _=>rfl).symm
  rw[hfil]
  refine Tur.map _ _ (fun o ho=>?_) fun _ _ _=>rfl
  split
  ·rename_i hn
   have:=hz o ho hn
   exact⟨rfl,rfl,rfl,rfl,fun _=>rfl,by simp[sentR,this]⟩
  ·exact .refl o
 ·rw[hm]
  intro o' ho'
  obtain⟨o,ho,rfl⟩:=List.mem_map.1 ho'
  split
  ·simp[sentR]
  ·exact hd o ho
structure KInv(x:KW):Prop where
 ok:x.t.Ok
 last:x.t.last=x.rs.length
 num:∀ (i:Nat) r,x.rs[i]?=some r->r.num=(i:Int)+1
 how:∀ r∈x.rs,0<=r.how/\r.how<=4
 page:∀ r∈x.rs,0<=r.page/\r.page<16
 live:∀ r∈x.rs,∀ o∈x.t.rs,o.num=r.num->o.told=false->r.how≠1/\r.how≠2/\(r.how=0↔o.state≠4)
 left:∀ r∈x.rs,r.how=0->∃ o∈x.t.rs,o.num=r.num/\o.told=false
 same:∀ r∈x.rs,∀ o∈x.t.rs,o.num=r.num->o.write=r.write/\o.page=r.page/\(o.write=true->r.data=bytesOf o.data)
 done:Dn x.t.rs
theorem kinv_new{d:Nat}(h:1<=d/\d<=4):KInv ⟨[],St.new d⟩:=by
 refine⟨ok_new h,rfl,fun i r h=>?_,?_,?_,?_,?_,?_,?_⟩
 ·simp at h
 all_goals exact fun _ h=>(List.not_mem_nil h).elim
theorem KInv.turn{x:KW}(h:KInv x){t':St}(hok:t'.Ok)(hl:t'.last=x.t.last)(ht:Tur x.t.rs t'.rs)(hd:Dn t'.rs):KInv ⟨x.rs,t'⟩:=by
 refine⟨hok,hl.trans h.last,h.num,h.how,h.page,fun r hr o' ho' hn htold=>?_,fun r hr h0=>?_,fun r hr o' ho' hn=>?_,hd⟩
 ·obtain⟨o,ho,e⟩:=ht.back o' ho'
  have:=h.live r hr o ho (e.num.symm.trans hn) (e.told.symm.trans htold)
  refine⟨this.1,this.2.1,this.2.2.trans (not_congr e.four.symm)⟩
 ·obtain⟨o,ho,hon,hot⟩:=h.left r hr h0
  obtain⟨o',ho',e⟩:=ht.on o ho hot
  exact⟨o',ho',e.num.trans hon,e.told.trans hot⟩
 ·obtain⟨o,ho,e⟩:=ht.back o' ho'
  obtain⟨s1,s2,s3⟩:=h.same r hr o ho (e.num.symm.trans hn)
  exact⟨e.write.trans s1,e.page.trans s2,fun hw=>by have hw':=e.write.symm.trans hw;rw[s3 hw',e.data hw']⟩
theorem KInv.step{x:KW}(h:KInv x):KInv ⟨x.rs,x.t.step⟩:=by
 unfold St.step
 split
 ·exact h
 ·rename_i c hc
  obtain⟨h1,h2⟩:=sent_turn h.ok h.done hc
  exact h.turn (ok_sent h.ok hc) rfl h1 h2
theorem KInv.comp{x:KW}(h:KInv x)(k:Nat)(fault:Bool):KInv ⟨x.rs,x.t.comp k fault⟩:=by
 unfold St.comp
 cases hc:x.t.complete k fault with
 | none=>exact h
 | some t'=>
   obtain⟨h1,h2⟩:=complete_turn h.ok h.done hc
   exact h.turn (ok_complete h.ok hc) (complete_same hc).1 h1 h2
theorem KInv.tick{x:KW}(h:KInv x):KInv ⟨x.rs,x.t.tick⟩:=h.turn (ok_tick h.ok) rfl (.refl _) h.done
theorem KInv.mem_num{x:KW}(h:KInv x){i:Nat}{r:KReq}(hi:x.rs[i]?=some r):r∈x.rs/\r.num=(i:Int)+1:=⟨List.mem_of_getElem? hi,h.num i r hi⟩
theorem KInv.num_le{x:KW}(h:KInv x){r:KReq}(hr:r∈x.rs):1<=r.num/\r.num<=x.t.last:=by
 obtain⟨i,hi⟩:=List.getElem?_of_mem hr
 have h1:=(List.getElem?_eq_some_iff.1 hi).1
 have:=h.num i r hi
 rw[h.last];omega
theorem KInv.push{x:KW}(h:KInv x)(hh:x.t.held<40)(w:Bool)(p:Int)(hp:0<=p/\p<16)(d:B4)(hd:BOk d)(dat:ByteArray)(hdat:w=true->dat=bytesOf d):KInv ⟨x.rs ++ [newK (x.t.last+1) w p dat],x.t.add w p d⟩:=by
 have hlast:=h.last
 refine⟨ok_add h.ok hh w p hp d hd,by simp[St.add];omega,fun i r hi=>?_,fun r hr=>?_,fun r hr=>?_,fun r hr o ho hn ht=>?_,fun r hr h0=>?_,fun r hr o ho hn=>?_,fun o ho=>?_⟩
 ·by_cases hlt:i<x.rs.length
  ·rw[List.getElem?_append_left hlt]at hi;exact h.num i r hi
  ·rw[List.getElem?_append_right (by omega)]at hi
   have h0:i - x.rs.length=0:=by
    have:=(List.getElem?_eq_some_iff.1 hi).1
    simp at this;omega
   rw[h0]at hi
   simp at hi
   subst hi
   simp only[newK];omega
 ·rcases List.mem_append.1 hr with hr | hr
  ·exact h.how r hr
  ·simp at hr;subst hr;simp[newK]
 ·rcases List.mem_append.1 hr with hr | hr
  ·exact h.page r hr
  ·simp at hr;subst hr;simpa[newK]using hp
 ·simp only[St.add]at ho
  rcases List.mem_append.1 hr with hr | hr <;> rcases List.mem_append.1 ho with ho | ho
  ·exact h.live r hr o ho hn ht
  ·simp at ho;subst ho
   have:=h.num_le hr
   simp[newReq]at hn;omega
  ·simp at hr;subst hr
   have:=h.ok.a.rs.num o ho
   simp[newK]at hn;omega
  ·simp at hr ho;subst hr ho
   simp[newK,newReq]
 ·rcases List.mem_append.1 hr with hr | hr
  ·obtain⟨o,ho,h1,h2⟩:=h.left r hr h0
   exact⟨o,List.mem_append_left _ ho,h1,h2⟩
  ·simp at hr;subst hr
   exact⟨newReq (x.t.last+1) w p d,List.mem_append_right _ (by simp),rfl,rfl⟩
 ·simp only[St.add]at ho
  rcases List.mem_append.1 hr with hr | hr <;> rcases List.mem_append.1 ho with ho | ho
  ·exact h.same r hr o ho hn
  ·simp at ho;subst ho
   have:=h.num_le hr
   simp[newReq]at hn;omega
  ·simp at hr;subst hr
   have:=h.ok.a.rs.num o ho
   simp[newK]at hn;omega
  ·simp at hr ho;subst hr ho
   exact⟨rfl,rfl,fun hw=>hdat hw⟩
 ·simp only[St.add]at ho
  rcases List.mem_append.1 ho with ho | ho
  ·exact h.done o ho
  ·simp at ho;subst ho;simp[newReq]
theorem KInv.askR{x:KW}(h:KInv x)(p:Int)(hp:0<=p/\p<16):KInv (x.askR p):=by
 unfold KW.askR
 split
 ·exact h
 ·exact h.push (by omega) false p hp _ b0_ok _ (by simp)
theorem KInv.askW{x:KW}(h:KInv x)(p v:Int)(hp:0<=p/\p<16)(hv:0<=v/\v<=255):KInv (x.askW p v):=by
 unfold KW.askW
 split
 ·exact h
 ·exact h.push (by omega) true p hp _ (askD_ok hv _) _ fun _=>rfl
theorem KInv.one{x:KW}(h:KInv x){i:Nat}{r r':KReq}(hi:x.rs[i]?=some r){t':St}(hok:t'.Ok)(hl:t'.last=x.t.last)(hn':r'.num=r.num)(hh:0<=r'.how/\r'.how<=4)(hp:r'.page=r.page)(hw:r'.write=r.write)(hd:r'.data=r.data)
  (hoth:∀ o,o.num≠r.num->(o∈t'.rs↔o∈x.t.rs)) (hdn:Dn t'.rs)
  (hlive:∀ o∈t'.rs,o.num=r.num->o.told=false->r'.how≠1/\r'.how≠2/\(r'.how=0↔o.state≠4)) (hleft:r'.how=0->∃ o∈t'.rs,o.num=r.num/\o.told=false)
  (hsame:∀ o∈t'.rs,o.num=r.num->∃ o0∈x.t.rs,o0.num=r.num/\o.write=o0.write/\o.page=o0.page/\o.data=o0.data):KInv ⟨x.rs.set i r',t'⟩:=by
 have hnum:=h.mem_num hi
 have hil:=(List.getElem?_eq_some_iff.1 hi).1
 have hcase:∀ y∈x.rs.set i r',y=r'\/(y∈x.rs/\y.num≠r.num):=fun y hy=>by
  obtain⟨j,hj⟩:=List.getElem?_of_mem hy
  by_cases hij:i=j
  ·subst hij
   rw[List.getElem?_set_self hil]at hj
   left;simpa using hj.symm
  ·rw[List.getElem?_set_ne hij]at hj
   right
   refine⟨List.mem_of_getElem? hj,?_⟩
   have:=h.num j y hj
   omega
 refine⟨hok,?_,fun j y hj=>?_,fun y hy=>?_,fun y hy=>?_,fun y hy o ho hn ht=>?_,fun y hy h0=>?_,fun y hy o ho hn=>?_,hdn⟩
 ·simp only[List.length_set];rw[hl,h.last]
 ·by_cases hij:i=j
  ·subst hij
   rw[List.getElem?_set_self hil]at hj
   simp at hj;subst hj;rw[hn',hnum.2]
  ·rw[List.getElem?_set_ne hij]at hj
   exact h.num j y hj
 ·rcases hcase y hy with rfl |⟨hy,_⟩
  ·exact hh
  ·exact h.how y hy
 ·rcases hcase y hy with rfl |⟨hy,_⟩
  ·rw[hp];exact h.page r hnum.1
  ·exact h.page y hy
 ·rcases hcase y hy with rfl |⟨hy,hne⟩
  ·exact hlive o ho (hn.trans hn') ht
  ·exact h.live y hy o ((hoth o (by omega)).1 ho) hn ht
 ·rcases hcase y hy with rfl |⟨hy,hne⟩
  ·obtain⟨o,ho,h1,h2⟩:=hleft h0
   exact⟨o,ho,h1.trans hn'.symm,h2⟩
  ·obtain⟨o,ho,h1,h2⟩:=h.left y hy h0
   exact⟨o,(hoth o (by omega)).2 ho,h1,h2⟩
 ·rcases hcase y hy with rfl |⟨hy,hne⟩
  ·obtain⟨o0,ho0,e1,e2,e3,e4⟩:=hsame o ho (hn.trans hn')
   obtain⟨s1,s2,s3⟩:=h.same r hnum.1 o0 ho0 e1
   exact⟨by rw[e2,s1,hw],by rw[e3,s2,hp],fun hw2=>by rw[hd,e4];exact s3 (by rw[<-e2];exact hw2)⟩
  ·exact h.same y hy o ((hoth o (by omega)).1 ho) hn
theorem mem_tell{t:St}{n:Int}{o:Req}:o∈(t.tell n).rs↔(o.num≠n/\o∈t.rs)\/(o.num=n/\o.inAir=true/\∃ o0∈t.rs,o0.num=n/\o=tellR o0):=by
 unfold St.tell St.tellRs
 simp only[List.mem_filter,List.mem_map]
 constructor
 ·rintro⟨⟨o0,h0,h1⟩,h2⟩
  by_cases hn:o0.num=n
  ·rw[if_pos hn]at h1
   subst h1
   right
   refine⟨hn,?_,o0,h0,hn,rfl⟩
   simpa[tellR,hn]using h2
  ·rw[if_neg hn]at h1
   subst h1
   exact .inl ⟨hn,h0⟩
 ·rintro (⟨h1,h2⟩ |⟨h1,h2,o0,h3,h4,rfl⟩)
  ·exact⟨⟨o,h2,by rw[if_neg h1]⟩,by simp[h1]⟩
  ·exact⟨⟨o0,h3,by rw[if_pos h4]⟩,by simp[h2]⟩
theorem KInv.tell{x:KW}(h:KInv x){i:Nat}{r r':KReq}(hi:x.rs[i]?=some r){o:Req}(ho:x.t.find r.num=some o)(hs:2<=o.state)(hn':r'.num=r.num)(hh:1<=r'.how/\r'.how<=4)(hp:r'.page=r.page)(hw:r'.write=r.write)(hd:r'.data=r.data):KInv ⟨x.rs.set i r',x.t.tell r.num⟩:=by
 refine h.one hi (ok_tell h.ok ho hs) rfl hn' ⟨by omega,hh.2⟩ hp hw hd (fun y hy=>?_) (fun y hy=>?_) (fun y hy hn ht=>?_) (fun h0=>by omega) (fun y hy hn=>?_)
 ·rw[mem_tell];simp[hy]
 ·rcases mem_tell.1 hy with ⟨_,hy⟩ |⟨_,_,o0,h0,_,rfl⟩
  ·exact h.done y hy
  ·exact h.done o0 h0
 ·rcases mem_tell.1 hy with ⟨hne,_⟩ |⟨_,_,o0,h0,_,rfl⟩
  ·exact absurd hn hne
  ·simp[tellR]at ht
 ·rcases mem_tell.1 hy with ⟨hne,_⟩ |⟨_,_,o0,h0,h1,rfl⟩
  ·exact absurd hn hne
  ·exact⟨o0,h0,h1,rfl,rfl,rfl⟩
theorem mem_give{t:St}{n:Int}{o:Req}:o∈(t.give n).rs↔(o.num≠n/\o∈t.rs)\/(o.num=n/\∃ o0∈t.rs,o0.num=n/\o=St.giveR o0):=by
 unfold St.give
 simp only[List.mem_map]
 constructor
 ·rintro⟨o0,h0,h1⟩
  by_cases hn:o0.num=n
  ·rw[if_pos hn]at h1
   subst h1
   exact .inr ⟨hn,o0,h0,hn,rfl⟩
  ·rw[if_neg hn]at h1
   subst h1
   exact .inl ⟨hn,h0⟩
 ·rintro (⟨h1,h2⟩ |⟨h1,o0,h3,h4,rfl⟩)
  ·exact⟨o,h2,by rw[if_neg h1]⟩
  ·exact⟨o0,h3,by rw[if_pos h4]⟩
theorem KInv.give{x:KW}(h:KInv x){i:Nat}{r r':KReq}(hi:x.rs[i]?=some r){o:Req}(ho:x.t.find r.num=some o)(hn':r'.num=r.num)(hh:3<=r'.how/\r'.how<=4)(hp:r'.page=r.page)(hw:r'.write=r.write)(hd:r'.data=r.data):KInv ⟨x.rs.set i r',x.t.give r.num⟩:=by
 refine h.one hi (ok_give h.ok ho) rfl hn' ⟨by omega,hh.2⟩ hp hw hd (fun y hy=>?_) (fun y hy=>?_) (fun y hy hn ht=>?_) (fun h0=>by omega) (fun y hy hn=>?_)
 ·rw[mem_give];simp[hy]
 ·rcases mem_give.1 hy with ⟨_,hy⟩ |⟨_,o0,h0,_,rfl⟩
  ·exact h.done y hy
  ·simp[St.giveR]
 ·rcases mem_give.1 hy with ⟨hne,_⟩ |⟨_,o0,h0,_,rfl⟩
  ·exact absurd hn hne
  ·refine⟨by omega,by omega,?_⟩
   simp[St.giveR];omega
 ·rcases mem_give.1 hy with ⟨hne,_⟩ |⟨_,o0,h0,h1,rfl⟩
  ·exact absurd hn hne
  ·exact⟨o0,h0,h1,rfl,rfl,rfl⟩
theorem KInv.find{x:KW}(h:KInv x){r:KReq}(hr:r∈x.rs){o:Req}(ho:x.t.find r.num=some o):r.how≠1/\r.how≠2/\(r.how=0↔o.state≠4)/\o.write=r.write/\o.page=r.page:=by
 obtain⟨h1,h2,h3⟩:=find_some ho
 obtain⟨a,b,c⟩:=h.live r hr o h1 h2 h3
 obtain⟨d,e,_⟩:=h.same r hr o h1 h2
 exact⟨a,b,c,d,e⟩
theorem find_none_mem{t:St}{n:Int}(h:t.find n=none):∀ o∈t.rs,o.num=n->o.told=true:=fun o ho hn=>by
 unfold St.find at h
 have:=List.find?_eq_none.1 h o ho
 simpa[hn]using this
theorem KInv.gone{x:KW}(h:KInv x){r:KReq}(hr:r∈x.rs)(hf:x.t.find r.num=none):r.how≠0:=fun h0=>by
 obtain⟨o,ho,h1,h2⟩:=h.left r hr h0
 have:=find_none_mem hf o ho h1
 rw[h2]at this;cases this
theorem KInv.poll{x:KW}(h:KInv x)(i:Nat):KInv (x.poll i):=by
 unfold KW.poll
 split
 ·exact h
 ·rename_i r hi
  split
  ·exact h
  ·rename_i hn
   split
   ·exact h
   ·rename_i o ho
    split
    ·exact h
    ·rename_i hs
     have hr:=(h.mem_num hi).1
     obtain⟨_,_,h3,_,_⟩:=h.find hr ho
     have h4:=h.how r hr
     have h5:=(h.ok.a.rs.ok o (find_some ho).1).st
     refine h.tell hi ho (by omega) ?_ ?_ ?_ ?_ ?_
     all_goals unfold KW.pollR
     ·split
      ·rfl
      ·split <;> rfl
     ·split
      ·simp
      ·split
       ·simp
       ·omega
     ·split
      ·rfl
      ·split <;> rfl
     ·split
      ·rfl
      ·split <;> rfl
     ·split
      ·rfl
      ·split <;> rfl
theorem KInv.cancel{x:KW}(h:KInv x)(i:Nat):KInv (x.cancel i):=by
 unfold KW.cancel
 split
 ·exact h
 ·rename_i r hi
  split
  ·exact h
  ·rename_i o ho
   split
   ·refine h.give hi ho rfl ?_ rfl rfl rfl
    simp only
    split <;> omega
   ·exact h
theorem KInv.act{x:KW}(h:KInv x)(b:Nat)(hb:b<=255):KInv (x.act b):=by
 unfold KW.act
 repeat' split
 ·exact h.askR _ (by omega)
 ·exact h.askW _ _ (by omega) (by omega)
 ·exact h.step
 ·exact h.comp _ _
 ·exact h.tick.poll _
 ·exact h.tick
 ·exact h.cancel _
 ·exact h.poll _
 ·exact h
structure KOwn(w0 w:World)(wo:Nat)(t:St)(n:Nat):Prop where
 ex:∃ q rv F rs,KB w wo q rv F t rs/\rs.length=n/\∀ k,KFoot wo rv F k->w0.heap.size<=k
 below:Below w0.heap.size w0 w
theorem begun_k(d:Int)(w:World)(hg:ErrVar w)(hd:-9223372036854775808<=d/\d<=9223372036854775807):
  Calls Tryx.prog 12 #[.int .i64 d] w fun x w'=>∃ wo,x=.returned (.tuple #[ptr wo,.bool true])/\KOwn w w' wo (St.new (1+pickI d 4).toNat) 0:=by
 refine (begun_any d w hg hd).mono ?_
 rintro x w' ⟨wo,q,F,rfl,h1,h2,h3,h4⟩
 refine⟨wo,rfl,⟨q,_,F,[],h1,rfl,fun k hk=>?_⟩,h4⟩
 rcases hk with h | h | h
 ·exact h2 k h
 ·omega
 ·cases h
theorem zz_at(w:World):((w.alloc zAns).alloc zErr).heap[w.heap.size]?=some zAns/\((w.alloc zAns).alloc zErr).heap[w.heap.size+1]?=some zErr/\((w.alloc zAns).alloc zErr).heap.size=w.heap.size+2:=by
 refine⟨(Below.heap_alloc _ _ _ (by simp)).trans (World.alloc_heap_new w _),?_,by simp⟩
 rw[show w.heap.size+1=(w.alloc zAns).heap.size from by simp];exact World.alloc_heap_new _ _
theorem zz_below(w:World):Below w.heap.size w ((w.alloc zAns).alloc zErr):=((Below.refl _ _).alloc (Nat.le_refl _) _).alloc (by simp) _
section
variable {q:Nat} {t:St} {F:Nat->Prop} {w:World}
theorem poll_none_p(h:QT w q t F)(hg:ErrVar w)(n:Int)(hf:t.find n=none):
  Calls Tryx.prog 16 #[ptr q,.int .i64 n] w fun x w'=>x=.returned (.tuple #[noAns,plErr 5 (-1) 0])/\Below w.heap.size w w':=by
 obtain⟨z1,z2,z3⟩:=zz_at w
 have hb:=zz_below w
 have h0:=(h.below hb)
 refine (plPoll_of q n 5 (-1) 0 w (fun v tr err w'=>v=.slice none 0 0/\tr=0/\err=errK 5/\Below ((w.alloc zAns).alloc zErr).heap.size ((w.alloc zAns).alloc zErr) w') ?_ ?_).mono ?_
 ·exact (poll_none_c h0 n hf).mono fun x w' ⟨e1,e2⟩=>⟨none,0,0,0,errK 5,e1,rfl,rfl,rfl,e2⟩
 ·rintro v tr err w' ⟨rfl,rfl,rfl,e2⟩
  exact⟨(hg.chg (chgB hb fun _=>False) fun x=>x).chg (chgB e2 fun _=>False) fun x=>x,.kind 5 (by omega),(e2.block _ (by omega)).trans z1,(e2.block _ (by omega)).trans z2⟩
 ·rintro x w' ⟨v,tr,err,w1,rfl,⟨rfl,rfl,rfl,e2⟩,hs,hc⟩
  exact⟨rfl,Chg.below (((chgB hb fun _=>False).of_below e2).trans (hc.mono fun k _ hk=>.inr (by omega)))⟩
theorem poll_pend_p(h:QT w q t F)(hg:ErrVar w)(n:Int)(r:Req)(hf:t.find n=some r)(hs:r.state=0\/r.state=1):
  Calls Tryx.prog 16 #[ptr q,.int .i64 n] w fun x w'=>x=.returned (.tuple #[noAns,plErr 6 n r.tries])/\Below w.heap.size w w':=by
 obtain⟨z1,z2,z3⟩:=zz_at w
 have hb:=zz_below w
 have h0:=(h.below hb)
 refine (plPoll_of q n 6 n r.tries w (fun v tr err w'=>v=.slice none 0 0/\tr=0/\(∃ b,err=errR b/\ReqErr w' b n r.tries 6)/\Below ((w.alloc zAns).alloc zErr).heap.size ((w.alloc zAns).alloc zErr) w') ?_ ?_).mono ?_
 ·exact (poll_pend_c h0 n r hf hs).mono fun x w' ⟨b,e1,e2,e3,e4⟩=>⟨none,0,0,0,errR b,e1,rfl,rfl,⟨b,rfl,e2⟩,e4⟩
 ·rintro v tr err w' ⟨rfl,rfl,⟨b,rfl,hr⟩,e2⟩
  exact⟨(hg.chg (chgB hb fun _=>False) fun x=>x).chg (chgB e2 fun _=>False) fun x=>x,.req b n r.tries 6 (by omega) hr,(e2.block _ (by omega)).trans z1,(e2.block _ (by omega)).trans z2⟩
 ·rintro x w' ⟨v,tr,err,w1,rfl,⟨rfl,rfl,_,e2⟩,hs,hc⟩
  exact⟨rfl,Chg.below (((chgB hb fun _=>False).of_below e2).trans (hc.mono fun k _ hk=>.inr (by omega)))⟩
theorem QT.zz(h:QT w q t F):QT ((w.alloc zAns).alloc zErr) q t fun k=>F k/\k<w.heap.size:=h.lt.below (zz_below w)
theorem chg_zz{S T:Nat->Prop}{w1 w':World}(h1:Chg (fun k=>F k/\k<w.heap.size) ((w.alloc zAns).alloc zErr) w1)(h2:Chg S w1 w')(hF:∀ k,F k->T k)(hS:∀ k,S k->T k\/w.heap.size<=k):Chg T w w':=
 ((chgB (zz_below w) T).then (h1.mono fun k _ hk=>hF k hk.1)).trans (h2.mono fun k _ hk=>hS k hk)
theorem poll_bad_p(h:QT w q t F)(hk:t.Ok)(hsm:t.Small)(hg:ErrVar w)(hF:¬F 0)(n:Int)(r:Req)(k:Int)(hf:t.find n=some r)(hs:(r.state=3/\k=7)\/(r.state=4/\k=8)):
  Calls Tryx.prog 16 #[ptr q,.int .i64 n] w fun x w'=>x=.returned (.tuple #[noAns,plErr k n r.tries])/\QT w' q (t.tell n) F/\Chg F w w':=by
 obtain⟨z1,z2,z3⟩:=zz_at w
 have hb:=zz_below w
 refine (plPoll_of q n k n r.tries w (fun v tr err w'=>v=.slice none 0 0/\tr=0/\(∃ b,err=errR b/\ReqErr w' b n r.tries k)/\QT w' q (t.tell n) (fun k=>F k/\k<w.heap.size)/\Chg (fun k=>F k/\k<w.heap.size) ((w.alloc zAns).alloc zErr) w') ?_ ?_).mono ?_
 ·exact (poll_bad_c h.zz hk hsm n r k hf hs).mono fun x w' ⟨b,e1,e2,e3,e4,e5⟩=>⟨none,0,0,0,errR b,e1,rfl,rfl,⟨b,rfl,e2⟩,e4,e5⟩
 ·rintro v tr err w' ⟨rfl,rfl,⟨b,rfl,hr⟩,e1,e2⟩
  exact⟨(hg.chg (chgB hb fun _=>False) fun x=>x).chg e2 fun x=>hF x.1,.req b n r.tries k (by rcases hs with ⟨_,h⟩ |⟨_,h⟩ <;> omega) hr,(e2.block _ (by omega) (by omega)).trans z1,(e2.block _ (by omega) (by omega)).trans z2⟩
 ·rintro x w' ⟨v,tr,err,w1,rfl,⟨rfl,rfl,_,e1,e2⟩,hs,hc⟩
  exact⟨rfl,(e1.kept hc fun k hk e=>by omega).mono fun k hk=>hk.1,chg_zz e2 hc (fun k x=>x) fun k hk=>.inr (by omega)⟩
theorem poll_write_p(h:QT w q t F)(hk:t.Ok)(hsm:t.Small)(hg:ErrVar w)(hF:¬F 0)(n:Int)(r:Req)(hf:t.find n=some r)(hs:r.state=2)(hw:r.write=true):
  Calls Tryx.prog 16 #[ptr q,.int .i64 n] w fun x w'=>x=.returned (.tuple #[.agg #[.slice none 0 0,.int .i64 r.tries],plErr 0 (-1) 0])/\QT w' q (t.tell n) F/\Chg F w w':=by
 obtain⟨z1,z2,z3⟩:=zz_at w
 have hb:=zz_below w
 refine (plPoll_of q n 0 (-1) 0 w (fun v tr err w'=>v=.slice none 0 0/\tr=r.tries/\err=.nilIface/\QT w' q (t.tell n) (fun k=>F k/\k<w.heap.size)/\Chg (fun k=>F k/\k<w.heap.size) ((w.alloc zAns).alloc zErr) w') ?_ ?_).mono ?_
 ·exact (poll_write_c h.zz hk hsm n r hf hs hw).mono fun x w' ⟨e1,e4,e5⟩=>⟨none,0,0,r.tries,.nilIface,e1,rfl,rfl,rfl,e4,e5⟩
 ·rintro v tr err w' ⟨rfl,rfl,rfl,e1,e2⟩
  exact⟨(hg.chg (chgB hb fun _=>False) fun x=>x).chg e2 fun x=>hF x.1,.nil,(e2.block _ (by omega) (by omega)).trans z1,(e2.block _ (by omega) (by omega)).trans z2⟩
 ·rintro x w' ⟨v,tr,err,w1,rfl,⟨rfl,rfl,rfl,e1,e2⟩,hs,hc⟩
  exact⟨rfl,(e1.kept hc fun k hk e=>by omega).mono fun k hk=>hk.1,chg_zz e2 hc (fun k x=>x) fun k hk=>.inr (by omega)⟩
theorem poll_read_p(h:QT w q t F)(hk:t.Ok)(hsm:t.Small)(hg:ErrVar w)(hF:¬F 0)(n:Int)(r:Req)(hf:t.find n=some r)(hs:r.state=2)(hw:r.write=false):
  Calls Tryx.prog 16 #[ptr q,.int .i64 n] w fun x w'=>∃ v F',x=.returned (.tuple #[.agg #[v,.int .i64 r.tries],plErr 0 (-1) 0])/\QT w' q (t.tell n) F'/\(∀ k,F' k->F k\/w.heap.size<=k)/\(∀ k,v.ownBlock=some k->¬F' k)/\Chg F w w'/\w'.ownsRow w.heap.size 5 1 v 4 (b4Cells r.data):=by
 obtain⟨z1,z2,z3⟩:=zz_at w
 have hb:=zz_below w
 refine (plPoll_of q n 0 (-1) 0 w (fun v tr err w'=>tr=r.tries/\err=.nilIface/\∃ F',QT w' q (t.tell n) F'/\(∀ k,F' k->(F k/\k<w.heap.size)\/w.heap.size+2<=k)/\(∀ k,v.ownBlock=some k->¬F' k)/\Chg (fun k=>F k/\k<w.heap.size) ((w.alloc zAns).alloc zErr) w'/\w'.ownsRow (w.heap.size+2) 5 1 v 4 (b4Cells r.data)) ?_ ?_).mono ?_
 ·refine (poll_read_c h.zz hk hsm n r hf hs hw).mono ?_
  rintro x w' ⟨v,F',e1,e2,e3,e4,e5,e6⟩
  obtain⟨va,vc,rfl⟩:=own_slice e6
  exact⟨va,4,vc,r.tries,.nilIface,e1,rfl,rfl,F',e2,fun k hk=>by have:=e3 k hk;rw[z3]at this;exact this,e4,e5,by rw[z3]at e6;exact e6⟩
 ·rintro v tr err w' ⟨rfl,rfl,F',e1,e2,e3,e4,e5⟩
  exact⟨(hg.chg (chgB hb fun _=>False) fun x=>x).chg e4 fun x=>hF x.1,.nil,(e4.block _ (by omega) (by omega)).trans z1,(e4.block _ (by omega) (by omega)).trans z2⟩
 ·rintro x w' ⟨v,tr,err,w1,rfl,⟨rfl,rfl,F',e1,e2,e3,e4,e5⟩,hs,hc⟩
  refine⟨v,F',rfl,e1.kept hc fun k hk e=>by have:=e2 k hk;omega,fun k hk=>(e2 k hk).imp (fun x=>x.1) fun x=>by omega,e3,chg_zz e4 hc (fun k x=>x) fun k hk=>.inr (by omega),?_⟩
  exact ownsRow_chg (ownsRow_low e5 (by omega)) hc fun k hk hh=>by have:=(e5.lt k hk).1;omega
end
end
end Go.Proofs.YticobikhndlejaaGreatDoor
