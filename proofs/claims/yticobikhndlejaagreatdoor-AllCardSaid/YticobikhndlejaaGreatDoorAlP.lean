/- Part 16 of the proof (see the last part). -/
import Derived.Test.YticobikhndlejaaGreatDoorAlO
namespace Go.Proofs.YticobikhndlejaaGreatDoor
section
open Go.RowKit Go.Shelf Go.Lib
set_option maxRecDepth 100000
set_option maxHeartbeats 8000000
theorem cancel_both(t:St)(hk:t.Ok)(hsm:t.Small)(n:Int):∃ (k r tt:Int) (T:St),((k=9/\r=n)\/(k≠9/\r= -1/\tt=0))/\T.Ok/\T.last=t.last/\T.now=t.now/\
  (∀ (w:World) (q:Nat) (F:Nat->Prop),QT w q t F->ErrVar w->¬F 0->Calls Tryx.prog 15 #[ptr q,.int .i64 n] w fun y w'=>∃ F',y=.returned (plErr k r tt)/\QT w' q T F'/\(∀ k,F' k->F k\/w.heap.size<=k)/\Chg F w w')/\
  (∀ (w:World) (q:Nat) (G:Nat->Prop),RT w q t G->Calls Tryx.prog 83 #[ptr q,.int .i64 n] w fun y w'=>∃ G',y=.returned (.tuple #[.int .i64 k,.int .i64 tt])/\RT w' q T G'/\(∀ k,G' k->G k\/w.heap.size<=k)/\Chg G w w'):=by
 cases hf:t.find n with
 | none=>
   refine⟨5,-1,0,t,.inr ⟨by decide,rfl,rfl⟩,hk,rfl,rfl,fun w q F h hg _=>?_,fun w q G h=>?_⟩
   ·exact (cancel_none_p h hg n hf).mono fun x w' ⟨e,hb⟩=>⟨F,e,h.below hb,fun k hk=>.inl hk,chgB hb _⟩
   ·exact (cancel_none_r h hk hsm n hf).mono fun x w' ⟨e,hb⟩=>⟨G,e,h.below hb,fun k hk=>.inl hk,chgB hb _⟩
 | some r=>
   by_cases hst:2<=r.state
   ·refine⟨9,n,r.tries,t,.inl ⟨rfl,rfl⟩,hk,rfl,rfl,fun w q F h hg _=>?_,fun w q G h=>?_⟩
    ·exact (cancel_done_p h hg n r hf hst).mono fun x w' ⟨e,hb⟩=>⟨F,e,h.below hb,fun k hk=>.inl hk,chgB hb _⟩
    ·exact (cancel_some_r h hk hsm n r hf hst).mono fun x w' ⟨e,hb⟩=>⟨G,e,h.below hb,fun k hk=>.inl hk,chgB hb _⟩
   ·refine⟨0,-1,0,t.give n,.inr ⟨by decide,rfl,rfl⟩,ok_give hk hf,rfl,rfl,fun w q F h hg h0=>?_,fun w q G h=>?_⟩
    ·exact (cancel_ok_p h hk hsm hg h0 n r hf (by omega)).mono fun x w' ⟨e,h1,h2⟩=>⟨F,e,h1,fun k hk=>.inl hk,h2⟩
    ·exact (cancel_give_r h hk hsm n r hf (by omega)).mono fun x w' ⟨e,h1,h2⟩=>⟨G,e,h1,fun k hk=>.inl hk,h2⟩
section
variable {wb w:World} {wl:Nat} {ow:Nat->Lab} {qv bv iv:Value} {ps:List LP} {bs is:List Value}
theorem set_at{j:Nat}{p:LP}(hp:ps[j]?=some p)(p':LP):(ps.set j p')[j]?=some p':=by
 rw[List.getElem?_set_self (List.getElem?_eq_some_iff.1 hp).1]
theorem LB.norm(h:LB wb w wl ow qv bv iv ps bs is):∃ ow',LB wb w wl ow' qv bv iv ps bs is/\(∀ k,k<w.heap.size->ow' k=ow k)/\∀ k,w.heap.size<=k->ow' k=.loose:=
 ⟨fun k=>if k<w.heap.size then ow k else .loose,h.relabel fun k hk _=>by simp[hk],fun k hk=>by simp[hk],fun k hk=>by simp[show ¬k<w.heap.size by omega]⟩
theorem LB.nf(h:LB wb w wl ow qv bv iv ps bs is)(j:Nat):¬ow 0=.x j:=by rw[h.glob];simp
theorem cancelled_l(h:LB wb w wl ow qv bv iv ps bs is){j:Nat}{p:LP}(hp:ps[j]?=some p)(htu:p.u=p.t)(hk:p.t.Ok)(hsm:p.t.Small)(n:Int):
  Calls Tryx.prog 53 #[.agg #[ptr p.x,ptr p.m],.int .i64 n] w fun y w'=>∃ ow' T,y=.returned (.bool true)/\LB wb w' wl ow' qv bv iv (ps.set j {p with t:=T,u:=T}) bs is/\T.Ok/\T.last=p.t.last/\T.now=p.t.now:=by
 obtain⟨ow,h,_,hlo⟩:=h.norm
 obtain⟨k,r,tt,T,hcase,hT,hTl,hTn,hX,hM⟩:=cancel_both p.t hk hsm n
 obtain⟨px,hpx⟩:∃ px,p.x=px:=⟨_,rfl⟩
 obtain⟨pm,hpm⟩:∃ pm,p.m=pm:=⟨_,rfl⟩
 rw[hpx,hpm]
 obtain⟨W0,hW0⟩:∃ W0,w.alloc (.cells #[ptr px,ptr pm] 114)=W0:=⟨_,rfl⟩
 have h0:W0.heap[w.heap.size]?=some (.cells #[ptr px,ptr pm] 114 (0,0)):=by rw[<-hW0];exact World.alloc_heap_new _ _
 have hb0:Below w.heap.size w W0:=by rw[<-hW0];exact (Below.refl _ _).alloc (Nat.le_refl _) _
 have a0:W0.cell? ⟨w.heap.size,0,none⟩=some (ptr px):=cell_of h0 rfl
 have a1:W0.cell? ⟨w.heap.size,1,none⟩=some (ptr pm):=cell_of h0 rfl
 have HL:=Lib.hid h
 have HP:=Lib.hid (And.intro hp (And.intro htu (And.intro hT (And.intro hTl hTn))))
 have HX:=Lib.hid hX
 have HM:=Lib.hid hM
 have HW0:=Lib.hid hW0
 have HB0:=Lib.hid hb0
 have HH0:=Lib.hid h0
 have HC:=Lib.hid hcase
 have HLO:=Lib.hid hlo
 have HPX:=Lib.hid (And.intro hpx hpm)
 clear h hp htu hX hM hW0 hb0 h0 hcase hT hTl hTn hlo hpx hpm
 go_enter Tryx.func53,Tryz.ntmps53
 go_upto_region 1 with fail
 rw[HW0.out]
 go_wp2_with fail
 have hL0:=HL.out.below HB0.out
 refine (HX.out W0 px (fun k=>ow k=.x j) (by rw[<-HPX.out.1];exact hL0.xs j p HP.out.1) hL0.err (hL0.nf j)).mono ?_
 rintro y w1 ⟨F',rfl,hq,hF,hc⟩
 obtain⟨ow1,hL1,ho1,ho2⟩:=hL0.stepX HP.out.1 (by rw[HPX.out.1];exact hq.lt) (fun k (hk:F' k/\k<w1.heap.size)=>hF k hk.1) hc
 have hz0:=lt_of_heap HH0.out
 have hlz:ow w.heap.size=.loose:=HLO.out _ (Nat.le_refl _)
 have hh1:=(hc.block _ hz0 (fun e=>by rw[hlz]at e;cases e)).trans HH0.out
 obtain⟨W2,hW2⟩:∃ W2,w1.alloc (.cells #[.int .i64 k,.int .i64 r,.int .i64 tt,.bool true] 39)=W2:=⟨_,rfl⟩
 have hb2:Below w1.heap.size w1 W2:=by rw[<-hW2];exact (Below.refl _ _).alloc (Nat.le_refl _) _
 have hh2:=(hb2.block _ (lt_of_heap hh1)).trans hh1
 have he2:W2.heap[w1.heap.size]?=some (.cells #[.int .i64 k,.int .i64 r,.int .i64 tt,.bool true] 39 (0,0)):=by rw[<-hW2];exact World.alloc_heap_new _ _
 have d1:W2.cell? ⟨w.heap.size,1,none⟩=some (ptr pm):=cell_of hh2 rfl
 have hz1:=hc.size
 have HL1:=Lib.hid (hL1.below hb2)
 have HO:=Lib.hid (And.intro ho1 ho2)
 have HE2:=Lib.hid he2
 have HW2:=Lib.hid hW2
 have HZ2:=Lib.hid hb2
 clear hq hF hc hL0 hL1 ho1 ho2 hh1 hb2 hh2 he2 hW2 a0 a1
 go_upto_region 2 with fail
 rw[HW2.out]
 go_wp2_with fail
 have hp2:=set_at HP.out.1 {p with t:=T}
 have hm2:=HL1.out.ms j _ hp2
 simp only at hm2
 rw[HPX.out.2,HP.out.2.1]at hm2
 refine (HM.out W2 pm (fun k=>ow1 k=.m j) hm2).mono ?_
 rintro y w3 ⟨G',rfl,hq,hG,hc⟩
 obtain⟨ow2,hL2,ho3,_⟩:=HL1.out.stepM hp2 (u':=T) (by simp only;rw[HPX.out.2];exact hq.lt) (fun k (hk:G' k/\k<w3.heap.size)=>hG k hk.1) hc
 rw[List.set_set]at hL2
 have hle:ow1 w1.heap.size=.loose:=HO.out.2 _ hz1 (fun e=>by omega)
 have he3:=(hc.block _ (lt_of_heap HE2.out) (fun e=>by rw[hle]at e;cases e)).trans HE2.out
 have g0:w3.cell? ⟨w1.heap.size,0,none⟩=some (.int .i64 k):=cell_of he3 rfl
 have g1:w3.cell? ⟨w1.heap.size,1,none⟩=some (.int .i64 r):=cell_of he3 rfl
 have g2:w3.cell? ⟨w1.heap.size,2,none⟩=some (.int .i64 tt):=cell_of he3 rfl
 have g3:w3.cell? ⟨w1.heap.size,3,none⟩=some (.bool true):=cell_of he3 rfl
 have HL2:=Lib.hid hL2
 clear hp2 hm2 hq hG hc hL2 ho3 hle he3
 rcases HC.out with ⟨rfl,rfl⟩ |⟨hk9,rfl,rfl⟩
 ·go_wp2_with fail
  refine (wrong_l 9 r tt w3).mono ?_
  rintro y w4 ⟨rfl,hB4⟩
  go_wp2_with fail
  go_ret
  exact⟨ow2,T,rfl,by rw[<-HPX.out.1,<-HPX.out.2];exact HL2.out.below hB4,HP.out.2.2⟩
 ·have hk9':(k == 9)=false:=by simp[hk9]
  go_wp2_with fail
  refine (none_l k w3).mono ?_
  rintro y w4 ⟨rfl,hB4⟩
  go_wp2_with fail
  go_ret
  exact⟨ow2,T,rfl,by rw[<-HPX.out.1,<-HPX.out.2];exact HL2.out.below hB4,HP.out.2.2⟩
end
def pollS(r:Req):ByteArray:=if r.state=2/\r.write=false then str4 r.data else ⟨#[]⟩
def pollK(r:Req):Int:=if r.state=2 then 0 else if r.state=3 then 7 else if r.state=4 then 8 else 6
def pollT(t:St)(n:Int)(r:Req):St:=if r.state<2 then t else t.tell n
section
variable {w:World} {q:Nat} {t:St} {G:Nat->Prop}
theorem poll_none_r(h:RT w q t G)(hk:t.Ok)(hsm:t.Small)(n:Int)(hf:t.find n=none):
  Calls Tryx.prog 80 #[ptr q,.int .i64 n] w fun y w'=>y=.returned (.tuple #[.string ⟨#[]⟩,.int .i64 0,.int .i64 5])/\Below w.heap.size w w':=by
 have HP:=Lib.hid (place_lost h hk hsm hf)
 clear h hf hk hsm
 go_enter Tryx.func80,Tryz.ntmps80
 go_wp2_with fail
 refine HP.out.mono ?_
 rintro y w2 ⟨rfl,hB⟩
 go_wp2_with fail
 go_ret3
 exact⟨rfl,hB⟩
theorem poll_r(h:RT w q t G)(hk:t.Ok)(hsm:t.Small)(n:Int)(r:Req)(hf:t.find n=some r):
  Calls Tryx.prog 80 #[ptr q,.int .i64 n] w fun y w'=>∃ G',y=.returned (.tuple #[.string (pollS r),.int .i64 r.tries,.int .i64 (pollK r)])/\RT w' q (pollT t n r) G'/\(∀ k,G' k->G k\/w.heap.size<=k)/\Chg G w w':=by
 obtain⟨hrm,hrn,hrt⟩:=find_some hf
 have hst:=(hk.a.rs.ok r hrm).st
 obtain⟨l,told,fs,rv,tv,fv,dv,k,x,h1,h2,h3,hx,hxr,HPl⟩:=place_found h hk hsm hf
 have hl:=h2.tlen hk hsm
 have hxo:=h2.ok x (List.mem_of_getElem? hx)
 have hD:=Lib.hid fun W (hW:Below w.heap.size w W)=>drop_r k x W (h1.below hW) h2 hk hsm hx (by rw[hxr];exact hrt)
 have HP:=Lib.hid HPl
 have HR:=Lib.hid h1
 have H2:=Lib.hid h2
 have HX:=Lib.hid hx
 have H3:=Lib.hid h3
 have HXR:=Lib.hid hxr
 have HXO:=Lib.hid hxo
 have HRN:=Lib.hid hrn
 obtain⟨ra,rc,rfl⟩:=own_slice h1.reqs
 obtain⟨m,hm⟩:∃ m,l.length=m:=⟨_,rfl⟩
 have hkm:k<m:=by have:=(List.getElem?_eq_some_iff.1 hx).1;omega
 have hkI:(k:Int)<(m:Int):=by omega
 have hk0:(0:Int)<=(k:Int):=by omega
 have hkn:¬(k:Int)<0:=by omega
 have HM:=Lib.hid hm
 clear h h1 h2 h3 hf hk hsm HPl hx hxr hxo hrm hrn hm
 go_enter Tryx.func80,Tryz.ntmps80
 go_wp2_with fail
 refine HP.out.mono ?_
 rintro y w2 ⟨rfl,hB⟩
 have hR:=HR.out.below hB
 have d1:=hR.c1
 rw[HM.out]at d1
 obtain⟨g,cap,e,_,_,hcell⟩:=hR.req HX.out
 simp only[Value.slice.injEq]at e
 obtain⟨rfl,hdrop,rfl⟩:=e
 clear hdrop
 have p0:w2.cell? ⟨g,k*10,none⟩=some (.int .i64 x.r.num):=hcell 0 _ rfl
 have p1:w2.cell? ⟨g,k*10+1,none⟩=some (.bool x.r.write):=hcell 1 _ rfl
 have p2:w2.cell? ⟨g,k*10+2,none⟩=some (.int .i64 x.r.page):=hcell 2 _ rfl
 have p3:w2.cell? ⟨g,k*10+3,none⟩=some (.string x.data):=hcell 3 _ rfl
 have p4:w2.cell? ⟨g,k*10+4,none⟩=some (.int .i64 x.r.state):=hcell 4 _ rfl
 have p5:w2.cell? ⟨g,k*10+5,none⟩=some (.int .i64 x.r.tries):=hcell 5 _ rfl
 have p6:w2.cell? ⟨g,k*10+6,none⟩=some (.int .i64 x.r.after):=hcell 6 _ rfl
 have p7:w2.cell? ⟨g,k*10+7,none⟩=some (.bool x.r.alone):=hcell 7 _ rfl
 have p8:w2.cell? ⟨g,k*10+8,none⟩=some (.bool x.r.inAir):=hcell 8 _ rfl
 have p9:w2.cell? ⟨g,k*10+9,none⟩=some (.string x.answer):=hcell 9 _ rfl
 obtain⟨st,hst0⟩:∃ st,r.state=st:=⟨_,rfl⟩
 obtain⟨tr,htr⟩:∃ tr,r.tries=tr:=⟨_,rfl⟩
 have hs1:x.r.state=st:=by rw[HXR.out,hst0]
 have ht1:x.r.tries=tr:=by rw[HXR.out,htr]
 rw[hst0]at hst
 rw[hs1]at p4
 rw[ht1]at p5
 have hnew:=World.alloc_heap_new w2 (.cells #[.int .i64 x.r.num,.bool x.r.write,.int .i64 x.r.page,.string x.data,.int .i64 st,.int .i64 tr,.int .i64 x.r.after,.bool x.r.alone,.bool x.r.inAir,.string x.answer] 191)
 obtain⟨W3,hW3⟩:∃ W3,w2.alloc (.cells #[.int .i64 x.r.num,.bool x.r.write,.int .i64 x.r.page,.string x.data,.int .i64 st,.int .i64 tr,.int .i64 x.r.after,.bool x.r.alone,.bool x.r.inAir,.string x.answer] 191)=W3:=⟨_,rfl⟩
 have hB3:Below w.heap.size w W3:=by rw[<-hW3];exact hB.alloc hB.size _
 rw[hW3]at hnew
 have s4:W3.cell? ⟨w2.heap.size,4,none⟩=some (.int .i64 st):=cell_of hnew rfl
 have s5:W3.cell? ⟨w2.heap.size,5,none⟩=some (.int .i64 tr):=cell_of hnew rfl
 have HW3:=Lib.hid hW3
 have HB3:=Lib.hid hB3
 have HN:=Lib.hid hnew
 have HB:=Lib.hid hB
 have HST:=Lib.hid hst0
 have HTR:=Lib.hid htr
 clear hR hcell hW3 hB3 hnew hB hst0 htr hs1 ht1
 have hcases:st=0\/st=1\/st=2\/st=3\/st=4:=by omega
 rcases hcases with rfl | rfl | rfl | rfl | rfl
 ·go_wp2_with fail
  rw[HW3.out]
  go_quiet (fail)
  go_wp2_with fail
  go_ret3
  have e1:pollS r=⟨#[]⟩:=by unfold pollS;rw[if_neg (by rw[HST.out];simp)]
  have e2:pollK r=6:=by unfold pollK;rw[HST.out];simp
  have e3:pollT t n r=t:=by unfold pollT;rw[HST.out];simp
  rw[e1,e2,e3,HTR.out]
  have hR9:=(HR.out.below HB3.out).kept (Chg.drewN (Chg.refl (fun _=>False) W3) nq) fun _ _ z=>z
  exact⟨G,rfl,⟨l,told,fs,_,tv,fv,dv,hR9,H2.out,H3.out⟩,fun k hk=>.inl hk,Chg.drewN (chgB HB3.out G) nq⟩
 ·go_wp2_with fail
  rw[HW3.out]
  go_quiet (fail)
  go_wp2_with fail
  go_ret3
  have e1:pollS r=⟨#[]⟩:=by unfold pollS;rw[if_neg (by rw[HST.out];simp)]
  have e2:pollK r=6:=by unfold pollK;rw[HST.out];simp
  have e3:pollT t n r=t:=by unfold pollT;rw[HST.out];simp
  rw[e1,e2,e3,HTR.out]
  have hR9:=(HR.out.below HB3.out).kept (Chg.drewN (Chg.refl (fun _=>False) W3) nq) fun _ _ z=>z
  exact⟨G,rfl,⟨l,told,fs,_,tv,fv,dv,hR9,H2.out,H3.out⟩,fun k hk=>.inl hk,Chg.drewN (chgB HB3.out G) nq⟩
 ·go_wp2_with fail
  rw[HW3.out]
  refine (hD.out W3 HB3.out).mono ?_
  rintro y w5 ⟨l',told',rv',tv',rfl,hR5,hRR5,hF5,hC5⟩
  have hnb:¬RFoot q (.slice (some ⟨g,0,none⟩) l.length rc) tv fv dv fs w2.heap.size:=fun e=>by have:=HR.out.lt e;have:=HB.out.size;omega
  have hb5:=(hC5.block _ (lt_of_heap HN.out) hnb).trans HN.out
  have z5:w5.cell? ⟨w2.heap.size,5,none⟩=some (.int .i64 tr):=cell_of hb5 rfl
  have z9:w5.cell? ⟨w2.heap.size,9,none⟩=some (.string x.answer):=cell_of hb5 rfl
  have H5:=Lib.hid (And.intro hR5 (And.intro hRR5 (And.intro hF5 hC5)))
  clear hR5 hRR5 hF5 hC5 hb5 hnb
  go_wp2_with fail
  go_quiet (fail)
  go_wp2_with fail
  go_ret3
  have e1:pollS r=x.answer:=by
   have h2:x.r.state=2:=by rw[HXR.out,HST.out]
   unfold pollS;rw[HST.out];cases hw:r.write with
   | true=>rw [HXO.out.wans (by rw[HXR.out,hw])];simp
   | false=>rw [HXO.out.rans h2 (by rw[HXR.out,hw]),HXR.out];simp
  have e2:pollK r=0:=by unfold pollK;rw[HST.out];simp
  have e3:pollT t n r=t.tell x.r.num:=by unfold pollT;rw[HST.out,HXR.out,HRN.out];simp
  rw[e1,e2,e3,HTR.out]
  obtain⟨hR5,hRR5,hF5,hC5⟩:=H5.out
  have hR9:=hR5.kept (Chg.drewN (Chg.refl (fun _=>False) w5) nq) fun _ _ z=>z
  exact⟨fun k=>G k\/w.heap.size<=k,rfl,⟨l',told',fs,rv',tv',fv,dv,hR9,hRR5,fun k hk=>(hF5 k hk).imp (H3.out k) fun e=>Nat.le_trans HB3.out.size e⟩,fun k hk=>hk,Chg.drewN ((chgB HB3.out G).then (hC5.mono fun k _ hk=>H3.out k hk)) nq⟩
 ·go_wp2_with fail
  rw[HW3.out]
  refine (hD.out W3 HB3.out).mono ?_
  rintro y w5 ⟨l',told',rv',tv',rfl,hR5,hRR5,hF5,hC5⟩
  have hnb:¬RFoot q (.slice (some ⟨g,0,none⟩) l.length rc) tv fv dv fs w2.heap.size:=fun e=>by have:=HR.out.lt e;have:=HB.out.size;omega
  have hb5:=(hC5.block _ (lt_of_heap HN.out) hnb).trans HN.out
  have z5:w5.cell? ⟨w2.heap.size,5,none⟩=some (.int .i64 tr):=cell_of hb5 rfl
  have z9:w5.cell? ⟨w2.heap.size,9,none⟩=some (.string x.answer):=cell_of hb5 rfl
  have H5:=Lib.hid (And.intro hR5 (And.intro hRR5 (And.intro hF5 hC5)))
  clear hR5 hRR5 hF5 hC5 hb5 hnb
  go_wp2_with fail
  go_quiet (fail)
  go_wp2_with fail
  go_ret3
  have e1:pollS r=⟨#[]⟩:=by
   skip
   unfold pollS;rw[if_neg (by rw[HST.out];simp)]
  have e2:pollK r=7:=by unfold pollK;rw[HST.out];simp
  have e3:pollT t n r=t.tell x.r.num:=by unfold pollT;rw[HST.out,HXR.out,HRN.out];simp
  rw[e1,e2,e3,HTR.out]
  obtain⟨hR5,hRR5,hF5,hC5⟩:=H5.out
  have hR9:=hR5.kept (Chg.drewN (Chg.refl (fun _=>False) w5) nq) fun _ _ z=>z
  exact⟨fun k=>G k\/w.heap.size<=k,rfl,⟨l',told',fs,rv',tv',fv,dv,hR9,hRR5,fun k hk=>(hF5 k hk).imp (H3.out k) fun e=>Nat.le_trans HB3.out.size e⟩,fun k hk=>hk,Chg.drewN ((chgB HB3.out G).then (hC5.mono fun k _ hk=>H3.out k hk)) nq⟩
 ·go_wp2_with fail
  rw[HW3.out]
  refine (hD.out W3 HB3.out).mono ?_
  rintro y w5 ⟨l',told',rv',tv',rfl,hR5,hRR5,hF5,hC5⟩
  have hnb:¬RFoot q (.slice (some ⟨g,0,none⟩) l.length rc) tv fv dv fs w2.heap.size:=fun e=>by have:=HR.out.lt e;have:=HB.out.size;omega
  have hb5:=(hC5.block _ (lt_of_heap HN.out) hnb).trans HN.out
  have z5:w5.cell? ⟨w2.heap.size,5,none⟩=some (.int .i64 tr):=cell_of hb5 rfl
  have z9:w5.cell? ⟨w2.heap.size,9,none⟩=some (.string x.answer):=cell_of hb5 rfl
  have H5:=Lib.hid (And.intro hR5 (And.intro hRR5 (And.intro hF5 hC5)))
  clear hR5 hRR5 hF5 hC5 hb5 hnb
  go_wp2_with fail
  go_quiet (fail)
  go_wp2_with fail
  go_ret3
  have e1:pollS r=⟨#[]⟩:=by
   skip
   unfold pollS;rw[if_neg (by rw[HST.out];simp)]
  have e2:pollK r=8:=by unfold pollK;rw[HST.out];simp
  have e3:pollT t n r=t.tell x.r.num:=by unfold pollT;rw[HST.out,HXR.out,HRN.out];simp
  rw[e1,e2,e3,HTR.out]
  obtain⟨hR5,hRR5,hF5,hC5⟩:=H5.out
  have hR9:=hR5.kept (Chg.drewN (Chg.refl (fun _=>False) w5) nq) fun _ _ z=>z
  exact⟨fun k=>G k\/w.heap.size<=k,rfl,⟨l',told',fs,rv',tv',fv,dv,hR9,hRR5,fun k hk=>(hF5 k hk).imp (H3.out k) fun e=>Nat.le_trans HB3.out.size e⟩,fun k hk=>hk,Chg.drewN ((chgB HB3.out G).then (hC5.mono fun k _ hk=>H3.out k hk)) nq⟩
end
theorem nilEq(w:World):(binOp BinOp.eql 41 (.slice none 0 0) (.slice none 0 0)).run Tryx.prog w=.ok (.bool true) w:=by kernel_rfl
theorem convNil(w:World):(convert 41 9 (.slice none 0 0)).run Tryx.prog w=.ok (.string (strOfNums [])) w:=by kernel_rfl
theorem poll_both(t:St)(hk:t.Ok)(hsm:t.Small)(n:Int):∃ (k tt:Int) (s:ByteArray) (T:St),T.Ok/\T.last=t.last/\T.now=t.now/\
  (∀ (w:World) (q:Nat) (G:Nat->Prop),RT w q t G->Calls Tryx.prog 80 #[ptr q,.int .i64 n] w fun y w'=>∃ G',y=.returned (.tuple #[.string s,.int .i64 tt,.int .i64 k])/\RT w' q T G'/\(∀ k,G' k->G k\/w.heap.size<=k)/\Chg G w w')/\
  ((∃ r,k≠0/\((k=5/\r= -1/\tt=0)\/(k≠5/\r=n))/\∀ (w:World) (q:Nat) (F:Nat->Prop),QT w q t F->ErrVar w->¬F 0->Calls Tryx.prog 16 #[ptr q,.int .i64 n] w fun y w'=>∃ F',y=.returned (.tuple #[noAns,plErr k r tt])/\QT w' q T F'/\(∀ k,F' k->F k\/w.heap.size<=k)/\Chg F w w')\/
   (k=0/\∃ (N:Nat) (l:List Int),l.length=N/\s=strOfNums l/\∀ (w:World) (q:Nat) (F:Nat->Prop),QT w q t F->ErrVar w->¬F 0->Calls Tryx.prog 16 #[ptr q,.int .i64 n] w fun y w'=>∃ v F',y=.returned (.tuple #[.agg #[v,.int .i64 tt],plErr 0 (-1) 0])/\QT w' q T F'/\(∀ k,F' k->F k\/w.heap.size<=k)/\(∀ k,v.ownBlock=some k->¬F' k)/\Chg F w w'/\w'.ownsRow w.heap.size 5 1 v N (l.map fun b=>Value.int .u8 b)/\(0<N\/v=.slice none 0 0/\l=[]))):=by
 cases hf:t.find n with
 | none=>
   refine⟨5,0,⟨#[]⟩,t,hk,rfl,rfl,fun w q G h=>?_,.inl ⟨-1,by decide,.inl ⟨rfl,rfl,rfl⟩,fun w q F h hg _=>?_⟩⟩
   ·exact (poll_none_r h hk hsm n hf).mono fun x w' ⟨e,hb⟩=>⟨G,e,h.below hb,fun k hk=>.inl hk,chgB hb _⟩
   ·exact (poll_none_p h hg n hf).mono fun x w' ⟨e,hb⟩=>⟨F,e,h.below hb,fun k hk=>.inl hk,chgB hb _⟩
 | some r=>
   have hst:=(hk.a.rs.ok r (find_some hf).1).st
   refine⟨pollK r,r.tries,pollS r,pollT t n r,?_,?_,?_,fun w q G h=>poll_r h hk hsm n r hf,?_⟩
   ·unfold pollT
    split
    ·exact hk
    ·exact ok_tell hk hf (by omega)
   ·unfold pollT
    split <;> rfl
   ·unfold pollT
    split <;> rfl
   ·by_cases h2:r.state<2
    ·have e1:pollK r=6:=by unfold pollK;rw[if_neg (by omega),if_neg (by omega),if_neg (by omega)]
     have e2:pollT t n r=t:=by unfold pollT;rw[if_pos h2]
     rw[e1,e2]
     exact .inl ⟨n,by decide,.inr ⟨by decide,rfl⟩,fun w q F h hg _=>(poll_pend_p h hg n r hf (by omega)).mono fun x w' ⟨e,hb⟩=>⟨F,e,h.below hb,fun k hk=>.inl hk,chgB hb _⟩⟩
    ·have e2:pollT t n r=t.tell n:=by unfold pollT;rw[if_neg h2]
     rw[e2]
     by_cases h3:r.state=2
     ·have e1:pollK r=0:=by unfold pollK;rw[if_pos h3]
      rw[e1]
      refine .inr ⟨rfl,?_⟩
      cases hw:r.write with
      | true=>
        have e3:pollS r=strOfNums []:=by unfold pollS;rw[if_neg (by simp[hw])];rfl
        exact⟨0,[],rfl,e3,fun w q F h hg h0=>(poll_write_p h hk hsm hg h0 n r hf h3 hw).mono fun x w' ⟨e,h1,h2⟩=>⟨_,F,e,h1,fun k hk=>.inl hk,(fun k hk=>by cases hk),h2,World.ownsRow_nil _ _ _ _,.inr ⟨rfl,rfl⟩⟩⟩
      | false=>
        have e3:pollS r=strOfNums [r.data.a,r.data.b,r.data.c,r.data.d]:=by unfold pollS;rw[if_pos ⟨h3,hw⟩];rfl
        exact⟨4,_,rfl,e3,fun w q F h hg h0=>(poll_read_p h hk hsm hg h0 n r hf h3 hw).mono fun x w' ⟨v,F',e,h1,h2,h4,h5,h6⟩=>⟨v,F',e,h1,h2,h4,h5,h6,.inl (by decide)⟩⟩
     ·have e1:pollK r=if r.state=3 then 7 else 8:=by unfold pollK;rw[if_neg h3];exact (Decidable.em (r.state=3)).elim (fun h4=>by rw[if_pos h4,if_pos h4]) fun h4=>by rw[if_neg h4,if_neg h4,if_pos (show r.state=4 by omega)]
      rw[e1]
      refine .inl ⟨n,by split <;> decide,.inr ⟨by split <;> decide,rfl⟩,fun w q F h hg h0=>?_⟩
      refine (poll_bad_p h hk hsm hg h0 n r _ hf ?_).mono fun x w' ⟨e,h1,h2⟩=>⟨F,e,h1,fun k hk=>.inl hk,h2⟩
      split
      ·exact .inl ⟨by assumption,rfl⟩
      ·exact .inr ⟨by omega,rfl⟩
section
variable {wb w:World} {wl:Nat} {ow:Nat->Lab} {qv bv iv:Value} {ps:List LP} {bs is:List Value}
theorem polled_l(h:LB wb w wl ow qv bv iv ps bs is)(hbl:bs.length<=1000000){j:Nat}{p:LP}(hp:ps[j]?=some p)(htu:p.u=p.t)(hk:p.t.Ok)(hsm:p.t.Small)(n:Int):
  Calls Tryx.prog 52 #[ptr wl,.agg #[ptr p.x,ptr p.m],.int .i64 n] w fun y w'=>∃ ow' T bv' bs',y=.returned (.bool true)/\LB wb w' wl ow' qv bv' iv (ps.set j {p with t:=T,u:=T}) bs' is/\bs'.length<=bs.length+1/\T.Ok/\T.last=p.t.last/\T.now=p.t.now:=by
 obtain⟨ow,h,_,hlo⟩:=h.norm
 obtain⟨k,tt,s,T,hT,hTl,hTn,hM,hX⟩:=poll_both p.t hk hsm n
 obtain⟨px,hpx⟩:∃ px,p.x=px:=⟨_,rfl⟩
 obtain⟨pm,hpm⟩:∃ pm,p.m=pm:=⟨_,rfl⟩
 rw[hpx,hpm]
 obtain⟨W0,hW0⟩:∃ W0,w.alloc (.cells #[ptr px,ptr pm] 114)=W0:=⟨_,rfl⟩
 have h0:W0.heap[w.heap.size]?=some (.cells #[ptr px,ptr pm] 114 (0,0)):=by rw[<-hW0];exact World.alloc_heap_new _ _
 have hb0:Below w.heap.size w W0:=by rw[<-hW0];exact (Below.refl _ _).alloc (Nat.le_refl _) _
 have a0:W0.cell? ⟨w.heap.size,0,none⟩=some (ptr px):=cell_of h0 rfl
 have a1:W0.cell? ⟨w.heap.size,1,none⟩=some (ptr pm):=cell_of h0 rfl
 have HL:=Lib.hid h
 have HP:=Lib.hid (And.intro hp (And.intro htu (And.intro hT (And.intro hTl hTn))))
 have HM:=Lib.hid hM
 have HW0:=Lib.hid hW0
 have HB0:=Lib.hid hb0
 have HH0:=Lib.hid h0
 have HLO:=Lib.hid hlo
 have HPX:=Lib.hid (And.intro hpx hpm)
 clear h hp htu hM hW0 hb0 h0 hT hTl hTn hlo hpx hpm
 rcases hX with ⟨r,hk0,hcase,hX⟩ |⟨rfl,N,l,hN,rfl,hX⟩
 ·have HX:=Lib.hid hX
  have HC:=Lib.hid hcase
  clear hX hcase
  go_enter Tryx.func52,Tryz.ntmps52
  go_upto_region 1 with fail
  rw[HW0.out]
  go_wp2_with fail
  have hL0:=HL.out.below HB0.out
  refine (HX.out W0 px (fun k=>ow k=.x j) (by rw[<-HPX.out.1];exact hL0.xs j p HP.out.1) hL0.err (hL0.nf j)).mono ?_
  rintro y w1 ⟨F',rfl,hq,hF,hc⟩
  obtain⟨ow1,hL1,ho1,ho2⟩:=hL0.stepX HP.out.1 (by rw[HPX.out.1];exact hq.lt) (fun k (hk:F' k/\k<w1.heap.size)=>hF k hk.1) hc
  have hz0:=lt_of_heap HH0.out
  have hlz:ow w.heap.size=.loose:=HLO.out _ (Nat.le_refl _)
  have hh1:=(hc.block _ hz0 (fun e=>by rw[hlz]at e;cases e)).trans HH0.out
  obtain⟨W2,hW2⟩:∃ W2,(w1.alloc (.cells #[.slice none 0 0,.int .i64 0] 43)).alloc (.cells #[.int .i64 k,.int .i64 r,.int .i64 tt,.bool true] 39)=W2:=⟨_,rfl⟩
  have hb2:Below w1.heap.size w1 W2:=by rw[<-hW2];exact ((Below.refl _ _).alloc (Nat.le_refl _) _).alloc (by simp) _
  have hh2:=(hb2.block _ (lt_of_heap hh1)).trans hh1
  have he2:W2.heap[w1.heap.size+1]?=some (.cells #[.int .i64 k,.int .i64 r,.int .i64 tt,.bool true] 39 (0,0)):=by
   rw[<-hW2]
   have:=World.alloc_heap_new (w1.alloc (.cells #[.slice none 0 0,.int .i64 0] 43)) (.cells #[.int .i64 k,.int .i64 r,.int .i64 tt,.bool true] 39)
   rwa [show (w1.alloc (.cells #[.slice none 0 0,.int .i64 0] 43)).heap.size=w1.heap.size+1 from by simp]at this
  have hd2:W2.heap[w1.heap.size]?=some (.cells #[.slice none 0 0,.int .i64 0] 43 (0,0)):=by
   rw[<-hW2]
   refine (Below.heap_alloc _ _ _ (by simp)).trans ?_
   exact World.alloc_heap_new w1 _
  have d1:W2.cell? ⟨w.heap.size,1,none⟩=some (ptr pm):=cell_of hh2 rfl
  have hz1:=hc.size
  have HL1:=Lib.hid (hL1.below hb2)
  have HO:=Lib.hid (And.intro ho1 ho2)
  have HE2:=Lib.hid he2
  have HD2:=Lib.hid hd2
  have HW2:=Lib.hid hW2
  clear hq hF hc hL0 hL1 ho1 ho2 hh1 hb2 hh2 he2 hd2 hW2 a0 a1
  go_upto_region 2 with fail
  rw[HW2.out]
  go_wp2_with fail
  have hp2:=set_at HP.out.1 {p with t:=T}
  have hm2:=HL1.out.ms j _ hp2
  simp only at hm2
  rw[HPX.out.2,HP.out.2.1]at hm2
  refine (HM.out W2 pm (fun k=>ow1 k=.m j) hm2).mono ?_
  rintro y w3 ⟨G',rfl,hq,hG,hc⟩
  obtain⟨ow2,hL2,ho3,_⟩:=HL1.out.stepM hp2 (u':=T) (by simp only;rw[HPX.out.2];exact hq.lt) (fun k (hk:G' k/\k<w3.heap.size)=>hG k hk.1) hc
  rw[List.set_set]at hL2
  have hle:ow1 (w1.heap.size+1)=.loose:=HO.out.2 _ (by omega) (fun e=>by omega)
  have hld:ow1 w1.heap.size=.loose:=HO.out.2 _ hz1 (fun e=>by omega)
  have he3:=(hc.block _ (lt_of_heap HE2.out) (fun e=>by rw[hle]at e;cases e)).trans HE2.out
  have hd3:=(hc.block _ (lt_of_heap HD2.out) (fun e=>by rw[hld]at e;cases e)).trans HD2.out
  have g0:w3.cell? ⟨w1.heap.size+1,0,none⟩=some (.int .i64 k):=cell_of he3 rfl
  have g1:w3.cell? ⟨w1.heap.size+1,1,none⟩=some (.int .i64 r):=cell_of he3 rfl
  have g2:w3.cell? ⟨w1.heap.size+1,2,none⟩=some (.int .i64 tt):=cell_of he3 rfl
  have g3:w3.cell? ⟨w1.heap.size+1,3,none⟩=some (.bool true):=cell_of he3 rfl
  have f0:w3.cell? ⟨w1.heap.size,0,none⟩=some (.slice none 0 0):=cell_of hd3 rfl
  have f1:w3.cell? ⟨w1.heap.size,1,none⟩=some (.int .i64 0):=cell_of hd3 rfl
  have hl3:=lt_of_heap hd3
  have HL2:=Lib.hid hL2
  clear hp2 hm2 hq hG hc hL2 ho3 hle hld he3 hd3
  have hne:=nilEq
  rcases HC.out with ⟨rfl,rfl,rfl⟩ |⟨hk5,rfl⟩
  ·go_wp2_with fail
   refine (none_l 5 w3).mono ?_
   rintro y w4 ⟨rfl,hB4⟩
   have i0:=(hB4.cell (p:=⟨w1.heap.size,0,none⟩) hl3).trans f0
   have i1:=(hB4.cell (p:=⟨w1.heap.size,1,none⟩) hl3).trans f1
   go_wp2_with fail
   go_ret
   exact⟨ow2,T,bv,bs,rfl,by rw[<-HPX.out.1,<-HPX.out.2];exact HL2.out.below hB4,Nat.le_succ _,HP.out.2.2⟩
  ·have hk5':(k == 5)=false:=by simp[hk5]
   have hk0':(k == 0)=false:=by simp[hk0]
   go_wp2_with fail
   refine (wrong_l k r tt w3).mono ?_
   rintro y w4 ⟨rfl,hB4⟩
   have i0:=(hB4.cell (p:=⟨w1.heap.size,0,none⟩) hl3).trans f0
   have i1:=(hB4.cell (p:=⟨w1.heap.size,1,none⟩) hl3).trans f1
   go_wp2_with fail
   go_ret
   exact⟨ow2,T,bv,bs,rfl,by rw[<-HPX.out.1,<-HPX.out.2];exact HL2.out.below hB4,Nat.le_succ _,HP.out.2.2⟩
 ·have HX:=Lib.hid hX
  clear hX
  go_enter Tryx.func52,Tryz.ntmps52
  go_upto_region 1 with fail
  rw[HW0.out]
  go_wp2_with fail
  have hL0:=HL.out.below HB0.out
  refine (HX.out W0 px (fun k=>ow k=.x j) (by rw[<-HPX.out.1];exact hL0.xs j p HP.out.1) hL0.err (hL0.nf j)).mono ?_
  rintro y w1 ⟨v,F',rfl,hq,hF,hv,hc,hr,hv0⟩
  obtain⟨va,vc,rfl⟩:=own_slice hr
  obtain⟨ow1,hL1,ho1,ho2⟩:=hL0.stepX HP.out.1 (by rw[HPX.out.1];exact hq.lt) (fun k (hk:F' k/\k<w1.heap.size)=>hF k hk.1) hc
  have hz0:=lt_of_heap HH0.out
  have hlz:ow w.heap.size=.loose:=HLO.out _ (Nat.le_refl _)
  have hh1:=(hc.block _ hz0 (fun e=>by rw[hlz]at e;cases e)).trans HH0.out
  obtain⟨W2,hW2⟩:∃ W2,(w1.alloc (.cells #[.slice va N vc,.int .i64 tt] 43)).alloc (.cells #[.int .i64 0,.int .i64 (-1),.int .i64 0,.bool true] 39)=W2:=⟨_,rfl⟩
  have hb2:Below w1.heap.size w1 W2:=by rw[<-hW2];exact ((Below.refl _ _).alloc (Nat.le_refl _) _).alloc (by simp) _
  have hh2:=(hb2.block _ (lt_of_heap hh1)).trans hh1
  have he2:W2.heap[w1.heap.size+1]?=some (.cells #[.int .i64 0,.int .i64 (-1),.int .i64 0,.bool true] 39 (0,0)):=by
   rw[<-hW2]
   have:=World.alloc_heap_new (w1.alloc (.cells #[.slice va N vc,.int .i64 tt] 43)) (.cells #[.int .i64 0,.int .i64 (-1),.int .i64 0,.bool true] 39)
   rwa [show (w1.alloc (.cells #[.slice va N vc,.int .i64 tt] 43)).heap.size=w1.heap.size+1 from by simp]at this
  have hd2:W2.heap[w1.heap.size]?=some (.cells #[.slice va N vc,.int .i64 tt] 43 (0,0)):=by
   rw[<-hW2]
   refine (Below.heap_alloc _ _ _ (by simp)).trans ?_
   exact World.alloc_heap_new w1 _
  have d1:W2.cell? ⟨w.heap.size,1,none⟩=some (ptr pm):=cell_of hh2 rfl
  have hz1:=hc.size
  have hvl:∀ k,(Value.slice va N vc).ownBlock=some k->ow1 k=.loose/\k<w1.heap.size:=fun k hk=>⟨ho2 k (hr.lt k hk).1 fun e=>hv k hk e.1,(hr.lt k hk).2⟩
  have HVL:=Lib.hid hvl
  have HR2:=Lib.hid (ownsRow_chg hr (chgB hb2 fun _=>False) fun _ _ z=>z)
  have HV0:=Lib.hid hv0
  have HL1:=Lib.hid (hL1.below hb2)
  have HO:=Lib.hid (And.intro ho1 ho2)
  have HE2:=Lib.hid he2
  have HD2:=Lib.hid hd2
  have HW2:=Lib.hid hW2
  clear hq hF hv hv0 hr hvl hc hL0 hL1 ho1 ho2 hh1 hb2 hh2 he2 hd2 hW2 a0 a1
  go_upto_region 2 with fail
  rw[HW2.out]
  go_wp2_with fail
  have hp2:=set_at HP.out.1 {p with t:=T}
  have hm2:=HL1.out.ms j _ hp2
  simp only at hm2
  rw[HPX.out.2,HP.out.2.1]at hm2
  refine (HM.out W2 pm (fun k=>ow1 k=.m j) hm2).mono ?_
  rintro y w3 ⟨G',rfl,hq,hG,hc⟩
  obtain⟨ow2,hL2,ho3,_⟩:=HL1.out.stepM hp2 (u':=T) (by simp only;rw[HPX.out.2];exact hq.lt) (fun k (hk:G' k/\k<w3.heap.size)=>hG k hk.1) hc
  rw[List.set_set]at hL2
  have hle:ow1 (w1.heap.size+1)=.loose:=HO.out.2 _ (by omega) (fun e=>by omega)
  have hld:ow1 w1.heap.size=.loose:=HO.out.2 _ hz1 (fun e=>by omega)
  have he3:=(hc.block _ (lt_of_heap HE2.out) (fun e=>by rw[hle]at e;cases e)).trans HE2.out
  have hd3:=(hc.block _ (lt_of_heap HD2.out) (fun e=>by rw[hld]at e;cases e)).trans HD2.out
  have g0:w3.cell? ⟨w1.heap.size+1,0,none⟩=some (.int .i64 0):=cell_of he3 rfl
  have g1:w3.cell? ⟨w1.heap.size+1,1,none⟩=some (.int .i64 (-1)):=cell_of he3 rfl
  have g2:w3.cell? ⟨w1.heap.size+1,2,none⟩=some (.int .i64 0):=cell_of he3 rfl
  have g3:w3.cell? ⟨w1.heap.size+1,3,none⟩=some (.bool true):=cell_of he3 rfl
  have f0:w3.cell? ⟨w1.heap.size,0,none⟩=some (.slice va N vc):=cell_of hd3 rfl
  have f1:w3.cell? ⟨w1.heap.size,1,none⟩=some (.int .i64 tt):=cell_of hd3 rfl
  have hl3:=lt_of_heap hd3
  have hr3:=ownsRow_chg HR2.out hc fun k hk e=>by rw[(HVL.out k hk).1]at e;cases e
  have hz2:=hc.size
  have hvl3:∀ k,(Value.slice va N vc).ownBlock=some k->ow2 k=.loose:=fun k hk=>(ho3 k (HR2.out.lt k hk).2).trans (HVL.out k hk).1
  have HR3:=Lib.hid hr3
  have HVL3:=Lib.hid hvl3
  have HL2:=Lib.hid hL2
  clear hp2 hm2 hq hG hc hL2 ho3 hle hld he3 hd3 hr3 hvl3
  go_wp2_with fail
  refine (fine_l w3).mono ?_
  rintro y w4 ⟨rfl,hB4⟩
  have i0:=(hB4.cell (p:=⟨w1.heap.size,0,none⟩) hl3).trans f0
  have i1:=(hB4.cell (p:=⟨w1.heap.size,1,none⟩) hl3).trans f1
  have hr4:=ownsRow_chg HR3.out (chgB hB4 fun _=>False) fun _ _ z=>z
  have hcv:(convert 41 9 (.slice va N vc)).run Tryx.prog w4=.ok (.string (strOfNums l)) w4:=by
   rcases HV0.out with h0 |⟨e,rfl⟩
   ·exact conv_row hr4 hN h0
   ·rw[e];exact convNil w4
  have HMI:=Lib.hid (mine_l (HL2.out.below hB4) hbl hr4 HVL3.out)
  clear hr4
  go_wp2_with fail
  refine HMI.out.mono ?_
  rintro y w5 ⟨ow3,bv3,f,rfl,hL3,_,_⟩
  have HL3:=Lib.hid hL3
  clear hL3
  go_wp2_with fail
  go_ret
  exact⟨ow3,T,bv3,_,rfl,by rw[<-HPX.out.1,<-HPX.out.2];exact HL3.out,by simp,HP.out.2.2⟩
end
theorem mk64(w:World):(Instr.makeSlice 41 (.int .i64 64) (.int .i64 64)).run Tryx.prog w=.ok (.slice (some ⟨w.heap.size,0,none⟩) 64 64) (w.alloc (.cells (Array.replicate 64 (.int .u8 0)) 5)):=by kernel_rfl
theorem newQ_r(d:Nat)(w:World)(hd:1<=d/\d<=4):
  Calls Tryx.prog 78 #[.int .i64 d] w fun e w'=>∃ q,e=.returned (.tuple #[ptr q,.bool true])/\RT w' q (St.new d) (fun k=>w.heap.size<=k)/\w.heap.size<=q/\Below w.heap.size w w':=by
 have h1:(d:Int)>=1:=by omega
 have h2:(d:Int)<=4:=by omega
 have hmk:=mk64
 go_enter Tryx.func78,Tryz.ntmps78
 go_wp2_with fail
 clear hmk
 have e0:=World.alloc_heap_new w (.cells (Array.replicate 64 (.int .u8 0)) 5)
 have e1:=(Below.heap_alloc (w.alloc (.cells (Array.replicate 64 (.int .u8 0)) 5)) (.cells #[.int .i64 d,.slice none 0 0,.slice none 0 0,.slice none 0 0,.int .i64 0,.int .i64 0,.int .i64 0,.slice (some ⟨w.heap.size,0,none⟩) 64 64] 119) w.heap.size (by simp)).trans e0
 have e2:=World.alloc_heap_new (w.alloc (.cells (Array.replicate 64 (.int .u8 0)) 5)) (.cells #[.int .i64 d,.slice none 0 0,.slice none 0 0,.slice none 0 0,.int .i64 0,.int .i64 0,.int .i64 0,.slice (some ⟨w.heap.size,0,none⟩) 64 64] 119)
 rw[show (w.alloc (.cells (Array.replicate 64 (.int .u8 0)) 5)).heap.size=w.heap.size+1 from by simp]at e2
 have hB:=((Below.refl w.heap.size w).alloc (Nat.le_refl _) (.cells (Array.replicate 64 (.int .u8 0)) 5)).alloc (by simp) (.cells #[.int .i64 d,.slice none 0 0,.slice none 0 0,.slice none 0 0,.int .i64 0,.int .i64 0,.int .i64 0,.slice (some ⟨w.heap.size,0,none⟩) 64 64] 119)
 go_ret2
 refine⟨w.heap.size+1,rfl,⟨[],[],[],.slice none 0 0,.slice none 0 0,.slice none 0 0,.slice (some ⟨w.heap.size,0,none⟩) 64 64,⟨e2,World.ownsRow_nil _ _ _ _,World.ownsRow_nil _ _ _ _,⟨World.ownsRow_nil _ _ _ _,(fun _ h=>by cases h),List.Pairwise.nil⟩,rfl,?_,fun _ h=>by cases h⟩,rrel_new d,?_⟩,Nat.le_succ _,hB⟩
 ·refine⟨rfl,.inr ⟨w.heap.size,64,_,rfl,Nat.zero_le _,e1,Nat.le_refl _,by decide,by simp,?_⟩⟩
  rfl
 ·rintro k (rfl | h | h | h | h |⟨c,h,_⟩)
  ·exact Nat.le_succ _
  ·cases h
  ·cases h
  ·cases h
  ·simp[Value.ownBlock]at h;omega
  ·cases h
theorem newQ_no(n:Int)(w:World)(hd:n<1\/4<n):
  Calls Tryx.prog 78 #[.int .i64 n] w fun e w'=>∃ v,e=.returned (.tuple #[v,.bool false])/\Below w.heap.size w w':=by
 have hmk:=mk64
 rcases hd with hd | hd
 ·have h1:¬n>=1:=by omega
  go_enter Tryx.func78,Tryz.ntmps78
  go_wp2_with fail
  go_ret2
  exact⟨⟨_,rfl⟩,((Below.refl _ _).alloc (Nat.le_refl _) _).alloc (by simp) _⟩
 ·have h1:n>=1:=by omega
  have h2:¬n<=4:=by omega
  go_enter Tryx.func78,Tryz.ntmps78
  go_wp2_with fail
  go_ret2
  exact⟨⟨_,rfl⟩,((Below.refl _ _).alloc (Nat.le_refl _) _).alloc (by simp) _⟩
theorem flights_r(w:World){q:Nat}{t:St}{l:List RR}{told:List Int}{fs:List (Cmd×Value)}{rv tv fv dv:Value}(h:RB w q t l told fs rv tv fv dv):
  Calls Tryx.prog 84 #[ptr q] w fun e w'=>e=.returned fv/\w=w':=by
 have c3:=h.c3
 obtain⟨fa,fc,rfl⟩:=own_slice h.fls.row
 clear h
 go_enter Tryx.func84,Tryz.ntmps84
 go_wp2_with fail
 go_ret
 exact⟨rfl,rfl⟩
theorem disk_r(w:World){q:Nat}{t:St}{l:List RR}{told:List Int}{fs:List (Cmd×Value)}{rv tv fv dv:Value}(h:RB w q t l told fs rv tv fv dv)(hd:t.disk.length=64):
  Calls Tryx.prog 91 #[ptr q] w fun e w'=>e=.returned (.string (strOfNums t.disk))/\w=w':=by
 have c7:=h.c7
 obtain⟨da,dc,rfl⟩:=own_slice h.dsk
 have hcv:=conv_row h.dsk hd (by decide)
 clear h
 go_enter Tryx.func91,Tryz.ntmps91
 go_wp2_with fail
 go_ret
 exact⟨rfl,rfl⟩
theorem waiting_r(w:World){q:Nat}{t:St}{l:List RR}{told:List Int}{fs:List (Cmd×Value)}{rv tv fv dv:Value}(h:RB w q t l told fs rv tv fv dv)(hl:l.map (·.r)=t.rs)(hlen:l.length<=1000000):
  Calls Tryx.prog 87 #[ptr q] w fun y w'=>∃ v,y=.returned v/\w'.ownsRow w.heap.size 3 1 v t.waiting.length (t.waiting.map fun n=>Value.int .i64 n)/\Below w.heap.size w w':=by
 obtain⟨ra,rc,rfl⟩:=own_slice h.reqs
 obtain⟨m,hm⟩:∃ m,l.length=m:=⟨_,rfl⟩
 rw[hm]at h hlen
 have HR:=Lib.hid h
 obtain⟨P,hP⟩:∃ P:Req->Bool,(fun r=>r.state == 0)=P:=⟨_,rfl⟩
 have hW:∀ j,j<=m->((t.rs.take j).filter P).length<=j:=fun j _=>Nat.le_trans (List.length_filter_le _ _) (by rw[List.length_take];omega)
 obtain⟨i0,hi,hz0,hz1,hz2⟩:=info_parts Tryz.infoI2
 have HPP:=Lib.hid hP
 have HW:=Lib.hid hW
 clear h hP hW
 go_enter Tryx.func87,Tryz.ntmps87
 go_wp2_with fail
 go_loopg [3,4] m (fun kk out i wx=>∃ j,kk=m - j/\j<=m/\i=.int .i64 j/\wx.ownsRow w.heap.size 3 1 out ((t.rs.take j).filter P).length (((t.rs.take j).filter P).map fun r=>Value.int .i64 r.num)/\Below w.heap.size w wx)
 case atStart=>exact ⟨0,by simp,by omega,rfl,by simpa using World.ownsRow_nil _ _ _ _,Below.refl _ _⟩
 case round=>
  obtain⟨j,rfl,hj,rfl,hrow,hB⟩:=hrel
  have hR:=HR.out.below hB
  have d1:=hR.c1
  by_cases hlt:j<m
  ·have hltI:(j:Int)<(m:Int):=by omega
   have hj0:(0:Int)<=(j:Int):=by omega
   obtain⟨y,hy⟩:∃ y,l[j]?=some y:=⟨_,List.getElem?_eq_getElem (by omega)⟩
   have hyr:t.rs[j]?=some y.r:=by rw[<-hl,List.getElem?_map,hy];rfl
   obtain⟨g,cap,e,_,_,hcell⟩:=hR.req hy
   simp only[Value.slice.injEq]at e
   obtain⟨rfl,hdrop,rfl⟩:=e
   clear hdrop
   have r0:wr.cell? ⟨g,j*10,none⟩=some (.int .i64 y.r.num):=hcell 0 _ rfl
   have r4:wr.cell? ⟨g,j*10+4,none⟩=some (.int .i64 y.r.state):=hcell 4 _ rfl
   obtain⟨ys,hys⟩:∃ z,y.r.state=z:=⟨_,rfl⟩
   rw[hys]at r4
   have hPy:P y.r=decide (ys=0):=by rw[<-HPP.out,<-hys];rfl
   have hwl:=HW.out j hj
   have HY:=Lib.hid hyr
   have HPY:=Lib.hid hPy
   clear hR hcell hy hys hyr hPy
   by_cases h0:ys=0
   ·subst h0
    obtain⟨mm,hmm⟩:∃ mm,((t.rs.take j).filter P).length=mm:=⟨_,rfl⟩
    rw[hmm]at hrow hwl
    have HM:=Lib.hid hmm
    have hgl:=lt_of_cell r0
    have hsz:=hB.size
    clear hmm
    go_wp2_with (at_builtin;refine wpList_append_own _ rfl _ _ 24 rfl w.heap.size 3 i0 (.int .i64 0) 1 8 Tryx.underlying24 hi hz0 hz1 hz2 rfl (by decide) _ _ _ rfl (hrow.alloc _) ⟨wr.heap.size,0,none⟩ 1 1 [.int .i64 y.r.num] rfl rfl (World.news_of_block (World.alloc_heap_new wr _)) (by simp[Value.oneCell']) ?_ ?_ ?_ ?_)
    ·unfold maxLen;omega
    ·omega
    ·first | omega | (simp;omega)
    intro v' w3 hown' hgrow _
    have hB3:Below w.heap.size w w3:=(hB.alloc hB.size _).grown hgrow (by simp;omega) (fun k ek=>(hrow.lt k ek).1)
    have HO:=Lib.hid hown'
    clear hown' hgrow hrow
    go_wp2
    go_roundg (m - (j+1))
    case measure=>omega
    case rel=>exact ⟨j+1,rfl,by omega,by go_num,by rw[take_filter_yes HY.out (by rw[HPY.out];rfl),List.length_append,List.map_append,HM.out];exact HO.out,hB3⟩
   ·have HRW:=Lib.hid hrow
    clear hrow
    go_wp2_with fail
    go_roundg (m - (j+1))
    case measure=>omega
    case rel=>exact ⟨j+1,rfl,by omega,by go_num,by rw[take_filter_no HY.out (by rw[HPY.out];simpa using h0)];exact HRW.out,hB⟩
  ·obtain rfl:j=m:=by omega
   have hall:t.rs.take j=t.rs:=List.take_of_length_le (by rw[<-hl,List.length_map];omega)
   rw[hall]at hrow
   have HO:=Lib.hid hrow
   clear hR hrow hall
   go_wp2_with fail
   go_ret
   exact⟨_,rfl,by unfold St.waiting;rw[List.length_map,List.map_map,HPP.out];exact HO.out,hB⟩
theorem Tryz.infoPr:(Tryx.prog.info? 114).map (fun i=>(i.zero,i.size,i.bytes))=some (some (.agg #[.pointer none,.pointer none]),2,16):=by kernel_rfl
section
variable {wb w W:World} {wl:Nat} {ow:Nat->Lab} {qv bv iv:Value} {ps:List LP} {bs is:List Value}
theorem LB.addQ(h:LB wb w wl ow qv bv iv ps bs is){qv':Value}{x m:Nat}{t:St}{F G:Nat->Prop}(hx:QT w x t F)(hm:RT w m t G)(hF:∀ k,F k->ow k=.loose/\k<w.heap.size)(hG:∀ k,G k->ow k=.loose/\k<w.heap.size)(hFG:∀ k,F k->¬G k)(hc:Chg (fun k=>k=wl\/qv.ownBlock=some k) w W)
  (hme:W.heap[wl]?=some (.cells #[qv',bv,iv] 71 (0,0))) (hrow:W.ownsRow 0 114 2 qv' (ps ++ [(⟨x,m,t,t⟩:LP)]).length ((ps ++ [(⟨x,m,t,t⟩:LP)]).flatMap pCells)) (hqv:∀ k,qv'.ownBlock=some k->qv.ownBlock=some k\/w.heap.size<=k):
  ∃ ow',LB wb W wl ow' qv' bv iv (ps ++ [(⟨x,m,t,t⟩:LP)]) bs is:=by
 classical
 obtain⟨ow',how⟩:∃ ow':Nat->Lab,ow'=fun k=>if F k then .x ps.length else if G k then .m ps.length else if k<w.heap.size then ow k else if qv'.ownBlock=some k then .qs else .loose:=⟨_,rfl⟩
 have oF:∀ k,F k->ow' k=.x ps.length:=fun k hk=>by rw[how];simp[hk]
 have oG:∀ k,G k->ow' k=.m ps.length:=fun k hk=>by rw[how];simp[hk,show ¬F k from fun e=>hFG k e hk]
 have o1:∀ k,k<w.heap.size->ow k≠.loose->ow' k=ow k:=fun k hk hl=>by rw[how];simp[hk,show ¬F k from fun e=>hl (hF k e).1,show ¬G k from fun e=>hl (hG k e).1]
 refine⟨ow',?_⟩
 have h1:=h.relabel (ow':=ow') o1
 have gS:∀ k,(k=wl\/qv.ownBlock=some k)->ow' k=.me\/ow' k=.qs:=fun k hk=>hk.imp (fun e=>(congrArg ow' e).trans h1.own) (h1.qo k)
 have g:∀ {m:Lab},m≠.me->m≠.qs->∀ k,ow' k=m->¬(k=wl\/qv.ownBlock=some k):=fun a1 a2 k hk hs=>(gS k hs).elim (fun e=>a1 (hk.symm.trans e)) fun e=>a2 (hk.symm.trans e)
 refine⟨h1.err.chg hc (g (by simp) (by simp) 0 h1.glob),h1.glob,hme,h1.own,hrow,fun k hk=>?_,ownsRow_chg h1.b hc fun k hk=>g (by simp) (by simp) k (h1.bo k hk),h1.bo,
  ownsRow_chg h1.i hc fun k hk=>g (by simp) (by simp) k (h1.io k hk),h1.io,fun j v hv=>?_,fun j v hv=>?_,fun j p hp=>?_,fun j p hp=>?_,Below.chgS h1.bel hc h1.bel.size fun k hk=>g (by simp) (by simp) k (h1.old k hk),h1.old⟩
 ·rcases hqv k hk with e | e
  ·exact h1.qo k e
  ·rw[how]
   simp[hk,show ¬k<w.heap.size by omega,show ¬F k from fun e2=>by have:=(hF k e2).2;omega,show ¬G k from fun e2=>by have:=(hG k e2).2;omega]
 ·obtain⟨n,h2,h3⟩:=h1.br j v hv
  exact⟨n,ownsRow_chg h2 hc fun k hk=>g (by simp) (by simp) k (h3 k hk),h3⟩
 ·obtain⟨n,h2,h3⟩:=h1.ir j v hv
  exact⟨n,ownsRow_chg h2 hc fun k hk=>g (by simp) (by simp) k (h3 k hk),h3⟩
 ·rcases Nat.lt_or_ge j ps.length with hlt | hge
  ·rw[List.getElem?_append_left hlt]at hp
   exact (h1.xs j p hp).kept hc (g (by simp) (by simp))
  ·rw[List.getElem?_append_right hge]at hp
   obtain⟨hl,e⟩:=List.getElem?_eq_some_iff.1 hp
   have hj:j=ps.length:=by simp at hl;omega
   subst hj
   simp at hp
   subst hp
   exact (hx.mono oF).kept hc (g (by simp) (by simp))
 ·rcases Nat.lt_or_ge j ps.length with hlt | hge
  ·rw[List.getElem?_append_left hlt]at hp
   exact (h1.ms j p hp).kept hc (g (by simp) (by simp))
  ·rw[List.getElem?_append_right hge]at hp
   obtain⟨hl,e⟩:=List.getElem?_eq_some_iff.1 hp
   have hj:j=ps.length:=by simp at hl;omega
   subst hj
   simp at hp
   subst hp
   exact (hm.mono oG).kept hc (g (by simp) (by simp))
def opV(K A B C:Int)(S:ByteArray):Value:=.agg #[.int .i64 K,.int .i64 A,.int .i64 B,.int .i64 C,.string S]
theorem opened_no_l(h:LB wb w wl ow qv bv iv ps bs is)(K A B C:Int)(S:ByteArray)(hA:A<1\/4<A):
  Calls Tryx.prog 49 #[ptr wl,opV K A B C S] w fun y w'=>y=.returned (.bool true)/\LB wb w' wl ow qv bv iv ps bs is:=by
 obtain⟨W0,hW0⟩:∃ W0,w.alloc (.cells #[.int .i64 K,.int .i64 A,.int .i64 B,.int .i64 C,.string S] 73)=W0:=⟨_,rfl⟩
 have h0:W0.heap[w.heap.size]?=some (.cells #[.int .i64 K,.int .i64 A,.int .i64 B,.int .i64 C,.string S] 73 (0,0)):=by rw[<-hW0];exact World.alloc_heap_new _ _
 have hb0:Below w.heap.size w W0:=by rw[<-hW0];exact (Below.refl _ _).alloc (Nat.le_refl _) _
 have a1:W0.cell? ⟨w.heap.size,1,none⟩=some (.int .i64 A):=cell_of h0 rfl
 have HL:=Lib.hid h
 have HW0:=Lib.hid hW0
 have HB0:=Lib.hid hb0
 have HH0:=Lib.hid h0
 clear h hW0 hb0 h0
 unfold opV
 go_enter Tryx.func49,Tryz.ntmps49
 go_upto_region 1 with fail
 rw[HW0.out]
 go_wp2_with fail
 have hL0:=HL.out.below HB0.out
 refine (new_bad_p A W0 hL0.err hA).mono ?_
 rintro y w1 ⟨rfl,hB1⟩
 obtain⟨W2,hW2⟩:∃ W2,w1.alloc (.cells #[.int .i64 1,.int .i64 (-1),.int .i64 0,.bool true] 39)=W2:=⟨_,rfl⟩
 have hb2:Below w1.heap.size w1 W2:=by rw[<-hW2];exact (Below.refl _ _).alloc (Nat.le_refl _) _
 have hh1:=(hB1.block _ (lt_of_heap HH0.out)).trans HH0.out
 have hh2:=(hb2.block _ (lt_of_heap hh1)).trans hh1
 have he2:W2.heap[w1.heap.size]?=some (.cells #[.int .i64 1,.int .i64 (-1),.int .i64 0,.bool true] 39 (0,0)):=by rw[<-hW2];exact World.alloc_heap_new _ _
 have d1:W2.cell? ⟨w.heap.size,1,none⟩=some (.int .i64 A):=cell_of hh2 rfl
 have HL1:=Lib.hid ((hL0.below hB1).below hb2)
 have HE2:=Lib.hid he2
 have HW2:=Lib.hid hW2
 clear hL0 hB1 hb2 hh1 hh2 he2 hW2 a1
 go_upto_region 2 with fail
 rw[HW2.out]
 go_wp2_with fail
 refine (newQ_no A W2 hA).mono ?_
 rintro y w3 ⟨v,rfl,hB3⟩
 have he3:=(hB3.block _ (lt_of_heap HE2.out)).trans HE2.out
 have g0:w3.cell? ⟨w1.heap.size,0,none⟩=some (.int .i64 1):=cell_of he3 rfl
 have g1:w3.cell? ⟨w1.heap.size,1,none⟩=some (.int .i64 (-1)):=cell_of he3 rfl
 have g2:w3.cell? ⟨w1.heap.size,2,none⟩=some (.int .i64 0):=cell_of he3 rfl
 have g3:w3.cell? ⟨w1.heap.size,3,none⟩=some (.bool true):=cell_of he3 rfl
 have HL3:=Lib.hid (HL1.out.below hB3)
 clear hB3 he3
 go_wp2_with fail
 refine (none_l 1 w3).mono ?_
 rintro y w4 ⟨rfl,hB4⟩
 go_wp2_with fail
 go_ret
 exact⟨rfl,HL3.out.below hB4⟩
theorem opened_l(h:LB wb w wl ow qv bv iv ps bs is)(hps:ps.length<=1000000)(K B C:Int)(d:Nat)(S:ByteArray)(hd:1<=d/\d<=4):
  Calls Tryx.prog 49 #[ptr wl,opV K d B C S] w fun y w'=>∃ ow' qv' x m,y=.returned (.bool true)/\LB wb w' wl ow' qv' bv iv (ps ++ [(⟨x,m,St.new d,St.new d⟩:LP)]) bs is:=by
 obtain⟨ow,h,_,hlo⟩:=h.norm
 obtain⟨i0,hi,hz0,hz1,hz2⟩:=info_parts Tryz.infoPr
 obtain⟨W0,hW0⟩:∃ W0,w.alloc (.cells #[.int .i64 K,.int .i64 d,.int .i64 B,.int .i64 C,.string S] 73)=W0:=⟨_,rfl⟩
 have h0:W0.heap[w.heap.size]?=some (.cells #[.int .i64 K,.int .i64 d,.int .i64 B,.int .i64 C,.string S] 73 (0,0)):=by rw[<-hW0];exact World.alloc_heap_new _ _
 have hb0:Below w.heap.size w W0:=by rw[<-hW0];exact (Below.refl _ _).alloc (Nat.le_refl _) _
 have a1:W0.cell? ⟨w.heap.size,1,none⟩=some (.int .i64 d):=cell_of h0 rfl
 have hz0':=lt_of_heap h0
 have HL:=Lib.hid h
 have HW0:=Lib.hid hW0
 have HB0:=Lib.hid hb0
 have HH0:=Lib.hid h0
 have HLO:=Lib.hid hlo
 clear h hW0 hb0 h0 hlo
 unfold opV
 go_enter Tryx.func49,Tryz.ntmps49
 go_upto_region 1 with fail
 rw[HW0.out]
 go_wp2_with fail
 have hL0:=HL.out.below HB0.out
 refine (new_p d W0 hL0.err hd).mono ?_
 rintro y w1 ⟨q,rfl,hq,hB1⟩
 obtain⟨W2,hW2⟩:∃ W2,w1.alloc (.cells #[.int .i64 0,.int .i64 (-1),.int .i64 0,.bool true] 39)=W2:=⟨_,rfl⟩
 have hb2:Below w1.heap.size w1 W2:=by rw[<-hW2];exact (Below.refl _ _).alloc (Nat.le_refl _) _
 have hz2':W2.heap.size=w1.heap.size+1:=by rw[<-hW2];simp
 have hh1:=(hB1.block _ (lt_of_heap HH0.out)).trans HH0.out
 have hh2:=(hb2.block _ (lt_of_heap hh1)).trans hh1
 have he2:W2.heap[w1.heap.size]?=some (.cells #[.int .i64 0,.int .i64 (-1),.int .i64 0,.bool true] 39 (0,0)):=by rw[<-hW2];exact World.alloc_heap_new _ _
 have d1:W2.cell? ⟨w.heap.size,1,none⟩=some (.int .i64 d):=cell_of hh2 rfl
 have HL1:=Lib.hid ((hL0.below hB1).below hb2)
 have HQ:=Lib.hid (hq.lt.below hb2)
 have hs1:=hB1.size
 have HE2:=Lib.hid he2
 have HW2:=Lib.hid hW2
 clear hL0 hB1 hb2 hh1 hh2 he2 hW2 a1 hq
 go_upto_region 2 with fail
 rw[HW2.out]
 go_wp2_with fail
 refine (newQ_r d W2 hd).mono ?_
 rintro y w3 ⟨m,rfl,hm,_,hB3⟩
 have he3:=(hB3.block _ (lt_of_heap HE2.out)).trans HE2.out
 have g0:w3.cell? ⟨w1.heap.size,0,none⟩=some (.int .i64 0):=cell_of he3 rfl
 have g1:w3.cell? ⟨w1.heap.size,1,none⟩=some (.int .i64 (-1)):=cell_of he3 rfl
 have g2:w3.cell? ⟨w1.heap.size,2,none⟩=some (.int .i64 0):=cell_of he3 rfl
 have g3:w3.cell? ⟨w1.heap.size,3,none⟩=some (.bool true):=cell_of he3 rfl
 have HL3:=Lib.hid (HL1.out.below hB3)
 have HQ3:=Lib.hid (HQ.out.below hB3)
 have HM3:=Lib.hid hm.lt
 have hs3:=hB3.size
 clear hB3 he3 hm
 go_wp2_with fail
 refine (fine_l w3).mono ?_
 rintro y w4 ⟨rfl,hB4⟩
 have hL4:=HL3.out.below hB4
 have HQ4:=Lib.hid (HQ3.out.below hB4)
 have HM4:=Lib.hid (HM3.out.below hB4)
 obtain⟨qa,qc,rfl⟩:=own_slice hL4.q
 obtain⟨np,hnp⟩:∃ np,ps.length=np:=⟨_,rfl⟩
 have hrow:=hL4.q
 have c0:w4.cell? ⟨wl,0,none⟩=some (.slice qa ps.length qc):=cell_of hL4.me rfl
 rw[hnp]at hrow c0 hps
 have HNP:=Lib.hid hnp
 have HL4:=Lib.hid hL4
 have hs4:=hB4.size
 clear hL4 hB4 hnp
 go_wp2_with (at_builtin;refine wpList_append_lies _ rfl _ _ 67 rfl 0 114 i0 (.agg #[.pointer none,.pointer none]) 2 16 Tryx.underlying67 hi hz0 hz1 hz2 rfl (by decide) _ _ _ rfl (hrow.alloc _) ⟨w4.heap.size,0,none⟩ 1 1 [ptr q,ptr m] rfl rfl (World.news_of_block (World.alloc_heap_new w4 _)) (by simp[Value.oneCell']) (by omega) ?_ ?_ ?_ (w4.heap.size+1) (by simp) ?_)
 ·unfold maxLen;omega
 ·omega
 ·exact Nat.zero_le _
 intro gg vc' w5 hown' hgrow hat _
 have hc5:Chg (fun k=>(Value.slice qa np qc).ownBlock=some k) w4 w5:=((Chg.refl _ w4).alloc _).grown hgrow fun k hk=>.inl hk
 have hnw:(Value.slice qa np qc).ownBlock≠some wl:=fun e=>by have h1:=HL4.out.qo wl (by rw[HNP.out];exact e);rw[HL4.out.own]at h1;cases h1
 have hme5:=(hc5.block _ (lt_of_heap HL4.out.me) hnw).trans HL4.out.me
 have mf5:∀ i,w5.frozen? ⟨wl,i,none⟩=false:=fun i=>free_of hme5
 have m5:w5.cell? ⟨wl,0,none⟩=some (.slice qa ps.length qc):=cell_of hme5 rfl
 have HOW:=Lib.hid hown'
 have HC5:=Lib.hid hc5
 have HME:=Lib.hid hme5
 have HAT:=Lib.hid hat
 clear hown' hc5 hgrow hme5 hnw hrow hat
 go_wp2_with fail
 go_ret
 have hs:Chg (fun k=>k=wl) w5 (w5.setCell ⟨wl,0,none⟩ (.slice (some ⟨gg,0,none⟩) (np+1) vc')):=chg_set _
 have hne:∀ k,(Value.slice (some ⟨gg,0,none⟩) (np+1) vc').ownBlock=some k->k≠wl:=fun k hk e=>by
  obtain⟨cur2,hcur⟩:=own_heap HOW.out hk
  rw[e]at hcur
  exact ne_of_heap hcur HME.out (by simp) rfl
 have hz0'':=HB0.out.size
 obtain⟨ow',h8⟩:=HL4.out.addQ (qv':=.slice (some ⟨gg,0,none⟩) (np+1) vc') (W:=w5.setCell ⟨wl,0,none⟩ (.slice (some ⟨gg,0,none⟩) (np+1) vc')) HQ4.out HM4.out (fun k hk=>⟨HLO.out k (by have:=hk.1;omega),by omega⟩) (fun k hk=>⟨HLO.out k (by have:=hk.1;omega),by omega⟩) (fun k h1 h2=>by have:=h1.2;have:=h2.1;omega)
  ((HC5.out.mono fun k _ hk=>.inr (by rw[HNP.out];exact hk)).then (hs.mono fun k _ hk=>.inl hk)) (heap_setCell (i:=0) _ HME.out) (by rw[List.length_append,HNP.out,List.flatMap_append];exact ownsRow_chg HOW.out hs fun k hk e=>hne k hk e) fun k hk=>by
    rw[HNP.out]
    simp only[Value.ownBlock,Option.some.injEq]at hk;subst hk
    exact HAT.out.imp id fun e=>by omega
 exact⟨ow',_,q,m,rfl,h8⟩
end
end
section
open Go.RowKit Go.Shelf Go.Lib
theorem noPage_x(p:Int)(w:World)(h:p<0\/16<=p):
  Calls Tryx.prog 76 #[.int .i64 p] w fun e w'=>e=.returned (.bool false)/\w=w':=by
 rcases h with h | h
 ·have h':decide (0<=p)=false:=by simp;omega
  go_enter Tryx.func76,Tryz.ntmps76
  go_wp2
  go_ret
  exact⟨rfl,rfl⟩
 ·have h':decide (0<=p)=true:=by simp;omega
  have h2:decide (p<16)=false:=by simp;omega
  go_enter Tryx.func76,Tryz.ntmps76
  go_wp2
  go_ret
  exact⟨rfl,rfl⟩
theorem readPage_x(v:Value)(page:Int)(w:World)(hp:page<0\/16<=page):Calls Tryx.prog 46 #[v,.int .i64 page] w fun x w'=>x=.returned (.tuple #[.int .i64 0,errK 2])/\w=w':=by
 go_enter Tryx.func46,Tryz.ntmps46
 go_wp2_with fail
 refine (noPage_x page w hp).mono ?_
 rintro y w1 ⟨rfl,rfl⟩
 go_wp2_with fail
 go_ret2
 exact⟨rfl,rfl⟩
theorem yesPage_x(p:Int)(w:World)(h0:0<=p)(h1:p<16):
  Calls Tryx.prog 76 #[.int .i64 p] w fun e w'=>e=.returned (.bool true)/\w=w':=by
 go_enter Tryx.func76,Tryz.ntmps76
 go_wp2
 go_ret
 exact⟨rfl,rfl⟩
theorem writePage_x(v d:Value)(page:Int)(w:World)(hp:page<0\/16<=page):Calls Tryx.prog 60 #[v,.int .i64 page,d] w fun x w'=>x=.returned (.tuple #[.int .i64 0,errK 2])/\w=w':=by
 go_enter Tryx.func60,Tryz.ntmps60
 go_wp2_with fail
 refine (noPage_x page w hp).mono ?_
 rintro y w1 ⟨rfl,rfl⟩
 go_wp2_with fail
 go_ret2
 exact⟨rfl,rfl⟩
theorem writeData_x(v:Value)(page:Int)(a:Option Addr)(n c:Nat)(w:World)(hp:0<=page/\page<16)(hn:n≠4)(hn1:n<=9223372036854775807):Calls Tryx.prog 60 #[v,.int .i64 page,.slice a n c] w fun x w'=>x=.returned (.tuple #[.int .i64 0,errK 3])/\w=w':=by
 have h4:((n:Int) == 4)=false:=by rw[beq_eq_false_iff_ne];omega
 go_enter Tryx.func60,Tryz.ntmps60
 go_wp2_with fail
 refine (yesPage_x page w hp.1 hp.2).mono ?_
 rintro y w1 ⟨rfl,rfl⟩
 go_wp2_with fail
 go_ret2
 exact⟨rfl,rfl⟩
section
variable {q:Nat} {t:St} {F:Nat->Prop} {w:World}
theorem read_page_p(hg:ErrVar w)(page:Int)(hp:page<0\/16<=page):
  Calls Tryx.prog 25 #[ptr q,.int .i64 page] w fun x w'=>x=.returned (.tuple #[.int .i64 0,plErr 2 (-1) 0])/\Below w.heap.size w w':=by
 refine (plRead_of q page 2 (-1) 0 w (fun X err w'=>X=.int .i64 0/\err=errK 2/\w'=w.alloc zErr) ?_ ?_).mono ?_
 ·exact (readPage_x (ptr q) page (w.alloc zErr) hp).mono fun x w' ⟨h1,h2⟩=>⟨_,_,h1,rfl,rfl,h2.symm⟩
 ·rintro X err w' ⟨rfl,rfl,rfl⟩
  exact⟨hg.alloc _,.kind 2 (by omega),zErr_alloc w⟩
 ·rintro x w' ⟨X,err,w1,rfl,⟨rfl,rfl,rfl⟩,hc⟩
  exact⟨rfl,Chg.below (((Chg.refl (fun _=>False) w).alloc _).trans (hc.mono fun k _ hk=>.inr (by omega)))⟩
theorem write_page_p(hg:ErrVar w)(v:Value)(page:Int)(hp:page<0\/16<=page):
  Calls Tryx.prog 33 #[ptr q,.int .i64 page,v] w fun x w'=>x=.returned (.tuple #[.int .i64 0,plErr 2 (-1) 0])/\Below w.heap.size w w':=by
 refine (plWrite_of q v page 2 (-1) 0 w (fun X err w'=>X=.int .i64 0/\err=errK 2/\w'=w.alloc zErr) ?_ ?_).mono ?_
 ·exact (writePage_x (ptr q) v page (w.alloc zErr) hp).mono fun x w' ⟨h1,h2⟩=>⟨_,_,h1,rfl,rfl,h2.symm⟩
 ·rintro X err w' ⟨rfl,rfl,rfl⟩
  exact⟨hg.alloc _,.kind 2 (by omega),zErr_alloc w⟩
 ·rintro x w' ⟨X,err,w1,rfl,⟨rfl,rfl,rfl⟩,hc⟩
  exact⟨rfl,Chg.below (((Chg.refl (fun _=>False) w).alloc _).trans (hc.mono fun k _ hk=>.inr (by omega)))⟩
theorem write_data_p(hg:ErrVar w)(a:Option Addr)(n c:Nat)(page:Int)(hp:0<=page/\page<16)(hn:n≠4)(hn1:n<=9223372036854775807):
  Calls Tryx.prog 33 #[ptr q,.int .i64 page,.slice a n c] w fun x w'=>x=.returned (.tuple #[.int .i64 0,plErr 3 (-1) 0])/\Below w.heap.size w w':=by
 refine (plWrite_of q _ page 3 (-1) 0 w (fun X err w'=>X=.int .i64 0/\err=errK 3/\w'=w.alloc zErr) ?_ ?_).mono ?_
 ·exact (writeData_x (ptr q) page a n c (w.alloc zErr) hp hn hn1).mono fun x w' ⟨h1,h2⟩=>⟨_,_,h1,rfl,rfl,h2.symm⟩
 ·rintro X err w' ⟨rfl,rfl,rfl⟩
  exact⟨hg.alloc _,.kind 3 (by omega),zErr_alloc w⟩
 ·rintro x w' ⟨X,err,w1,rfl,⟨rfl,rfl,rfl⟩,hc⟩
  exact⟨rfl,Chg.below (((Chg.refl (fun _=>False) w).alloc _).trans (hc.mono fun k _ hk=>.inr (by omega)))⟩
end
theorem read_both(t:St)(hk:t.Ok)(hsm:t.Small)(page:Int):∃ (num k:Int) (T:St),T.Ok/\T.last<=t.last+1/\T.now=t.now/\
  (∀ (w:World) (q:Nat) (F:Nat->Prop),QT w q t F->ErrVar w->¬F 0->Calls Tryx.prog 25 #[ptr q,.int .i64 page] w fun y w'=>∃ F',y=.returned (.tuple #[.int .i64 num,plErr k (-1) 0])/\QT w' q T F'/\(∀ k,F' k->F k\/w.heap.size<=k)/\Chg F w w')/\
  (∀ (w:World) (q:Nat) (G:Nat->Prop),RT w q t G->Calls Tryx.prog 79 #[ptr q,.bool false,.int .i64 page,.string ⟨#[]⟩] w fun y w'=>∃ G',y=.returned (.tuple #[.int .i64 num,.int .i64 k])/\RT w' q T G'/\(∀ k,G' k->G k\/w.heap.size<=k)/\Chg G w w'):=by
 by_cases hp:0<=page/\page<16
 ·by_cases hh:t.held<40
  ·refine⟨t.last+1,0,t.add false page ⟨0,0,0,0⟩,ok_add hk hh false page hp _ (by unfold BOk;decide),Int.le_refl _,rfl,fun w q F h hg h0=>?_,fun w q G h=>?_⟩
   ·exact (read_p h hk hsm hg h0 hh page hp).mono fun x w' ⟨e,h1,h2⟩=>⟨_,e,h1,fun k hk=>hk.imp id fun e=>by omega,h2⟩
   ·exact ask_r_r h hk hsm false page ⟨0,0,0,0⟩ ⟨#[]⟩ hp (fun e=>by cases e) hh
  ·refine⟨0,4,t,hk,by omega,rfl,fun w q F h hg _=>?_,fun w q G h=>?_⟩
   ·exact (read_full_p h hg (by omega) page hp).mono fun x w' ⟨e,hb⟩=>⟨F,e,h.below hb,fun k hk=>.inl hk,chgB hb _⟩
   ·exact (ask_full_r h hk hsm false page ⟨#[]⟩ hp (fun e=>by cases e) (by omega)).mono fun x w' ⟨e,hb⟩=>⟨G,e,h.below hb,fun k hk=>.inl hk,chgB hb _⟩
 ·have hp':page<0\/16<=page:=by omega
  refine⟨0,2,t,hk,by omega,rfl,fun w q F h hg _=>?_,fun w q G h=>?_⟩
  ·exact (read_page_p hg page hp').mono fun x w' ⟨e,hb⟩=>⟨F,e,h.below hb,fun k hk=>.inl hk,chgB hb _⟩
  ·exact (ask_page_r false page ⟨#[]⟩ w (ptr q) hp').mono fun x w' ⟨e,hb⟩=>⟨G,e,hb ▸ h,fun k hk=>.inl hk,hb ▸ Chg.refl _ _⟩
def b4of(s:ByteArray):B4:=⟨s.data.toList.getD 0 0 |>.toNat,s.data.toList.getD 1 0 |>.toNat,s.data.toList.getD 2 0 |>.toNat,s.data.toList.getD 3 0 |>.toNat⟩
theorem b4of_ok(s:ByteArray):BOk (b4of s):=by
 unfold BOk b4of
 have g:∀ b:UInt8,(0:Int)<=(b.toNat:Int)/\(b.toNat:Int)<=255:=fun b=>by have:=b.toNat_lt;omega
 exact⟨g _,g _,g _,g _⟩
theorem str4_b4of(s:ByteArray)(h:s.size=4):s=str4 (b4of s):=by
 obtain⟨⟨l⟩⟩:=s
 match l,h with
 | [a,b,c,d],_=>
   simp[str4,b4of,strOfNums]
theorem write_both(t:St)(hk:t.Ok)(hsm:t.Small)(page:Int)(S:ByteArray)(hS:S.size<=1000000):∃ (num k:Int) (T:St),T.Ok/\T.last<=t.last+1/\T.now=t.now/\
  (∀ (w:World) (q:Nat) (F:Nat->Prop) (a:Option Addr) (c:Nat),QT w q t F->ErrVar w->¬F 0->(S.size=4->DatV w (.slice a 4 c) (b4of S))->Calls Tryx.prog 33 #[ptr q,.int .i64 page,.slice a S.size c] w fun y w'=>∃ F',y=.returned (.tuple #[.int .i64 num,plErr k (-1) 0])/\QT w' q T F'/\(∀ k,F' k->F k\/w.heap.size<=k)/\Chg F w w')/\
  (∀ (w:World) (q:Nat) (G:Nat->Prop),RT w q t G->Calls Tryx.prog 79 #[ptr q,.bool true,.int .i64 page,.string S] w fun y w'=>∃ G',y=.returned (.tuple #[.int .i64 num,.int .i64 k])/\RT w' q T G'/\(∀ k,G' k->G k\/w.heap.size<=k)/\Chg G w w'):=by
 by_cases hp:0<=page/\page<16
 ·by_cases h4:S.size=4
  ·rw[h4]
   by_cases hh:t.held<40
   ·refine⟨t.last+1,0,t.add true page (b4of S),ok_add hk hh true page hp _ (b4of_ok S),Int.le_refl _,rfl,fun w q F a c h hg h0 hd=>?_,fun w q G h=>?_⟩
    ·exact (write_p h hk hsm hg h0 hh page hp (b4of S) c a (hd rfl)).mono fun x w' ⟨e,h1,h2⟩=>⟨_,e,h1,fun k hk=>hk.imp id fun e=>by omega,h2⟩
    ·exact ask_r_r h hk hsm true page (b4of S) S hp (fun _=>str4_b4of S h4) hh
   ·refine⟨0,4,t,hk,by omega,rfl,fun w q F a c h hg _ _=>?_,fun w q G h=>?_⟩
    ·exact (write_full_p h hg (by omega) page hp c a).mono fun x w' ⟨e,hb⟩=>⟨F,e,h.below hb,fun k hk=>.inl hk,chgB hb _⟩
    ·exact (ask_full_r h hk hsm true page S hp (fun _=>h4) (by omega)).mono fun x w' ⟨e,hb⟩=>⟨G,e,h.below hb,fun k hk=>.inl hk,chgB hb _⟩
  ·refine⟨0,3,t,hk,by omega,rfl,fun w q F a c h hg _ _=>?_,fun w q G h=>?_⟩
   ·exact (write_data_p hg a S.size c page hp h4 (by omega)).mono fun x w' ⟨e,hb⟩=>⟨F,e,h.below hb,fun k hk=>.inl hk,chgB hb _⟩
   ·exact (ask_data_r page S w (ptr q) hp h4 (by unfold maxLen;omega)).mono fun x w' ⟨e,hb⟩=>⟨G,e,hb ▸ h,fun k hk=>.inl hk,hb ▸ Chg.refl _ _⟩
 ·have hp':page<0\/16<=page:=by omega
  refine⟨0,2,t,hk,by omega,rfl,fun w q F a c h hg _ _=>?_,fun w q G h=>?_⟩
  ·exact (write_page_p hg _ page hp').mono fun x w' ⟨e,hb⟩=>⟨F,e,h.below hb,fun k hk=>.inl hk,chgB hb _⟩
  ·exact (ask_page_r true page S w (ptr q) hp').mono fun x w' ⟨e,hb⟩=>⟨G,e,hb ▸ h,fun k hk=>.inl hk,hb ▸ Chg.refl _ _⟩
end
section
open Go.RowKit Go.Shelf Go.Lib
set_option maxRecDepth 100000
set_option maxHeartbeats 8000000
section
variable {wb w:World} {wl:Nat} {ow:Nat->Lab} {qv bv iv:Value} {ps:List LP} {bs is:List Value}
theorem asked_read_l(h:LB wb w wl ow qv bv iv ps bs is){j:Nat}{p:LP}(hp:ps[j]?=some p)(htu:p.u=p.t)(hk:p.t.Ok)(hsm:p.t.Small)(B A C:Int)(S:ByteArray):
  Calls Tryx.prog 51 #[.agg #[ptr p.x,ptr p.m],opV 2 A B C S] w fun y w'=>∃ ow' T,y=.returned (.bool true)/\LB wb w' wl ow' qv bv iv (ps.set j {p with t:=T,u:=T}) bs is/\T.Ok/\T.last<=p.t.last+1/\T.now=p.t.now:=by
 obtain⟨ow,h,_,hlo⟩:=h.norm
 obtain⟨num,k,T,hT,hTl,hTn,hX,hM⟩:=read_both p.t hk hsm B
 obtain⟨px,hpx⟩:∃ px,p.x=px:=⟨_,rfl⟩
 obtain⟨pm,hpm⟩:∃ pm,p.m=pm:=⟨_,rfl⟩
 rw[hpx,hpm]
 obtain⟨W0,hW0⟩:∃ W0,(w.alloc (.cells #[ptr px,ptr pm] 114)).alloc (.cells #[.int .i64 2,.int .i64 A,.int .i64 B,.int .i64 C,.string S] 73)=W0:=⟨_,rfl⟩
 have hb0:Below w.heap.size w W0:=by rw[<-hW0];exact ((Below.refl _ _).alloc (Nat.le_refl _) _).alloc (by simp) _
 have ho0:W0.heap[w.heap.size+1]?=some (.cells #[.int .i64 2,.int .i64 A,.int .i64 B,.int .i64 C,.string S] 73 (0,0)):=by
  rw[<-hW0]
  have:=World.alloc_heap_new (w.alloc (.cells #[ptr px,ptr pm] 114)) (.cells #[.int .i64 2,.int .i64 A,.int .i64 B,.int .i64 C,.string S] 73)
  rwa [show (w.alloc (.cells #[ptr px,ptr pm] 114)).heap.size=w.heap.size+1 from by simp]at this
 have h0:W0.heap[w.heap.size]?=some (.cells #[ptr px,ptr pm] 114 (0,0)):=by
  rw[<-hW0]
  refine (Below.heap_alloc _ _ _ (by simp)).trans ?_
  exact World.alloc_heap_new w _
 have z0:W0.cell? ⟨w.heap.size+1,0,none⟩=some (.int .i64 2):=cell_of ho0 rfl
 have z2:W0.cell? ⟨w.heap.size+1,2,none⟩=some (.int .i64 B):=cell_of ho0 rfl
 have a0:W0.cell? ⟨w.heap.size,0,none⟩=some (ptr px):=cell_of h0 rfl
 have a1:W0.cell? ⟨w.heap.size,1,none⟩=some (ptr pm):=cell_of h0 rfl
 have HL:=Lib.hid h
 have HP:=Lib.hid (And.intro hp (And.intro htu (And.intro hT (And.intro hTl hTn))))
 have HX:=Lib.hid hX
 have HM:=Lib.hid hM
 have HW0:=Lib.hid hW0
 have HB0:=Lib.hid hb0
 have HH0:=Lib.hid h0
 have HHO:=Lib.hid ho0
 have HLO:=Lib.hid hlo
 have HPX:=Lib.hid (And.intro hpx hpm)
 clear h hp htu hX hM hW0 hb0 h0 ho0 hT hTl hTn hlo hpx hpm
 unfold opV
 go_enter Tryx.func51,Tryz.ntmps51
 go_upto_region 1 with fail
 rw[HW0.out]
 go_wp2_with fail
 have hL0:=HL.out.below HB0.out
 refine (HX.out W0 px (fun k=>ow k=.x j) (by rw[<-HPX.out.1];exact hL0.xs j p HP.out.1) hL0.err (hL0.nf j)).mono ?_
 rintro y w1 ⟨F',rfl,hq,hF,hc⟩
 obtain⟨ow1,hL1,ho1,ho2⟩:=hL0.stepX HP.out.1 (by rw[HPX.out.1];exact hq.lt) (fun k (hk:F' k/\k<w1.heap.size)=>hF k hk.1) hc
 have hz0:=lt_of_heap HH0.out
 have hlz:ow w.heap.size=.loose:=HLO.out _ (Nat.le_refl _)
 have hh1:=(hc.block _ hz0 (fun e=>by rw[hlz]at e;cases e)).trans HH0.out
 obtain⟨W2,hW2⟩:∃ W2,w1.alloc (.cells #[.int .i64 k,.int .i64 (-1),.int .i64 0,.bool true] 39)=W2:=⟨_,rfl⟩
 have hb2:Below w1.heap.size w1 W2:=by rw[<-hW2];exact (Below.refl _ _).alloc (Nat.le_refl _) _
 have hh2:=(hb2.block _ (lt_of_heap hh1)).trans hh1
 have he2:W2.heap[w1.heap.size]?=some (.cells #[.int .i64 k,.int .i64 (-1),.int .i64 0,.bool true] 39 (0,0)):=by rw[<-hW2];exact World.alloc_heap_new _ _
 have d1:W2.cell? ⟨w.heap.size,1,none⟩=some (ptr pm):=cell_of hh2 rfl
 have hz1:=hc.size
 have hzo:=lt_of_heap HHO.out
 have hho1:=(hc.block _ hzo (fun e=>by rw[HLO.out _ (Nat.le_succ _)]at e;cases e)).trans HHO.out
 have hho2:=(hb2.block _ (lt_of_heap hho1)).trans hho1
 have dB:W2.cell? ⟨w.heap.size+1,2,none⟩=some (.int .i64 B):=cell_of hho2 rfl
 have HL1:=Lib.hid (hL1.below hb2)
 have HO:=Lib.hid (And.intro ho1 ho2)
 have HE2:=Lib.hid he2
 have HW2:=Lib.hid hW2
 have HZ2:=Lib.hid hb2
 clear hq hF hc hL0 hL1 ho1 ho2 hh1 hb2 hh2 he2 hW2 a0 a1 hho1 hho2 z0 z2
 go_upto_region 3 with fail
 rw[HW2.out]
 go_wp2_with fail
 have hp2:=set_at HP.out.1 {p with t:=T}
 have hm2:=HL1.out.ms j _ hp2
 simp only at hm2
 rw[HPX.out.2,HP.out.2.1]at hm2
 refine (HM.out W2 pm (fun k=>ow1 k=.m j) hm2).mono ?_
 rintro y w3 ⟨G',rfl,hq,hG,hc⟩
 obtain⟨ow2,hL2,ho3,_⟩:=HL1.out.stepM hp2 (u':=T) (by simp only;rw[HPX.out.2];exact hq.lt) (fun k (hk:G' k/\k<w3.heap.size)=>hG k hk.1) hc
 rw[List.set_set]at hL2
 have hle:ow1 w1.heap.size=.loose:=HO.out.2 _ hz1 (fun e=>by omega)
 have he3:=(hc.block _ (lt_of_heap HE2.out) (fun e=>by rw[hle]at e;cases e)).trans HE2.out
 have g0:w3.cell? ⟨w1.heap.size,0,none⟩=some (.int .i64 k):=cell_of he3 rfl
 have g1:w3.cell? ⟨w1.heap.size,1,none⟩=some (.int .i64 (-1)):=cell_of he3 rfl
 have g2:w3.cell? ⟨w1.heap.size,2,none⟩=some (.int .i64 0):=cell_of he3 rfl
 have g3:w3.cell? ⟨w1.heap.size,3,none⟩=some (.bool true):=cell_of he3 rfl
 have HL2:=Lib.hid hL2
 clear hp2 hm2 hq hG hc hL2 ho3 hle he3
 go_wp2_with fail
 refine (none_l k w3).mono ?_
 rintro y w4 ⟨rfl,hB4⟩
 go_wp2_with fail
 go_ret
 exact⟨ow2,T,rfl,by rw[<-HPX.out.1,<-HPX.out.2];exact HL2.out.below hB4,HP.out.2.2⟩
end
end
section
open Go.RowKit Go.Shelf Go.Lib
theorem complete_both(t:St)(hk:t.Ok)(hsm:t.Small)(n:Int)(fault:Bool):∃ (ok:Bool) (k:Int) (T:St),((ok=false/\k=10)\/(ok=true/\k=0))/\T.Ok/\T.last=t.last/\T.now=t.now/\
  (∀ (w:World) (q:Nat) (F:Nat->Prop),QT w q t F->ErrVar w->¬F 0->Calls Tryx.prog 19 #[ptr q,.int .i64 n,.bool fault] w fun y w'=>∃ F',y=.returned (plErr k (-1) 0)/\QT w' q T F'/\(∀ k,F' k->F k\/w.heap.size<=k)/\Chg F w w')/\
  (∀ (w:World) (q:Nat) (G:Nat->Prop),RT w q t G->Calls Tryx.prog 55 #[ptr q,.int .i64 n,.bool fault] w fun y w'=>∃ G',y=.returned (.bool ok)/\RT w' q T G'/\(∀ k,G' k->G k\/w.heap.size<=k)/\Chg G w w'):=by
 by_cases hn:n<0\/(t.cs.length:Int)<=n
 ·refine⟨false,10,t,.inl ⟨rfl,rfl⟩,hk,rfl,rfl,fun w q F h hg _=>?_,fun w q G h=>?_⟩
  ·exact (complete_no_p h hg n fault hn).mono fun x w' ⟨e,hb⟩=>⟨F,e,h.below hb,fun k hk=>.inl hk,chgB hb _⟩
  ·exact (complete_no_r w h n fault hn).mono fun x w' ⟨e,hb⟩=>⟨G,e,hb ▸ h,fun k hk=>.inl hk,hb ▸ Chg.refl _ _⟩
 ·obtain⟨i,rfl⟩:∃ i:Nat,n=i:=⟨n.toNat,by omega⟩
  obtain⟨c,hc⟩:∃ c,t.cs[i]?=some c:=⟨_,List.getElem?_eq_getElem (by omega)⟩
  have hT:t.complete i fault=some (c.nums.foldl (St.land fault) {t with cs:=t.cs.eraseIdx i}):=by unfold St.complete;rw[hc]
  obtain⟨_,_,_,e4,e5,_⟩:=lands_same fault c.nums {t with cs:=t.cs.eraseIdx i}
  refine⟨true,0,_,.inr ⟨rfl,rfl⟩,ok_complete hk hT,e5,e4,fun w q F h hg h0=>?_,fun w q G h=>?_⟩
  ·exact (complete_p h hk hsm hg h0 i fault _ hT).mono fun x w' ⟨e,h1,h2⟩=>⟨F,e,h1,fun k hk=>.inl hk,h2⟩
  ·exact complete_r w h hk hsm i fault _ hT
end
end Go.Proofs.YticobikhndlejaaGreatDoor
