/- Part 18 of the proof (see the last part). -/
import Derived.Test.YticobikhndlejaaGreatDoorAlQ
namespace Go.Proofs.YticobikhndlejaaGreatDoor
section
open Go.RowKit Go.Shelf Go.Lib
set_option maxRecDepth 100000
set_option maxHeartbeats 8000000
section
variable {wb w:World} {wl:Nat} {ow:Nat->Lab} {qv bv iv:Value} {ps:List LP} {bs is:List Value}
structure Flo(wb w:World)(wl:Nat)(qv bv:Value)(ps:List LP)(bs:List Value)(j i n0:Nat)(v fv:Value)(cs' fs:List (Cmd×Value))(ow:Nat->Lab)(iv:Value)(is:List Value):Prop where
 lb:LB wb w wl ow qv bv iv ps bs is
 len:is.length=n0+i
 row:w.ownsRow 0 48 4 v cs'.length (cs'.flatMap cmdCells)
 rowl:∀ k,v.ownBlock=some k->ow k=.loose
 rows:∀ (i':Nat) (c:Cmd×Value),i<=i'->cs'[i']?=some c->w.ownsRow 0 3 1 c.2 c.1.nums.length (c.1.nums.map fun n=>Value.int .i64 n)/\∀ k,c.2.ownBlock=some k->ow k=.loose
 mrow:w.ownsRow 0 48 4 fv fs.length (fs.flatMap cmdCells)
 mlab:∀ k,fv.ownBlock=some k->ow k=.m j
 mrows:∀ c∈fs,w.ownsRow 0 3 1 c.2 c.1.nums.length (c.1.nums.map fun n=>Value.int .i64 n)/\∀ k,c.2.ownBlock=some k->ow k=.m j
theorem row_ne{w:World}{b b' sz sz' n n':Nat}{ty ty':TypeId}{v v':Value}{xs xs':List Value}(h:w.ownsRow b ty sz v n xs)(h':w.ownsRow b' ty' sz' v' n' xs')(ht:ty≠ty'):∀ k,v.ownBlock=some k->v'.ownBlock≠some k:=fun k hk hk'=>by
 obtain⟨c,hc⟩:=own_heap h hk
 obtain⟨c',hc'⟩:=own_heap h' hk'
 exact ne_of_heap hc hc' (fun z=>by injection z with _ z2 _;exact ht z2) rfl
theorem flown_l(h:LB wb w wl ow qv bv iv ps bs is)(hil:is.length<=900000){j:Nat}{p:LP}(hp:ps[j]?=some p)(htu:p.u=p.t)(hk:p.t.Ok)(hsm:p.t.Small):
  Calls Tryx.prog 54 #[ptr wl,.agg #[ptr p.x,ptr p.m]] w fun y w'=>∃ ow' iv' is',y=.returned (.bool true)/\LB wb w' wl ow' qv bv iv' ps bs is'/\is'.length<=is.length+4:=by
 obtain⟨ow,h,_,hlo⟩:=h.norm
 obtain⟨px,hpx⟩:∃ px,p.x=px:=⟨_,rfl⟩
 obtain⟨pm,hpm⟩:∃ pm,p.m=pm:=⟨_,rfl⟩
 rw[hpx,hpm]
 obtain⟨W0,hW0⟩:∃ W0,w.alloc (.cells #[ptr px,ptr pm] 114)=W0:=⟨_,rfl⟩
 have h0:W0.heap[w.heap.size]?=some (.cells #[ptr px,ptr pm] 114 (0,0)):=by rw[<-hW0];exact World.alloc_heap_new _ _
 have hb0:Below w.heap.size w W0:=by rw[<-hW0];exact (Below.refl _ _).alloc (Nat.le_refl _) _
 have hL0:=h.below hb0
 have hxq:=hL0.xs j p hp
 have hmq:=hL0.ms j p hp
 rw[htu,hpm]at hmq
 rw[hpx]at hxq
 obtain⟨nf,hnf⟩:∃ nf,p.t.cs.length=nf:=⟨_,rfl⟩
 have hn4:nf<=4:=by have:=hk.len;have:=hk.a.depth;omega
 have hcl:∀ c∈p.t.cs,c.nums.length<=1000000:=fun c hc=>cmdnums_len hk hsm hc
 have a0:W0.cell? ⟨w.heap.size,0,none⟩=some (ptr px):=cell_of h0 rfl
 have a1:W0.cell? ⟨w.heap.size,1,none⟩=some (ptr pm):=cell_of h0 rfl
 have hz:=lt_of_heap h0
 have HL:=Lib.hid hL0
 have HX:=Lib.hid (And.intro (flights_c hxq hk hsm) hmq)
 have HNF:=Lib.hid (And.intro hnf hcl)
 have HW0:=Lib.hid hW0
 have HB0:=Lib.hid hb0
 have HLO:=Lib.hid hlo
 clear h hp htu hk hsm hW0 hlo hL0 hxq hmq hpx hpm hnf hcl h0 hb0
 go_enter Tryx.func54,Tryz.ntmps54
 go_upto_region 1 with fail
 rw[HW0.out]
 go_wp2_with fail
 refine HX.out.1.mono ?_
 rintro y w1 ⟨v,cs',rfl,hcs,hC,hb1⟩
 have d1:=(hb1.cell (p:=⟨w.heap.size,1,none⟩) hz).trans a1
 have hrow:=hC.row
 have hcn:cs'.length=nf:=by rw[<-HNF.out.1,<-hcs,List.length_map]
 rw[hcn]at hrow
 obtain⟨va,vc,rfl⟩:=own_slice hrow
 have hm1:=HX.out.2.below hb1
 have HC:=Lib.hid hC
 have HCS:=Lib.hid (And.intro hcs hcn)
 have HB1:=Lib.hid hb1
 have HM1:=Lib.hid hm1
 clear hrow hC hcs hcn hb1 hm1
 go_wp2_with fail
 refine (flights_m HM1.out).mono ?_
 rintro y w2 ⟨fv,fs,rfl,hfs,hF,hf1,hf2,rfl⟩
 have hfn:fs.length=nf:=by rw[<-HNF.out.1,<-hfs,List.length_map]
 have hfr:=hF.row
 rw[hfn]at hfr
 obtain⟨fa,fc,rfl⟩:=own_slice hfr
 have hflo:Flo wb w1 wl qv bv ps bs j 0 is.length (.slice va nf vc) (.slice fa nf fc) cs' fs ow iv is:=
  ⟨HL.out.below HB1.out,rfl,ownsRow_lowS HC.out.row (Nat.zero_le _),fun k hk=>HLO.out k (by have:=(HC.out.row.lt k hk).1;have:=HB0.out.size;omega),fun i' c _ hc=>⟨ownsRow_lowS (HC.out.rows c (List.mem_of_getElem? hc)) (Nat.zero_le _),fun k hk=>HLO.out k (by have:=((HC.out.rows c (List.mem_of_getElem? hc)).lt k hk).1;have:=HB0.out.size;omega)⟩,
    hF.row,hf1,fun c hc=>⟨hF.rows c hc,hf2 c hc⟩⟩
 have HFL:=Lib.hid hflo
 have HFS:=Lib.hid (And.intro hfs hfn)
 have HAP:=Lib.hid HC.out.apart
 clear hfr hF hf1 hf2 hfs hfn hflo HM1 a0 a1 d1
 go_wp2_with fail
 go_loopg [7] nf (fun kk xv wx=>∃ (i:Nat) (ow':Nat->Lab) (iv':Value) (is':List Value),kk=nf - i/\i<=nf/\xv=.int .i64 i/\Hid (Flo wb wx wl qv bv ps bs j i is.length (.slice va nf vc) (.slice fa nf fc) cs' fs ow' iv' is'))
 case atStart=>exact ⟨0,ow,iv,is,by simp,by omega,rfl,HFL⟩
 case round=>
  obtain⟨i,ow',iv',is',rfl,hi,rfl,hFl⟩:=hrel
  by_cases hlt:i<nf
  ·have hltI:(i:Int)<(nf:Int):=by omega
   have hi0:(0:Int)<=(i:Int):=by omega
   obtain⟨⟨c,cv⟩,hc⟩:∃ c,cs'[i]?=some c:=⟨_,List.getElem?_eq_getElem (by rw[HCS.out.2];exact hlt)⟩
   obtain⟨⟨c2,mv⟩,hc2⟩:∃ c,fs[i]?=some c:=⟨_,List.getElem?_eq_getElem (by rw[HFS.out.2];exact hlt)⟩
   have hcc:c2=c:=by
    have e1:p.t.cs[i]?=some c:=by rw[<-HCS.out.1,List.getElem?_map,hc];rfl
    have e2:p.t.cs[i]?=some c2:=by rw[<-HFS.out.1,List.getElem?_map,hc2];rfl
    exact Option.some.inj (e2.symm.trans e1)
   subst hcc
   have hcm:c2∈p.t.cs:=List.mem_of_getElem? (i:=i) (by rw[<-HCS.out.1,List.getElem?_map,hc];rfl)
   obtain⟨hr,hrl⟩:=hFl.out.rows i _ (Nat.le_refl _) hc
   obtain⟨hr2,hrl2⟩:=hFl.out.mrows _ (List.mem_of_getElem? hc2)
   obtain⟨g,cap,e,_,hgl,hcell⟩:=cmd_cells hFl.out.row hc
   simp only[Value.slice.injEq]at e
   obtain⟨rfl,hdrop,rfl⟩:=e
   clear hdrop
   obtain⟨g2,cap2,e,_,hgl2,hcell2⟩:=cmd_cells hFl.out.mrow hc2
   simp only[Value.slice.injEq]at e
   obtain⟨rfl,hdrop,rfl⟩:=e
   clear hdrop
   simp only at hr hr2 hrl hrl2
   obtain⟨ra,rc,rfl⟩:=own_slice hr
   obtain⟨sa,sc,rfl⟩:=own_slice hr2
   obtain⟨m,hm⟩:∃ m,c2.nums.length=m:=⟨_,rfl⟩
   have p0:wr.cell? ⟨g,i*4,none⟩=some (.bool c2.write):=hcell 0 _ rfl
   have p1:wr.cell? ⟨g,i*4+1,none⟩=some (.int .i64 c2.page):=hcell 1 _ rfl
   have p2:wr.cell? ⟨g,i*4+2,none⟩=some (.int .i64 c2.count):=hcell 2 _ rfl
   have p3:wr.cell? ⟨g,i*4+3,none⟩=some (.slice ra m rc):=by rw[<-hm];exact hcell 3 _ rfl
   have q0:wr.cell? ⟨g2,i*4,none⟩=some (.bool c2.write):=hcell2 0 _ rfl
   have q1:wr.cell? ⟨g2,i*4+1,none⟩=some (.int .i64 c2.page):=hcell2 1 _ rfl
   have q2:wr.cell? ⟨g2,i*4+2,none⟩=some (.int .i64 c2.count):=hcell2 2 _ rfl
   have q3:wr.cell? ⟨g2,i*4+3,none⟩=some (.slice sa m sc):=by rw[<-hm];exact hcell2 3 _ rfl
   have HR:=Lib.hid (And.intro hr (And.intro hr2 (And.intro hrl hrl2)))
   have HCC:=Lib.hid (And.intro hc (And.intro hc2 (And.intro hcm hm)))
   clear hr hr2 hrl hrl2 hcell hcell2 hc hc2 hcm hm
   go_wp2_with fail
   go_still_tail 9,(by kernel_rfl)
   change wpList _ _ _ _ _ wr.drew
   obtain⟨W1,hW1⟩:∃ W1,wr.drew=W1:=⟨_,rfl⟩
   have hB1:Below wr.heap.size wr W1:=by rw[<-hW1];exact (Below.refl _ _).drew
   have hcom:=command_l (hFl.out.lb.below hB1) (by have:=hFl.out.len;omega) c2.write c2.page c2.count _ _ c2.nums (ownsRow_chg HR.out.1 (chgB hB1 fun _=>False) fun _ _ z=>z) (ownsRow_chg HR.out.2.1 (chgB hB1 fun _=>False) fun _ _ z=>z) (HNF.out.2 _ HCC.out.2.2.1) HR.out.2.2.1
   rw[HCC.out.2.2.2]at hcom
   have HCO:=Lib.hid hcom
   have HB1:=Lib.hid hB1
   rw[hW1]
   clear hcom hB1 hW1 p0 p1 p2 p3 q0 q1 q2 q3
   go_wp2_with fail
   refine HCO.out.mono ?_
   rintro y w3 ⟨ow2,iv2,f,rfl,hL3,hk3,hc3⟩
   have hcall:Chg (fun k=>k=wl\/iv'.ownBlock=some k\/(Value.slice ra m rc).ownBlock=some k) wr w3:=(chgB HB1.out _).then hc3
   have hnl:∀ {l:Lab},l≠.me->l≠.is->l≠.loose->∀ k,ow' k=l->¬(k=wl\/iv'.ownBlock=some k\/(Value.slice ra m rc).ownBlock=some k):=fun n1 n2 n3 k hk hs=>by
    rcases hs with e | e | e
    ·rw[e,hFl.out.lb.own]at hk;exact n1 hk.symm
    ·rw[hFl.out.lb.io k e]at hk;exact n2 hk.symm
    ·rw[HR.out.2.2.1 k (by rw[HCC.out.2.2.2];exact e)]at hk;exact n3 hk.symm
   have hra:∀ k,(Value.slice ra c2.nums.length rc).ownBlock=some k->(Value.slice ra m rc).ownBlock=some k:=fun k hk=>by rw[HCC.out.2.2.2]at hk;exact hk
   have hkeep:∀ {b ty sz n:Nat} {x:Value} {xs:List Value},wr.ownsRow b ty sz x n xs->(∀ k,x.ownBlock=some k->ow' k=.loose/\(Value.slice ra m rc).ownBlock≠some k)->w3.ownsRow b ty sz x n xs/\∀ k,x.ownBlock=some k->ow2 k=.loose:=fun hx hn=>by
    refine⟨ownsRow_chg hx hcall fun k hk hs=>?_,fun k hk=>?_⟩
    ·rcases hs with e | e | e
     ·have:=(hn k hk).1;rw[e,hFl.out.lb.own]at this;cases this
     ·have:=(hn k hk).1;rw[hFl.out.lb.io k e]at this;cases this
     ·exact (hn k hk).2 e
    ·rw[hk3 k (Nat.lt_of_lt_of_le (hx.lt k hk).2 HB1.out.size) (hn k hk).2];exact (hn k hk).1
   have hkeepM:∀ {b ty sz n:Nat} {x:Value} {xs:List Value},wr.ownsRow b ty sz x n xs->(∀ k,x.ownBlock=some k->ow' k=.m j)->w3.ownsRow b ty sz x n xs/\∀ k,x.ownBlock=some k->ow2 k=.m j:=fun hx hn=>by
    refine⟨ownsRow_chg hx hcall fun k hk=>hnl (by simp) (by simp) (by simp) k (hn k hk),fun k hk=>?_⟩
    rw[hk3 k (Nat.lt_of_lt_of_le (hx.lt k hk).2 HB1.out.size) (fun e=>by have h1:=hn k hk;rw[HR.out.2.2.1 k (by rw[HCC.out.2.2.2];exact e)]at h1;cases h1)]
    exact hn k hk
   have hrr:=hFl.out.row
   have hflo:Flo wb w3 wl qv bv ps bs j (i+1) is.length (.slice (some ⟨g,0,none⟩) nf vc) (.slice (some ⟨g2,0,none⟩) nf fc) cs' fs ow2 iv2 (is' ++ [f]):=by
    obtain⟨x1,x2⟩:=hkeep hFl.out.row fun k hk=>⟨hFl.out.rowl k hk,row_ne hFl.out.row (HCC.out.2.2.2 ▸ HR.out.1) (by decide) k hk⟩
    obtain⟨y1,y2⟩:=hkeepM hFl.out.mrow hFl.out.mlab
    refine⟨hL3,by rw[List.length_append,hFl.out.len];rfl,x1,x2,fun i2 d hi2 hd=>?_,y1,y2,fun d hd=>?_⟩
    ·obtain⟨z1,z2⟩:=hFl.out.rows i2 d (by omega) hd
     refine hkeep z1 fun k hk=>⟨z2 k hk,fun e=>?_⟩
     obtain⟨q1,q2⟩:=List.getElem?_eq_some_iff.1 HCC.out.1
     obtain⟨q3,q4⟩:=List.getElem?_eq_some_iff.1 hd
     refine List.pairwise_iff_getElem.1 HAP.out i i2 q1 q3 (by omega) k ?_ (by rw[q4];exact hk)
     rw[q2];exact (by rw[HCC.out.2.2.2];exact e)
    ·obtain⟨z1,z2⟩:=hFl.out.mrows d hd
     exact hkeepM z1 z2
   have HF3:=Lib.hid hflo
   clear hL3 hk3 hc3 hcall hnl hra hkeep hkeepM hrr hflo
   go_wp2_with fail
   go_roundg (nf - (i+1))
   case measure=>omega
   case rel=>exact ⟨i+1,ow2,iv2,is' ++ [f],rfl,by omega,by go_num,HF3⟩
  ·obtain rfl:i=nf:=by omega
   have hFo:=hFl.out
   rcases hFo.row.2 with ⟨hv,h0⟩ |⟨g,cap,cur,hv,hbg,h3,h4,h5,h6,h7⟩
   ·simp only[Value.slice.injEq]at hv
    obtain⟨rfl,hnz,rfl⟩:=hv
    subst hnz
    clear hFo h0
    go_wp2_with fail
    go_loopg [10] 0 (fun k i wx=>i=.int .i64 0/\wx=wr)
    case atStart=>exact ⟨rfl,rfl⟩
    case round=>
     obtain⟨rfl,rfl⟩:=hrel
     go_wp2_with fail
     go_ret
     exact⟨ow',iv',is',rfl,hFl.out.lb,by have:=hFl.out.len;omega⟩
   ·simp only[Value.slice.injEq]at hv
    obtain⟨rfl,hnz,rfl⟩:=hv
    have hgl:=hFo.rowl g rfl
    have HH:=Lib.hid h3
    have hcap:vc<=9223372036854775807:=by have:=h5;unfold maxLen at this;exact this
    have h6':cur.size=vc*4:=h6
    have hnc:i<=vc:=by rw[hnz];exact h4
    have HC6:=Lib.hid h6'
    clear hFo h3 h5 h6 h6' h7 hbg hnz h4
    go_wp2_with fail
    obtain⟨wz,rfl⟩:∃ z,z=wr:=⟨_,rfl⟩
    go_loopg [10] vc (fun kk xv wx=>∃ (i:Nat) (cur':Array Value),kk=vc - i/\i<=vc/\xv=.int .i64 i/\Hid (Chg (fun k=>k=g) wz wx/\wx.heap[g]?=some (.cells cur' 48 (0,0))/\cur'.size=vc*4))
    case atStart=>exact ⟨0,cur,by simp,by omega,rfl,Lib.hid ⟨Chg.refl _ _,HH.out,HC6.out⟩⟩
    case round=>
     obtain⟨i2,cur',rfl,hi2,rfl,hC2⟩:=hrel
     by_cases hlt2:i2<vc
     ·have hltI2:(i2:Int)<(vc:Int):=by omega
      have hi20:(0:Int)<=(i2:Int):=by omega
      have gf:∀ j,wr.frozen? ⟨g,i2*4+j,none⟩=false:=fun j=>free_of hC2.out.2.1
      have gf0:wr.frozen? ⟨g,i2*4,none⟩=false:=gf 0
      have gc:∀ j,j<4->∃ x,wr.cell? ⟨g,i2*4+j,none⟩=some x:=fun j hj=>⟨_,cell_of hC2.out.2.1 (Array.getElem?_eq_getElem (by have:=hC2.out.2.2;omega))⟩
      obtain⟨x0,c0'⟩:=gc 0 (by omega)
      have c0:wr.cell? ⟨g,i2*4,none⟩=some x0:=c0'
      obtain⟨x1,c1⟩:=gc 1 (by omega)
      obtain⟨x2,c2⟩:=gc 2 (by omega)
      obtain⟨x3,c3⟩:=gc 3 (by omega)
      clear gc c0'
      go_wp2_with fail
      go_roundg (vc - (i2+1))
      case measure=>omega
      case rel=>
       refine⟨i2+1,_,rfl,by omega,by go_num,Lib.hid ⟨(((hC2.out.1.setCell (p:=⟨g,i2*4,none⟩) (.inl rfl) _).setCell (p:=⟨g,i2*4+1,none⟩) (.inl rfl) _).setCell (p:=⟨g,i2*4+2,none⟩) (.inl rfl) _).setCell (p:=⟨g,i2*4+3,none⟩) (.inl rfl) _,heap_setCell (i:=i2*4+3) _ (heap_setCell (i:=i2*4+2) _ (heap_setCell (i:=i2*4+1) _ (heap_setCell (i:=i2*4) _ hC2.out.2.1))),by simpa using hC2.out.2.2⟩⟩
     ·obtain rfl:i2=vc:=by omega
      have hLf:=hFl.out.lb.chg hC2.out.1 fun k hk=>by rw[hk];exact hgl
      have HLF:=Lib.hid hLf
      clear hLf
      go_wp2_with fail
      go_ret
      exact⟨ow',iv',is',rfl,HLF.out,by have:=hFl.out.len;omega⟩
end
end
section
open Go.RowKit Go.Shelf Go.Lib
set_option maxRecDepth 100000
def pickJ(c n:Int):Int:=(if c<0 then -(c+1)else c) % n
theorem pickJ_lt(c:Int){n:Int}(hn:0<n):0<=pickJ c n/\pickJ c n<n:=⟨Int.emod_nonneg _ (by omega),Int.emod_lt_of_pos _ hn⟩
theorem pick_l(c n:Int)(w:World)(hc:-9223372036854775808<=c/\c<=9223372036854775807)(hn:0<n/\n<=1000000):Calls Tryx.prog 50 #[.int .i64 c,.int .i64 n] w fun x w'=>x=.returned (.int .i64 (pickJ c n))/\w'=w:=by
 have hn0:(n == 0)=false:=by simp;omega
 have hnn:¬n=0:=by omega
 by_cases h0:c<0
 ·have d0:decide (c<0)=true:=by simpa using h0
  have w1:IntKind.i64.wrap (c+1)=c+1:=by rw[IntKind.wrap_i64];omega
  have w2:IntKind.i64.wrap (-(c+1))= -(c+1):=by rw[IntKind.wrap_i64];omega
  have e:(-(c+1)).tmod n=pickJ c n:=by unfold pickJ;rw[if_pos h0,Int.tmod_eq_emod_of_nonneg (by omega)]
  have hp:=pickJ_lt c hn.1
  have w3:IntKind.i64.wrap (pickJ c n)=pickJ c n:=by rw[IntKind.wrap_i64];omega
  clear h0
  go_enter Tryx.func50,Tryz.ntmps50
  go_wp2_with fail
  go_ret
  exact⟨rfl,rfl⟩
 ·have d0:decide (c<0)=false:=by simpa using h0
  have e:c.tmod n=pickJ c n:=by unfold pickJ;rw[if_neg h0,Int.tmod_eq_emod_of_nonneg (by omega)]
  have hp:=pickJ_lt c hn.1
  have w3:IntKind.i64.wrap (pickJ c n)=pickJ c n:=by rw[IntKind.wrap_i64];omega
  go_enter Tryx.func50,Tryz.ntmps50
  go_wp2_with fail
  go_ret
  exact⟨rfl,rfl⟩
theorem flat2:∀ {ps:List LP} {j:Nat} {p:LP},ps[j]?=some p->(ps.flatMap pCells)[j*2]?=some (ptr p.x)/\(ps.flatMap pCells)[j*2+1]?=some (ptr p.m)
 | [],_,_,h=>by simp at h
 | a :: ps,0,p,h=>by
   simp only[List.getElem?_cons_zero,Option.some.injEq]at h
   subst h
   exact⟨rfl,rfl⟩
 | a :: ps,j+1,p,h=>by
   rw[List.getElem?_cons_succ]at h
   obtain⟨h1,h2⟩:=flat2 h
   rw[show (j+1)*2=j*2+1+1 from by omega]
   simp only[List.flatMap_cons,pCells,List.cons_append,List.nil_append,List.getElem?_cons_succ]
   exact⟨h1,h2⟩
theorem pair_cells{w:World}{base:Nat}{v:Value}{ps:List LP}(h:w.ownsRow base 114 2 v ps.length (ps.flatMap pCells)){j:Nat}{p:LP}(hj:ps[j]?=some p):∃ g cap,v=.slice (some ⟨g,0,none⟩) ps.length cap/\g<w.heap.size/\w.cell? ⟨g,j*2,none⟩=some (ptr p.x)/\w.cell? ⟨g,j*2+1,none⟩=some (ptr p.m):=by
 have hjl:=(List.getElem?_eq_some_iff.1 hj).1
 rcases h.2 with ⟨_,h0⟩ |⟨g,cap,cur,e,hb,h3,h4,h5,h6,h7⟩
 ·omega
 ·obtain⟨f1,f2⟩:=flat2 hj
  have g1:∀ i v,(ps.flatMap pCells)[i]?=some v->w.cell? ⟨g,i,none⟩=some v:=fun i v hv=>by
   refine cell_of h3 ?_
   rw[<-h7,List.getElem?_take]at hv
   split at hv
   ·rwa [Array.getElem?_toList]at hv
   ·cases hv
  exact⟨g,cap,e,lt_of_heap h3,g1 _ _ f1,g1 _ _ f2⟩
theorem set_same{ps:List LP}{j:Nat}{p:LP}(hp:ps[j]?=some p)(htu:p.u=p.t):ps.set j {p with t:=p.t,u:=p.t}=ps:=by
 have e:({p with t:=p.t,u:=p.t}:LP)=p:=by cases p;simp only at htu;simp[htu]
 rw[e]
 apply List.ext_getElem?
 intro i
 rw[List.getElem?_set]
 split
 ·rename_i h
  subst h
  split
  ·exact hp.symm
  ·rename_i hl
   exact absurd (List.getElem?_eq_some_iff.1 hp).1 hl
 ·rfl
def StepP(wb w':World)(wl:Nat)(ps:List LP)(bs is:List Value)(j:Nat)(p:LP):Prop:=
 ∃ ow' qv' bv' iv' T bs' is',LB wb w' wl ow' qv' bv' iv' (ps.set j {p with t:=T,u:=T}) bs' is'/\bs'.length<=bs.length+1/\is'.length<=is.length+4/\T.Ok/\T.last<=p.t.last+1/\T.now<=p.t.now+90000000
end
section
open Go.RowKit Go.Shelf Go.Lib
structure Own(w w':World)(G G':Nat->Prop):Prop where
 grow:∀ k,G' k->G k\/w.heap.size<=k
 chg:Chg G w w'
theorem Own.refl(w:World)(G:Nat->Prop):Own w w G G:=⟨fun _ h=>.inl h,Chg.refl _ _⟩
theorem Own.below{w w':World}(h:Below w.heap.size w w')(G:Nat->Prop):Own w w' G G:=⟨fun _ h=>.inl h,chgB h _⟩
theorem Own.trans{w w1 w2:World}{G G1 G2:Nat->Prop}(h:Own w w1 G G1)(k:Own w1 w2 G1 G2):Own w w2 G G2:=
 ⟨fun x hx=>(k.grow x hx).elim (h.grow x) fun hs=>.inr (Nat.le_trans h.chg.size hs),h.chg.trans (k.chg.mono fun x _ hx=>h.grow x hx)⟩
theorem BRow.chg{w W:World}{v:Value}{l:List Bool}(h:BRow w v l){S:Nat->Prop}(hc:Chg S w W)(hn:∀ k,v.ownBlock=some k->¬S k):BRow W v l:=ownsRow_chg h hc hn
structure DR(f:Nat->Bool)(t:St)(n:Nat)(T:St):Prop where
 ok:T.Ok
 eq:T.drive f n=t.drive f 0
 last:T.last=t.last
 now:T.now+T.mu<=t.now+t.mu
 cnt:n+T.mu<=t.mu
theorem DR.start{f:Nat->Bool}{t:St}(h:t.Ok):DR f t 0 t:=⟨h,rfl,rfl,Int.le_refl _,by omega⟩
theorem mu_lt{t:St}(h:t.Ok)(hl:t.last<900000):t.mu<90000000:=by
 have h1:=mu_le h h.a.soon
 have h2:=ok_len h
 omega
theorem DR.small{f:Nat->Bool}{t:St}{n:Nat}{T:St}(h:DR f t n T)(hk:t.Ok)(hl:t.last<900000)(hn:t.now<2 ^ 58):T.Small/\n<90000000:=by
 have h1:=mu_lt hk hl
 have h2:=h.now
 have h3:=h.cnt
 exact⟨⟨by rw[h.last];exact hl,by omega⟩,by omega⟩
theorem DR.step{f:Nat->Bool}{t:St}{n:Nat}{T:St}(h:DR f t n T){n':Nat}{T':St}(hd:T.dnext f n=some (n',T')):DR f t n' T'/\T'.mu<T.mu:=by
 have hs:=dnext_step h.ok h.ok.a.soon hd
 have h1:=hs.mu
 have h2:=h.now
 have h3:=h.cnt
 have h4:=hs.now
 have h5:=hs.cnt
 exact⟨⟨hs.ok,(drive_step h.ok h.ok.a.soon hd).symm.trans h.eq,hs.last.trans h.last,by omega,by omega⟩,h1⟩
theorem dnext_cmd{f:Nat->Bool}{n:Nat}{t:St}{c:Cmd}(h:t.cmd=some c):t.dnext f n=some (n,t.sent c):=by
 unfold St.dnext
 rw[h]
theorem dnext_comp{f:Nat->Bool}{n:Nat}{t t':St}(h:t.cmd=none)(hc:t.complete 0 (f n)=some t'):t.dnext f n=some (n+1,t'):=by
 unfold St.dnext
 rw[h]
 cases hcs:t.cs with
 | nil=>simp [St.complete,hcs]at hc
 | cons c l=>simp only;rw[hc];rfl
theorem dnext_tick{f:Nat->Bool}{n:Nat}{t:St}(h:t.cmd=none)(hcs:t.cs=[])(hw:t.waiting≠[]):t.dnext f n=some (n,t.tick):=by
 unfold St.dnext
 rw[h,hcs]
 simp only
 rw[if_neg hw]
theorem dnext_stop{f:Nat->Bool}{n:Nat}{t:St}(h:t.cmd=none)(hcs:t.cs=[])(hw:t.waiting=[]):t.dnext f n=none:=by
 unfold St.dnext
 rw[h,hcs]
 simp only
 rw[if_pos hw]
theorem DR.stop{f:Nat->Bool}{t:St}{n:Nat}{T:St}(h:DR f t n T)(hd:T.dnext f n=none):t.drive f 0=(n,T):=by
 rw[<-h.eq,drive_end hd]
theorem complete_yes{t:St}(h:t.cs≠[])(fault:Bool):∃ t',t.complete 0 fault=some t':=by
 cases hcs:t.cs with
 | nil=>exact absurd hcs h
 | cons c l=>exact ⟨_,by unfold St.complete;rw[hcs];rfl⟩
theorem QT.fl{w:World}{q:Nat}{t:St}{F:Nat->Prop}(h:QT w q t F):∃ a c,w.cell? ⟨q,2,none⟩=some (.slice a t.cs.length c):=by
 obtain⟨s,⟨tb,mb,clock,fv,h1,_⟩,rfl⟩:=h
 obtain⟨a,c,rfl⟩:=own_slice h1.fl
 exact⟨a,c,by rw[show s.er.cs.length=s.cs.length by simp[Sta.er]];exact cell_of h1.que rfl⟩
end
section
open Go.RowKit Go.Shelf Go.Lib
set_option maxRecDepth 100000
set_option maxHeartbeats 8000000
theorem Tryz.infoBo:(Tryx.prog.info? 4).map (fun i=>(i.zero,i.size,i.bytes))=some (some (.bool false),1,1):=by kernel_rfl
theorem cloneBools(v:Value)(b:List Bool)(w:World)(h:BRow w v b)(hl:b.length<=1000000):
  Calls Tryx.prog 48 #[v] w fun e w'=>∃ v',e=.returned v'/\BRow w' v' b/\(∀ k,v'.ownBlock=some k->w.heap.size<=k)/\Below w.heap.size w w':=by
 have q22:∀ (w:World) (a:Option Addr) (n c n' c':Nat),(binOp .eql 59 (.slice a n c) (.slice none n' c')).run Tryx.prog w=.ok (.bool a.isNone) w:=fun w a n c n' c'=>Lib.run_eql_slice_nil w _ _ a n c n' c' Tryx.underlying59
 have u22:∀ w,Sem.run Tryx.prog (underlying 59) w=.ok (TypeDesc.slice 4) w:=run_underlying Tryx.underlying59
 rcases h.2 with ⟨rfl,h0⟩ |⟨g,cap,cur,rfl,hb,h3,h4,h5,h6,h7⟩
 ·have:b=[]:=List.length_eq_zero_iff.1 h0
  subst this
  go_enter Tryx.func48,Tryz.ntmps48
  go_wp2
  go_ret
  exact⟨_,rfl,World.ownsRow_nil _ _ _ _,(fun k hk=>by cases hk),Below.refl _ _⟩
 ·obtain⟨i0,hi,hz0,hz1,hz2⟩:=info_parts Tryz.infoBo
  have A:Aside (∀ j u,(b.map Value.bool)[j]?=some u->w.cell? ⟨g,j,none⟩=some u):=fun j u hj=>by
   rw[<-h7,Nat.mul_one,List.getElem?_take]at hj
   split at hj
   ·exact cell_of h3 (by rw[<-Array.getElem?_toList];exact hj)
   ·cases hj
  have hlc:b.length<=maxLen:=by omega
  have hgl:=lt_of_heap h3
  clear h h3 h6 h7
  go_enter Tryx.func48,Tryz.ntmps48
  go_wp2_with (at_builtin;refine wpList_append_own _ rfl _ _ 59 rfl w.heap.size 4 i0 (.bool false) 1 1 Tryx.underlying59 hi hz0 hz1 hz2 rfl (by decide) _ _ _ rfl (World.ownsRow_made w #[] 0 (Nat.le_refl _) (Nat.zero_le _) rfl) ⟨g,0,none⟩ b.length cap (b.map Value.bool) rfl ?qc1 ?qc2 ?qc3 ?qc4 ?qc5 ?qc6 ?_)
  case qc1=>simp
  case qc2=>
   intro j u hj
   rw[Addr.add_lit]
   refine Lib.cell?_alloc_some _ ?_
   simpa using A.out j u hj
  case qc3=>intro u hu;obtain⟨x,_,rfl⟩:=List.mem_map.1 hu;rfl
  case qc4=>unfold maxLen;omega
  case qc5=>omega
  case qc6=>simp
  intro v' w1 hown hgrow hnil
  go_wp2
  go_ret
  have hown':w1.ownsRow w.heap.size 4 1 v' b.length (b.map Value.bool):=by simpa using hown
  refine⟨v',rfl,⟨hown'.1,hown'.2.imp id fun ⟨g,c,cur,a1,_,a3⟩=>⟨g,c,cur,a1,Nat.zero_le _,a3⟩⟩,fun k hk=>?_,((Below.refl _ w).alloc (Nat.le_refl _) _).grown hgrow (by simp) (by intro k hk;simp[Value.ownBlock]at hk;omega)⟩
  rcases hown'.2 with ⟨rfl,_⟩ |⟨g',c',cur',rfl,hb',_⟩
  ·cases hk
  ·simp only[Value.ownBlock,Option.some.injEq]at hk
   omega
theorem mk_of{P:Program}{t e:TypeId}{dir:ChanDir}(ht:P.underlying t=some (.chan dir e))(hi:(P.info? e).isSome=true)(w:World):(Instr.makeChan t (.int .i64 0)).run P w=.ok (.chan (some w.heap.size)) (w.alloc (.chan 0 #[] false 0 0 false)):=by
 obtain⟨i,hi⟩:=Option.isSome_iff_exists.1 hi
 exact Conc.run_makeChan ht hi .i64 0 (by decide) (by omega)
theorem mkW(w:World):(Instr.makeChan 103 (.int .i64 0)).run Tryx.prog w=.ok (.chan (some w.heap.size)) (w.alloc (.chan 0 #[] false 0 0 false)):=mk_of Tryx.underlying103 (by kernel_rfl) w
theorem mkE(w:World):(Instr.makeChan 104 (.int .i64 0)).run Tryx.prog w=.ok (.chan (some w.heap.size)) (w.alloc (.chan 0 #[] false 0 0 false)):=mk_of Tryx.underlying104 (by kernel_rfl) w
theorem mkB(w:World):(Instr.makeChan 107 (.int .i64 0)).run Tryx.prog w=.ok (.chan (some w.heap.size)) (w.alloc (.chan 0 #[] false 0 0 false)):=mk_of Tryx.underlying107 (by kernel_rfl) w
theorem eqC(w:World)(a b:Nat):(binOp .eql 108 (.chan (some a)) (.chan (some b))).run Tryx.prog w=.ok (.bool (some a == some b)) w:=by
 have ht:=run_underlying Tryx.underlying108
 have h1:(Op.equal 108 (.chan (some a)) (.chan (some b))).run Tryx.prog w=.ok (some a == some b) w:=by
  have h1:Op.equal 108 (.chan (some a)) (.chan (some b))=Op.equalIn (9999+1) 108 (.chan (some a)) (.chan (some b)):=rfl
  rw[h1,Op.equalIn,Sem.run_bind,ht]
  rfl
 simp only[binOp]
 rw[Sem.run_bind,h1]
 rfl
theorem Tryx.ntmps26:Tryx.f26.ntmps=84:=rfl
theorem drive_c(w:World){q:Nat}{t:St}{F:Nat->Prop}(h:QT w q t F)(hk:t.Ok)(hl:t.last<900000)(hn:t.now<2 ^ 58)(v:Value)(b:List Bool)(hB:BRow w v b)(hbl:b.length<=1000000):
  Calls Tryx.prog 26 #[ptr q,v] w fun y w'=>∃ F',y=.returned (.int .i64 (t.drive (fun i=>b.getD i false) 0).1)/\QT w' q (t.drive (fun i=>b.getD i false) 0).2 F'/\Own w w' F F':=by
 obtain⟨f,hf⟩:∃ f:Nat->Bool,(fun i=>b.getD i false)=f:=⟨_,rfl⟩
 have hql:=h.qlt
 rw[hf]
 have HB:=Lib.hid hB
 have HF:=Lib.hid hf
 have HS:=Lib.hid (And.intro h (DR.start (f:=f) hk))
 have HK:=Lib.hid (And.intro hk (And.intro hl hn))
 clear h hB hf hk hl hn
 go_enter Tryx.func26,Tryx.ntmps26
 unfold gD bD Tryz.f26
 simp only[Option.getD_some,gh,mapA,List.map_cons,List.map_nil,ghOp,gh4,gh5,gh6,gh7,ghOps4,gh0,clr,kT,kOps4,kOps5,kArm,kLoop,bK,Tryz.f47,Option.getD_some,cIn,cTl,cHd,cYes,cOps,shOper,shOp,shO,BEq.rfl,if_true,Option.map_some,Option.map_none,List.map_toArray,Array.getD_eq_getD_getElem?,List.getElem?_toArray,List.getElem?_cons_succ,List.getElem?_cons_zero,Nat.reduceAdd,reduceIte,reduceBEq,Option.some_beq_some,Nat.reduceBEq,Bool.false_eq_true]
 have mk1:=mkW
 have mk2:=mkE
 have mk3:=mkB
 go_wp2_with fail
 obtain⟨W3,hW3⟩:∃ W3,((w.alloc (.chan 0 #[] false 0 0 false)).alloc (.chan 0 #[] false 0 0 false)).alloc (.chan 0 #[] false 0 0 false)=W3:=⟨_,rfl⟩
 have hb3:Below w.heap.size w W3:=by rw[<-hW3];exact (((Below.refl _ _).alloc (Nat.le_refl _) _).alloc (by simp) _).alloc (by simp;omega) _
 rw[hW3]
 refine (cloneBools v b W3 (HB.out.chg (chgB hb3 fun _=>False) fun _ _ x=>x) hbl).mono ?_
 rintro x W4 ⟨v',rfl,hB4,hv4,hb4⟩
 have hz3:=hb3.size
 have hz4:=hb4.size
 have hW4:Below w.heap.size w W4:=hb3.trans (hb4.mono hz3)
 have hO:∀ S,(W4.alloc S).heap.size=W4.heap.size+1:=fun S=>by simp
 have hvo:∀ k,v'.ownBlock=some k->w.heap.size<=k/\k<W4.heap.size:=fun k hk=>⟨Nat.le_trans hz3 (hv4 k hk),by obtain⟨cur,hcur⟩:=own_heap hB4 hk;exact lt_of_heap hcur⟩
 have HVO:=Lib.hid hvo
 clear hvo
 have HW4:=Lib.hid (And.intro hB4 (And.intro hv4 (And.intro hW4 hz3)))
 clear hB4 hv4 hb4 hW4 hb3 hW3
 obtain⟨va,vc,rfl⟩:=own_slice HW4.out.1
 go_wp2_with fail
 obtain⟨W5,hW5⟩:∃ W5,W4.alloc (.chan 0 #[] false 0 0 false)=W5:=⟨_,rfl⟩
 rw[hW5]
 have h5:Below W4.heap.size W4 W5:=by rw[<-hW5];exact (Below.refl _ _).alloc (Nat.le_refl _) _
 have hz5:W4.heap.size<W5.heap.size:=by rw[<-hW5];simp
 have H5:=Lib.hid h5
 clear h5 hW5 mk1 mk2 mk3
 go_loopg [8] t.mu (fun k nv wr=>∃ (n:Nat) (T:St) (F':Nat->Prop),k=T.mu/\nv=.int .i64 n/\Hid (QT wr q T F')/\Hid (Own W4 wr (fun k=>F k/\k<w.heap.size) F'/\DR f t n T/\W5.heap.size<=wr.heap.size/\BRow wr (.slice va b.length vc) b))
 case atStart=>
  refine⟨0,t,fun k=>F k/\k<w.heap.size,rfl,rfl,Lib.hid ?_,Lib.hid ⟨Own.below H5.out _,HS.out.2,Nat.le_refl _,HW4.out.1.chg (chgB H5.out fun _=>False) fun _ _ x=>x⟩⟩
  exact ((HS.out.1.lt.below HW4.out.2.2.1)).below H5.out
 case round=>
  obtain⟨n,T,F',rfl,rfl,hQ,hR⟩:=hrel
  have hqr:=hQ.out.qlt
  obtain⟨hsm,hn9⟩:=hR.out.2.1.small HK.out.1 HK.out.2.1 HK.out.2.2
  have hvn:∀ k,(Value.slice va b.length vc).ownBlock=some k->¬F' k:=fun k hk hF=>by
   have h1:=HVO.out k hk
   rcases hR.out.1.grow k hF with h2 | h2
   ·have:=h2.2;omega
   ·omega
  cases hc:T.cmd with
  | some c=>
    have hd:=hR.out.2.1.step (dnext_cmd hc)
    have HD:=Lib.hid hd
    have HC:=Lib.hid hc
    have HSM:=Lib.hid hsm
    clear hd hc hsm
    go_wp2_with fail
    refine (step_some_c hQ.out hR.out.2.1.ok HSM.out c HC.out).mono ?_
    rintro x w5 ⟨vv,F2,rfl,hq2,hF2,_,hch,hrow⟩
    obtain⟨sa,sc,rfl⟩:=own_slice hrow
    have H2:=Lib.hid (And.intro hq2 (And.intro hF2 hch))
    clear hq2 hF2 hch hrow
    go_wp2_with fail
    obtain⟨w6,hw6⟩:∃ w6,w5.alloc (.cells #[.bool c.write,.int .i64 c.page,.int .i64 c.count,.slice sa c.nums.length sc] 48)=w6:=⟨_,rfl⟩
    have hb6:Below w5.heap.size w5 w6:=by rw[<-hw6];exact (Below.refl _ _).alloc (Nat.le_refl _) _
    rw[hw6]
    have H6:=Lib.hid hb6
    clear hb6 hw6
    go_roundg (T.sent c).mu
    case measure=>exact HD.out.2
    case rel=>
     have hO:Own wr w6 F' F2:=(Own.mk H2.out.2.1 H2.out.2.2).trans (Own.below H6.out _)
     refine⟨n,T.sent c,F2,rfl,rfl,Lib.hid (H2.out.1.below H6.out),Lib.hid ⟨hR.out.1.trans hO,HD.out.1,Nat.le_trans hR.out.2.2.1 hO.chg.size,hR.out.2.2.2.chg hO.chg ?_⟩⟩
     exact fun k hk=>hvn k hk
  | none=>
    have HC:=Lib.hid hc
    have HSM:=Lib.hid hsm
    have HVN:=Lib.hid hvn
    clear hc hsm hvn
    go_upto_region 9 with fail
    refine (step_none_c hQ.out hR.out.2.1.ok HC.out).mono ?_
    rintro x w5 ⟨rfl,hb5⟩
    have H5':=Lib.hid hb5
    clear hb5
    go_upto_region 9 with fail
    obtain⟨w6,hw6⟩:∃ w6,w5.alloc (.cells #[.bool false,.int .i64 0,.int .i64 0,.slice none 0 0] 48)=w6:=⟨_,rfl⟩
    have hb6:Below wr.heap.size wr w6:=by rw[<-hw6];exact H5'.out.alloc H5'.out.size _
    rw[hw6]
    have hq6:=hQ.out.below hb6
    obtain⟨fa,fc,c2⟩:=hq6.fl
    obtain⟨m,hm⟩:∃ m,T.cs.length=m:=⟨_,rfl⟩
    rw[hm]at c2
    have hm4:m<=4:=by have:=hR.out.2.1.ok.len;have:=hR.out.2.1.ok.a.depth;omega
    have HQ6:=Lib.hid (And.intro hq6 (And.intro hb6 hm))
    clear hw6 hb6 hq6 hm H5'
    by_cases h0:m=0
    ·subst h0
     have hcs:T.cs=[]:=List.length_eq_zero_iff.1 HQ6.out.2.2
     have HCS:=Lib.hid hcs
     clear hcs
     go_upto_region 13 with fail
     go_wp2_with fail
     refine (waiting_c HQ6.out.1 hR.out.2.1.ok HSM.out).mono ?_
     rintro x w7 ⟨wv,rfl,hrow,hb7⟩
     obtain⟨wa,wc,rfl⟩:=own_slice hrow
     obtain⟨wn,hwn⟩:∃ wn,T.waiting.length=wn:=⟨_,rfl⟩
     rw[hwn]
     have hO7:Own wr w7 F' F':=(Own.below HQ6.out.2.1 F').trans (Own.below hb7 F')
     have HQ7:=Lib.hid (And.intro (HQ6.out.1.below hb7) (And.intro hO7 hwn))
     clear hrow hb7 hO7 hwn
     by_cases hw0:wn=0
     ·subst hw0
      have hst:=hR.out.2.1.stop (dnext_stop HC.out HCS.out (List.length_eq_zero_iff.1 HQ7.out.2.2))
      have HST:=Lib.hid hst
      clear hst
      go_wp2_with fail
      go_ret
      rw[HST.out]
      have hO:=(Own.below HW4.out.2.2.1 (fun k=>F k/\k<w.heap.size)).trans (hR.out.1.trans HQ7.out.2.1)
      exact⟨F',rfl,HQ7.out.1,⟨fun k hk=>(hO.grow k hk).imp And.left id,hO.chg.mono fun k _ hk=>hk.1⟩⟩
     ·have hw0I:¬(wn:Int)=0:=by omega
      have hd:=hR.out.2.1.step (dnext_tick HC.out HCS.out (fun e=>hw0 (by rw[<-HQ7.out.2.2,e];rfl)))
      have HD:=Lib.hid hd
      clear hd
      go_wp2_with fail
      refine (tick_c HQ7.out.1 hR.out.2.1.ok HSM.out).mono ?_
      rintro x w8 ⟨rfl,hq8,hch8⟩
      have H8:=Lib.hid (And.intro hq8 hch8)
      clear hq8 hch8
      go_wp2_with fail
      go_roundg T.tick.mu
      case measure=>exact HD.out.2
      case rel=>
       have hO:Own wr w8 F' F':=HQ7.out.2.1.trans ⟨fun _ h=>.inl h,H8.out.2⟩
       exact⟨n,T.tick,F',rfl,rfl,Lib.hid H8.out.1,Lib.hid ⟨hR.out.1.trans hO,HD.out.1,Nat.le_trans hR.out.2.2.1 hO.chg.size,hR.out.2.2.2.chg hO.chg HVN.out⟩⟩
    ·have h0I:(0:Int)<(m:Int):=by omega
     obtain⟨T',hT'⟩:=complete_yes (t:=T) (fun e=>h0 (by rw[<-HQ6.out.2.2,e];rfl)) (f n)
     have HD:=Lib.hid (hR.out.2.1.step (dnext_comp HC.out hT'))
     have HT':=Lib.hid hT'
     clear hT'
     go_upto_region 105 with fail
     obtain⟨w7,hw7⟩:∃ w7,w6.alloc (.cells #[.int .i64 n,.chan (some W4.heap.size)] 110)=w7:=⟨_,rfl⟩
     rw[hw7]
     have hb7:Below w6.heap.size w6 w7:=by rw[<-hw7];exact (Below.refl _ _).alloc (Nat.le_refl _) _
     have hr7:w7.heap[w6.heap.size]?=some (.cells #[.int .i64 n,.chan (some W4.heap.size)] 110 (0,0)):=by rw[<-hw7];exact World.alloc_heap_new _ _
     have z0:w7.cell? ⟨w6.heap.size,0,none⟩=some (.int .i64 n):=cell_of hr7 rfl
     have z1:w7.cell? ⟨w6.heap.size,1,none⟩=some (.chan (some W4.heap.size)):=cell_of hr7 rfl
     have hO7:Own wr w7 F' F':=(Own.below HQ6.out.2.1 F').trans (Own.below hb7 F')
     have hB7:BRow w7 (.slice va b.length vc) b:=hR.out.2.2.2.chg hO7.chg HVN.out
     have HO7:=Lib.hid (And.intro (HQ6.out.1.below hb7) hO7)
     clear hw7 hb7 hr7 hO7
     have hn0:(0:Int)<=(n:Int):=by omega
     by_cases hbl:n<b.length
     ·have hblI:(n:Int)<(b.length:Int):=by omega
      obtain⟨g,rfl,_,hcell⟩:=hB7.cell hbl
      rw[show b.getD n false=f n by rw[<-HF.out]]at hcell
      have hbd:decide ((n:Int)<(b.length:Int))=true:=by simpa using hbl
      go_quiet (fail)
      obtain⟨w8,hw8⟩:∃ w8,w7.drewN nq=w8:=⟨_,rfl⟩
      have hb8:Below w7.heap.size w7 w8:=by rw[<-hw8];exact below_drewN (Below.refl _ _) _
      rw[hw8]
      have hO8:=HO7.out.2.trans (Own.below hb8 F')
      have HO8:=Lib.hid (And.intro (HO7.out.1.below hb8) hO8)
      have eqc:=eqC
      have hwrap:IntKind.i64.wrap ((n:Int)+1)=((n+1:Nat):Int):=by rw[IntKind.wrap_i64];omega
      clear hw8 hb8 hO8 hB7
      go_wp2_with fail
      refine (complete_c HO8.out.1 hR.out.2.1.ok HSM.out 0 (f n) T' HT'.out).mono ?_
      rintro x w9 ⟨rfl,hq9,hch9⟩
      have H9:=Lib.hid (And.intro hq9 hch9)
      clear hq9 hch9
      go_wp2_with fail
      go_roundg T'.mu
      case measure=>exact HD.out.2
      case rel=>
       have hO:Own wr w9 F' F':=HO8.out.2.trans ⟨fun _ h=>.inl h,H9.out.2⟩
       exact⟨n+1,T',F',rfl,by go_num,Lib.hid H9.out.1,Lib.hid ⟨hR.out.1.trans hO,HD.out.1,Nat.le_trans hR.out.2.2.1 hO.chg.size,hR.out.2.2.2.chg hO.chg HVN.out⟩⟩
     ·have hblI:¬(n:Int)<(b.length:Int):=by omega
      have hfn:f n=false:=by rw[<-HF.out];simp[List.getD,List.getElem?_eq_none (Nat.le_of_not_lt hbl)]
      rw[hfn]at HT'
      have hbd:decide ((n:Int)<(b.length:Int))=false:=by simpa using hbl
      go_quiet (fail)
      obtain⟨w8,hw8⟩:∃ w8,w7.drewN nq=w8:=⟨_,rfl⟩
      have hb8:Below w7.heap.size w7 w8:=by rw[<-hw8];exact below_drewN (Below.refl _ _) _
      rw[hw8]
      have hO8:=HO7.out.2.trans (Own.below hb8 F')
      have HO8:=Lib.hid (And.intro (HO7.out.1.below hb8) hO8)
      have eqc:=eqC
      have hwrap:IntKind.i64.wrap ((n:Int)+1)=((n+1:Nat):Int):=by rw[IntKind.wrap_i64];omega
      clear hw8 hb8 hO8 hB7
      go_wp2_with fail
      refine (complete_c HO8.out.1 hR.out.2.1.ok HSM.out 0 false T' HT'.out).mono ?_
      rintro x w9 ⟨rfl,hq9,hch9⟩
      have H9:=Lib.hid (And.intro hq9 hch9)
      clear hq9 hch9
      go_wp2_with fail
      go_roundg T'.mu
      case measure=>exact HD.out.2
      case rel=>
       have hO:Own wr w9 F' F':=HO8.out.2.trans ⟨fun _ h=>.inl h,H9.out.2⟩
       exact⟨n+1,T',F',rfl,by go_num,Lib.hid H9.out.1,Lib.hid ⟨hR.out.1.trans hO,HD.out.1,Nat.le_trans hR.out.2.2.1 hO.chg.size,hR.out.2.2.2.chg hO.chg HVN.out⟩⟩
theorem RT.fl{w:World}{q:Nat}{t:St}{G:Nat->Prop}(h:RT w q t G):∃ a c,w.cell? ⟨q,3,none⟩=some (.slice a t.cs.length c):=by
 obtain⟨l,told,fs,rv,tv,fv,dv,h1,h2,h3⟩:=h
 obtain⟨a,c,rfl⟩:=own_slice h1.fls.row
 exact⟨a,c,by rw[show t.cs.length=fs.length by rw[<-h1.fcs,List.length_map]];exact cell_of h1.que rfl⟩
theorem drive_m(w:World){q:Nat}{t:St}{G:Nat->Prop}(h:RT w q t G)(hk:t.Ok)(hl:t.last<900000)(hn:t.now<2 ^ 58)(v:Value)(b:List Bool)(hB:BRow w v b)(hbl:b.length<=1000000)(hv:∀ k,v.ownBlock=some k->¬G k/\k<w.heap.size):
  Calls Tryx.prog 94 #[ptr q,v] w fun y w'=>∃ G',y=.returned (.int .i64 (t.drive (fun i=>b.getD i false) 0).1)/\RT w' q (t.drive (fun i=>b.getD i false) 0).2 G'/\Own w w' G G':=by
 obtain⟨f,hf⟩:∃ f:Nat->Bool,(fun i=>b.getD i false)=f:=⟨_,rfl⟩
 obtain⟨va,vc,rfl⟩:=own_slice hB
 have HB:=Lib.hid hB
 have HV:=Lib.hid hv
 have HF:=Lib.hid hf
 have HS:=Lib.hid (And.intro h (DR.start (f:=f) hk))
 have HK:=Lib.hid (And.intro hk (And.intro hl hn))
 rw[hf]
 clear h hB hv hf hk hl hn
 go_enter Tryx.func94,Tryz.ntmps94
 go_wp2_with fail
 go_loopg [5] t.mu (fun k nv wr=>∃ (n:Nat) (T:St) (G':Nat->Prop),k=T.mu/\nv=.int .i64 n/\Hid (RT wr q T G')/\Hid (Own w wr G G'/\DR f t n T/\BRow wr (.slice va b.length vc) b))
 case atStart=>exact ⟨0,t,G,rfl,rfl,Lib.hid HS.out.1,Lib.hid ⟨Own.refl _ _,HS.out.2,HB.out⟩⟩
 case round=>
  obtain⟨n,T,G',rfl,rfl,hQ,hR⟩:=hrel
  obtain⟨hsm,hn9⟩:=hR.out.2.1.small HK.out.1 HK.out.2.1 HK.out.2.2
  have hvn:∀ k,(Value.slice va b.length vc).ownBlock=some k->¬G' k:=fun k hk hF=>by
   have h0:=HV.out k hk
   rcases hR.out.1.grow k hF with h2 | h2
   ·exact h0.1 h2
   ·omega
  have HVN:=Lib.hid hvn
  have HSM:=Lib.hid hsm
  clear hvn hsm
  cases hc:T.cmd with
  | some c=>
    have hd:=hR.out.2.1.step (dnext_cmd hc)
    have HD:=Lib.hid hd
    have HC:=Lib.hid hc
    clear hd hc
    go_wp2_with fail
    refine (step_some_r hQ.out hR.out.2.1.ok HSM.out c HC.out).mono ?_
    rintro x w5 ⟨vv,F2,rfl,hq2,hF2,hch,hrow⟩
    obtain⟨sa,sc,rfl⟩:=own_slice hrow
    have H2:=Lib.hid (And.intro hq2 (And.intro hF2 hch))
    clear hq2 hF2 hch hrow
    go_wp2_with fail
    obtain⟨w6,hw6⟩:∃ w6,w5.alloc (.cells #[.bool c.write,.int .i64 c.page,.int .i64 c.count,.slice sa c.nums.length sc] 48)=w6:=⟨_,rfl⟩
    have hb6:Below w5.heap.size w5 w6:=by rw[<-hw6];exact (Below.refl _ _).alloc (Nat.le_refl _) _
    rw[hw6]
    have H6:=Lib.hid hb6
    clear hb6 hw6
    go_roundg (T.sent c).mu
    case measure=>exact HD.out.2
    case rel=>
     have hO:Own wr w6 G' F2:=(Own.mk H2.out.2.1 H2.out.2.2).trans (Own.below H6.out _)
     exact⟨n,T.sent c,F2,rfl,rfl,Lib.hid (H2.out.1.below H6.out),Lib.hid ⟨hR.out.1.trans hO,HD.out.1,hR.out.2.2.chg hO.chg fun k hk=>HVN.out k hk⟩⟩
  | none=>
    have HC:=Lib.hid hc
    clear hc
    go_upto_region 4 with fail
    refine (step_none_r hQ.out hR.out.2.1.ok HSM.out HC.out).mono ?_
    rintro x w5 ⟨rfl,hb5⟩
    have H5':=Lib.hid hb5
    clear hb5
    go_upto_region 4 with fail
    obtain⟨w6,hw6⟩:∃ w6,w5.alloc (.cells #[.bool false,.int .i64 0,.int .i64 0,.slice none 0 0] 48)=w6:=⟨_,rfl⟩
    have hb6:Below wr.heap.size wr w6:=by rw[<-hw6];exact H5'.out.alloc H5'.out.size _
    rw[hw6]
    have hq6:=hQ.out.below hb6
    obtain⟨fa,fc,c2⟩:=hq6.fl
    obtain⟨m,hm⟩:∃ m,T.cs.length=m:=⟨_,rfl⟩
    rw[hm]at c2
    have hm4:m<=4:=by have:=hR.out.2.1.ok.len;have:=hR.out.2.1.ok.a.depth;omega
    have HQ6:=Lib.hid (And.intro hq6 (And.intro hb6 hm))
    clear hw6 hb6 hq6 hm H5'
    by_cases h0:m=0
    ·subst h0
     have hcs:T.cs=[]:=List.length_eq_zero_iff.1 HQ6.out.2.2
     have HCS:=Lib.hid hcs
     clear hcs
     go_wp2_with fail
     refine (waiting_m HQ6.out.1 hR.out.2.1.ok HSM.out).mono ?_
     rintro x w7 ⟨wv,rfl,hrow,hb7⟩
     obtain⟨wa,wc,rfl⟩:=own_slice hrow
     obtain⟨wn,hwn⟩:∃ wn,T.waiting.length=wn:=⟨_,rfl⟩
     rw[hwn]
     have hO7:Own wr w7 G' G':=(Own.below HQ6.out.2.1 G').trans (Own.below hb7 G')
     have hq7:=HQ6.out.1.below hb7
     have HQ7:=Lib.hid (And.intro hq7 (And.intro hO7 hwn))
     clear hrow hb7 hO7 hwn
     by_cases hw0:wn=0
     ·subst hw0
      have hst:=hR.out.2.1.stop (dnext_stop HC.out HCS.out (List.length_eq_zero_iff.1 HQ7.out.2.2))
      have HST:=Lib.hid hst
      clear hst hq7
      go_wp2_with fail
      go_ret
      rw[HST.out]
      exact⟨G',rfl,HQ7.out.1,hR.out.1.trans HQ7.out.2.1⟩
     ·have hw0I:¬(wn:Int)=0:=by omega
      have hd:=hR.out.2.1.step (dnext_tick HC.out HCS.out (fun e=>hw0 (by rw[<-HQ7.out.2.2,e];rfl)))
      have HD:=Lib.hid hd
      clear hd
      obtain⟨n1,n2,n3,n4⟩:=now_m hq7
      have n5:=n2 4
      have hwt:IntKind.i64.wrap (T.now+1)=T.now+1:=by
       have h1:=HSM.out.now
       have h2:=hR.out.2.1.ok.a.now
       rw[IntKind.wrap_i64];omega
      have hT:=tick_m hq7
      have H8:=Lib.hid hT
      clear hT hq7 n2
      go_wp2_with fail
      go_roundg T.tick.mu
      case measure=>exact HD.out.2
      case rel=>
       have hO:Own wr _ G' G':=HQ7.out.2.1.trans ⟨fun _ h=>.inl h,H8.out.2⟩
       exact⟨n,T.tick,G',rfl,rfl,Lib.hid H8.out.1,Lib.hid ⟨hR.out.1.trans hO,HD.out.1,hR.out.2.2.chg hO.chg HVN.out⟩⟩
    ·have h0I:(0:Int)<(m:Int):=by omega
     obtain⟨T',hT'⟩:=complete_yes (t:=T) (fun e=>h0 (by rw[<-HQ6.out.2.2,e];rfl)) (f n)
     have HD:=Lib.hid (hR.out.2.1.step (dnext_comp HC.out hT'))
     have HT':=Lib.hid hT'
     clear hT'
     have hB7:BRow w6 (.slice va b.length vc) b:=hR.out.2.2.chg (Own.below HQ6.out.2.1 G').chg HVN.out
     have hn0:(0:Int)<=(n:Int):=by omega
     have hwrap:IntKind.i64.wrap ((n:Int)+1)=((n+1:Nat):Int):=by rw[IntKind.wrap_i64];omega
     by_cases hbl:n<b.length
     ·have hblI:(n:Int)<(b.length:Int):=by omega
      obtain⟨g,rfl,_,hcell⟩:=hB7.cell hbl
      rw[show b.getD n false=f n by rw[<-HF.out]]at hcell
      clear hB7
      go_wp2_with fail
      refine (complete_r w6 HQ6.out.1 hR.out.2.1.ok HSM.out 0 (f n) T' HT'.out).mono ?_
      rintro x w9 ⟨G2,rfl,hq9,hG2,hch9⟩
      have H9:=Lib.hid (And.intro hq9 (Own.mk hG2 hch9))
      clear hq9 hch9 hG2
      go_wp2_with fail
      go_roundg T'.mu
      case measure=>exact HD.out.2
      case rel=>
       have hO:Own wr w9 G' G2:=(Own.below HQ6.out.2.1 G').trans H9.out.2
       exact⟨n+1,T',G2,rfl,by go_num,Lib.hid H9.out.1,Lib.hid ⟨hR.out.1.trans hO,HD.out.1,hR.out.2.2.chg hO.chg HVN.out⟩⟩
     ·have hblI:¬(n:Int)<(b.length:Int):=by omega
      have hfn:f n=false:=by rw[<-HF.out];simp[List.getD,List.getElem?_eq_none (Nat.le_of_not_lt hbl)]
      rw[hfn]at HT'
      clear hB7
      go_wp2_with fail
      refine (complete_r w6 HQ6.out.1 hR.out.2.1.ok HSM.out 0 false T' HT'.out).mono ?_
      rintro x w9 ⟨G2,rfl,hq9,hG2,hch9⟩
      have H9:=Lib.hid (And.intro hq9 (Own.mk hG2 hch9))
      clear hq9 hch9 hG2
      go_wp2_with fail
      go_roundg T'.mu
      case measure=>exact HD.out.2
      case rel=>
       have hO:Own wr w9 G' G2:=(Own.below HQ6.out.2.1 G').trans H9.out.2
       exact⟨n+1,T',G2,rfl,by go_num,Lib.hid H9.out.1,Lib.hid ⟨hR.out.1.trans hO,HD.out.1,hR.out.2.2.chg hO.chg HVN.out⟩⟩
section
variable {wb w:World} {wl:Nat} {ow:Nat->Lab} {qv bv iv:Value} {ps:List LP} {bs is:List Value}
theorem told_drive_l(h:LB wb w wl ow qv bv iv ps bs is){j:Nat}{p:LP}(hp:ps[j]?=some p)(htu:p.u=p.t)(hk:p.t.Ok)(hsm:p.t.Small)(A B C:Int)(S:ByteArray)(hn58:p.t.now<2 ^ 58)(hS:S.size<=1000000):
  Calls Tryx.prog 58 #[ptr wl,.agg #[ptr p.x,ptr p.m],opV 12 A B C S] w fun y w'=>∃ ow' T,y=.returned (.bool true)/\LB wb w' wl ow' qv bv iv (ps.set j {p with t:=T,u:=T}) bs is/\T.Ok/\T.last=p.t.last/\T.now<=p.t.now+90000000:=by
 obtain⟨ow,h,_,hlo⟩:=h.norm
 obtain⟨T,hTT⟩:∃ T,(p.t.drive (fun i=>(oBits S).getD i false) 0).2=T:=⟨_,rfl⟩
 obtain⟨N,hNN⟩:∃ N,(p.t.drive (fun i=>(oBits S).getD i false) 0).1=N:=⟨_,rfl⟩
 have hsp:=(drive_spec (f:=fun i=>(oBits S).getD i false) (n:=0) hk hk.a.soon).1
 rw[hTT]at hsp
 have hT:T.Ok:=hsp.ok
 have hTl:T.last=p.t.last:=hsp.last
 have hTn:T.now<=p.t.now+90000000:=by have:=hsp.now.2;have:=mu_lt hk hsm.last;omega
 obtain⟨px,hpx⟩:∃ px,p.x=px:=⟨_,rfl⟩
 obtain⟨pm,hpm⟩:∃ pm,p.m=pm:=⟨_,rfl⟩
 rw[hpx,hpm]
 obtain⟨W0,hW0,hX0⟩:=box2 w px pm 12 A B C S
 have hL0:=h.below hX0.below
 have a0:W0.cell? ⟨w.heap.size,0,none⟩=some (ptr px):=cell_of hX0.pair rfl
 have a2:W0.cell? ⟨w.heap.size+1,0,none⟩=some (.int .i64 12):=cell_of hX0.op rfl
 have a4:W0.cell? ⟨w.heap.size+1,4,none⟩=some (.string S):=cell_of hX0.op rfl
 have hz:=lt_of_heap hX0.op
 have HL:=Lib.hid hL0
 have HK:=Lib.hid (And.intro hk (And.intro hsm.last hn58))
 have HP:=Lib.hid (And.intro hp (And.intro htu (And.intro hT (And.intro hTl hTn))))
 have HT:=Lib.hid (And.intro hTT hNN)
 have HW0:=Lib.hid hW0
 have HB:=Lib.hid hX0
 have HLO:=Lib.hid hlo
 have HPX:=Lib.hid (And.intro hpx hpm)
 clear h hp htu hT hTl hTn hTT hNN hsp hW0 hX0 hlo hL0 hpx hpm hk hsm hn58
 unfold opV
 go_enter Tryx.func58,Tryz.ntmps58
 go_upto_region 1 with fail
 rw[HW0.out]
 go_wp2_with fail
 refine (bits_l S W0 hS).mono ?_
 rintro y w1 ⟨v,rfl,hr1,hb1⟩
 obtain⟨va,vc,rfl⟩:=own_slice hr1
 have hp1:=(hb1.block _ (lt_of_heap HB.out.pair)).trans HB.out.pair
 have ho1:=(hb1.block _ (lt_of_heap HB.out.op)).trans HB.out.op
 have d0:w1.cell? ⟨w.heap.size,0,none⟩=some (ptr px):=cell_of hp1 rfl
 have hL1:=HL.out.below hb1
 have hx1:=hL1.xs j p HP.out.1
 rw[HPX.out.1]at hx1
 have hvl:∀ k,(Value.slice va S.size vc).ownBlock=some k->ow k=.loose/\k<w1.heap.size:=fun k hk=>⟨HLO.out k (by have:=(hr1.lt k hk).1;have:=HB.out.below.size;omega),(hr1.lt k hk).2⟩
 have hB1:BRow w1 (.slice va S.size vc) (oBits S):=by unfold BRow;rw[oBits_len];exact ownsRow_lowS hr1 (Nat.zero_le _)
 have hcr:=drive_c w1 hx1 HK.out.1 HK.out.2.1 HK.out.2.2 _ _ hB1 (by rw[oBits_len];exact hS)
 rw[HT.out.1,HT.out.2]at hcr
 have HC:=Lib.hid hcr
 have HL1:=Lib.hid hL1
 have HR1:=Lib.hid hr1
 have HP1:=Lib.hid (And.intro hp1 ho1)
 have HVL:=Lib.hid hvl
 have HB1:=Lib.hid hb1
 clear hr1 hb1 hp1 ho1 hL1 hx1 hvl hB1 hcr
 go_wp2_with fail
 refine HC.out.mono ?_
 rintro y w2 ⟨F',rfl,hq,hOw⟩
 have hc:=hOw.chg
 obtain⟨ow1,hL2,ho1,ho2⟩:=HL1.out.stepX HP.out.1 (by rw[HPX.out.1];exact hq.lt) (fun k (hk:F' k/\k<w2.heap.size)=>hOw.grow k hk.1) hc
 have hlz:∀ k,w.heap.size<=k->ow k≠.x j:=fun k hk e=>by rw[HLO.out k hk]at e;cases e
 have hp2:=(hc.block _ (lt_of_heap HP1.out.1) (hlz _ (Nat.le_refl _))).trans HP1.out.1
 have ho2':=(hc.block _ (lt_of_heap HP1.out.2) (hlz _ (Nat.le_succ _))).trans HP1.out.2
 have e1:w2.cell? ⟨w.heap.size,1,none⟩=some (ptr pm):=cell_of hp2 rfl
 have e4:w2.cell? ⟨w.heap.size+1,4,none⟩=some (.string S):=cell_of ho2' rfl
 have hr2:=ownsRow_chg HR1.out hc fun k hk e=>by rw[(HVL.out k hk).1]at e;cases e
 have hvl2:∀ k,(Value.slice va S.size vc).ownBlock=some k->ow1 k=.loose/\k<w2.heap.size:=fun k hk=>⟨(ho1 k (HVL.out k hk).2).trans (HVL.out k hk).1,(hr2.lt k hk).2⟩
 have hl1:=lt_of_heap hp2
 have hl2:=lt_of_heap ho2'
 have hl3:w.heap.size≠w2.heap.size:=by omega
 have hl4:w.heap.size+1≠w2.heap.size:=by omega
 have hcr:∀ (X:World) (v3:Value),Below w2.heap.size w2 X->X.ownsRow w2.heap.size 4 1 v3 S.size ((oBits S).map Value.bool)->Calls Tryx.prog 94 #[ptr pm,v3] X fun y w'=>y=.returned (.int .i64 N)/\∃ owx,LB wb w' wl owx qv bv iv (ps.set j {p with t:=T,u:=T}) bs is/\w'.heap[w.heap.size]?=some (.cells #[ptr px,ptr pm] 114 (0,0))/\w'.heap[w.heap.size+1]?=some (.cells #[.int .i64 12,.int .i64 A,.int .i64 B,.int .i64 C,.string S] 73 (0,0))/\w'.ownsRow W0.heap.size 4 1 (.slice va S.size vc) S.size ((oBits S).map Value.bool):=by
  intro X v3 hX hr3
  have hLX:=hL2.below hX
  have hpp2:=set_at HP.out.1 {p with t:=T}
  have hm2:=hLX.ms j _ hpp2
  simp only at hm2
  rw[HPX.out.2,HP.out.2.1]at hm2
  have hB3:BRow X v3 (oBits S):=by unfold BRow;rw[oBits_len];exact ownsRow_lowS hr3 (Nat.zero_le _)
  have hzz:=hc.size
  have hz9:=HB.out.below.size
  have hz8:=HB1.out.size
  have hne:∀ k,v3.ownBlock=some k->¬ow1 k=.m j:=fun k hk e=>by
   have h1:=(hr3.lt k hk).1
   have h2:=ho2 k (by omega) (fun e2=>by have:=e2.2;omega)
   rw[h2]at e
   cases e
  have hcc:=drive_m X hm2 HK.out.1 HK.out.2.1 HK.out.2.2 v3 _ hB3 (by rw[oBits_len];exact hS) fun k hk=>⟨hne k hk,(hr3.lt k hk).2⟩
  rw[HT.out.1,HT.out.2]at hcc
  refine hcc.mono fun y w' ⟨G',e,hqm,hOm⟩=>?_
  have hcm:=hOm.chg
  obtain⟨ow3,hL3,_,_⟩:=hLX.stepM hpp2 (u':=T) (by simp only;rw[HPX.out.2];exact hqm.lt) (fun k (hk:G' k/\k<w'.heap.size)=>hOm.grow k hk.1) hcm
  rw[List.set_set]at hL3
  refine⟨e,ow3,hL3,?_,?_,?_⟩
  ·refine (hcm.block _ (Nat.lt_of_lt_of_le hl1 hX.size) fun e=>?_).trans ((hX.block _ hl1).trans hp2)
   rw[ho1 _ (lt_of_heap HP1.out.1),HLO.out _ (Nat.le_refl _)]at e
   cases e
  ·refine (hcm.block _ (Nat.lt_of_lt_of_le hl2 hX.size) fun e=>?_).trans ((hX.block _ hl2).trans ho2')
   rw[ho1 _ (lt_of_heap HP1.out.2),HLO.out _ (Nat.le_succ _)]at e
   cases e
  ·exact ownsRow_chg (ownsRow_chg hr2 (chgB hX fun _=>False) fun _ _ z=>z) hcm fun k hk e=>by rw[(hvl2 k hk).1]at e;cases e
 have HCR:=Lib.hid hcr
 clear hcr
 have HL2:=Lib.hid hL2
 have HP2:=Lib.hid (And.intro hp2 ho2')
 have HR2:=Lib.hid hr2
 have HVL2:=Lib.hid hvl2
 have HO:=Lib.hid (And.intro ho1 ho2)
 have HZ:=Lib.hid hc.size
 clear hq hc hOw hL2 ho1 ho2 hlz hp2 ho2' hr2 hvl2 d0 a0 a2 a4
 go_upto_region 23 with fail
 go_cut [21]from 102 to 107 (fun s wx=>s=.int .i64 N/\∃ owx,Hid (LB wb wx wl owx qv bv iv (ps.set j {p with t:=T,u:=T}) bs is)/\Hid (wx.heap[w.heap.size+1]?=some (.cells #[.int .i64 12,.int .i64 A,.int .i64 B,.int .i64 C,.string S] 73 (0,0))/\wx.ownsRow W0.heap.size 4 1 (.slice va S.size vc) S.size ((oBits S).map Value.bool)))
 case first=>
  go_region_held3 (fun w'=>w'.cell? ⟨w.heap.size,1,none⟩=some (ptr pm)/\w'.cell? ⟨w.heap.size+1,4,none⟩=some (.string S)) (go_keep)
   (first
     | (go_at_call 93;refine (bits_l S _ hS).mono ?_;rintro y w3 ⟨v3,rfl,hr3,hb3⟩
        obtain⟨ba,bc,rfl⟩:=own_slice hr3
        have hy0:w3.cell? ⟨w.heap.size,1,none⟩=some (ptr pm):=(hb3.cell (p:=⟨w.heap.size,1,none⟩) (by simp;omega)).trans (by go_keep)
        have hy1:w3.cell? ⟨w.heap.size+1,4,none⟩=some (.string S):=(hb3.cell (p:=⟨w.heap.size+1,4,none⟩) (by simp;omega)).trans (by go_keep)
        have hz3:=hb3.size
        try simp at hz3)
     | (go_at_call 94;refine (HCR.out _ _ (by first | exact⟨hb3.os,hb3.tape,hb3.output,hb3.size,hb3.block⟩ | go_grown) hr3).mono ?_;rintro y w4 ⟨rfl,hres⟩
        have hs0:w4.cell? ⟨w.heap.size,1,none⟩=some (ptr pm):=by obtain⟨_,_,h1,_⟩:=hres;exact cell_of h1 rfl
        have hs1:w4.cell? ⟨w.heap.size+1,4,none⟩=some (.string S):=by obtain⟨_,_,_,h1,_⟩:=hres;exact cell_of h1 rfl
        have HRES:=Lib.hid hres
        clear hres))
  all_goals
   go_wp2_with fail
   go_meet
   case rel=>
    obtain⟨owx,h1,_,h2⟩:=HRES.out
    exact⟨rfl,owx,Lib.hid h1,Lib.hid h2⟩
 case rest=>
  obtain⟨rfl,owx,hLx,hRx⟩:=hcut
  have g4:World.cell? _ ⟨w.heap.size+1,4,none⟩=some (Value.string S):=cell_of hRx.out.1 rfl
  go_wp2_with fail
  refine (still_l S _ hS hRx.out.2).mono ?_
  rintro y w5 ⟨rfl,hb5⟩
  go_wp2_with fail
  go_ret
  exact⟨owx,T,rfl,by rw[<-HPX.out.1,<-HPX.out.2];exact hLx.out.below hb5,HP.out.2.2⟩
end
section
variable {wb w:World} {wl:Nat} {ow:Nat->Lab} {qv bv iv:Value} {ps:List LP} {bs is:List Value}
theorem told_other_l(h:LB wb w wl ow qv bv iv ps bs is){j:Nat}{p:LP}(_hp:ps[j]?=some p)(K A B C:Int)(S:ByteArray)(hK6:(K == 6)=false)(hK8:(K == 8)=false)(hK9:(K == 9)=false)(hK12:(K == 12)=false)(hK13:(K == 13)=false):
  Calls Tryx.prog 58 #[ptr wl,.agg #[ptr p.x,ptr p.m],opV K A B C S] w fun y w'=>∃ ow',y=.returned (.bool true)/\LB wb w' wl ow' qv bv iv ps bs is:=by
 obtain⟨px,hpx⟩:∃ px,p.x=px:=⟨_,rfl⟩
 obtain⟨pm,hpm⟩:∃ pm,p.m=pm:=⟨_,rfl⟩
 rw[hpx,hpm]
 obtain⟨W0,hW0,hX0⟩:=box2 w px pm K A B C S
 have hL0:=h.below hX0.below
 have a2:W0.cell? ⟨w.heap.size+1,0,none⟩=some (.int .i64 K):=cell_of hX0.op rfl
 have HL:=Lib.hid hL0
 have HW0:=Lib.hid hW0
 clear h hW0 hX0 hL0 hpx hpm
 unfold opV
 go_enter Tryx.func58,Tryz.ntmps58
 go_upto_region 1 with fail
 rw[HW0.out]
 go_wp2_with fail
 go_ret
 exact⟨ow,rfl,HL.out⟩
theorem step_any_l(h:LB wb w wl ow qv bv iv ps bs is)(hps:ps.length<=1000000){j:Nat}{p:LP}(hp:ps[j]?=some p)(htu:p.u=p.t)(hk:p.t.Ok)(hsm:p.t.Small)(A B C:Int)(S:ByteArray)(hA:-9223372036854775808<=A/\A<=9223372036854775807)(hj:pickJ A ps.length=j)(K:Int)(hK1:(K == 1)=false)(hbl:bs.length<=1000000)(hil:is.length<=900000)(hn58:p.t.now<2 ^ 58)(hS:S.size<=1000000):
  Calls Tryx.prog 30 #[ptr wl,opV K A B C S] w fun y w'=>y=.returned (.bool true)/\StepP wb w' wl ps bs is j p:=by
 obtain⟨ow,h,_,hlo⟩:=h.norm
 obtain⟨W0,hW0⟩:∃ W0,w.alloc (.cells #[.int .i64 K,.int .i64 A,.int .i64 B,.int .i64 C,.string S] 73)=W0:=⟨_,rfl⟩
 have h0:W0.heap[w.heap.size]?=some (.cells #[.int .i64 K,.int .i64 A,.int .i64 B,.int .i64 C,.string S] 73 (0,0)):=by rw[<-hW0];exact World.alloc_heap_new _ _
 have hb0:Below w.heap.size w W0:=by rw[<-hW0];exact (Below.refl _ _).alloc (Nat.le_refl _) _
 have hL0:=h.below hb0
 have hjl:=(List.getElem?_eq_some_iff.1 hp).1
 obtain⟨px,hpx⟩:∃ px,p.x=px:=⟨_,rfl⟩
 obtain⟨pm,hpm⟩:∃ pm,p.m=pm:=⟨_,rfl⟩
 obtain⟨gq,qc,rfl,hgq,c1,c2⟩:=pair_cells hL0.q hp
 rw[hpx]at c1
 rw[hpm]at c2
 obtain⟨np,hnp⟩:∃ np,ps.length=np:=⟨_,rfl⟩
 have c0:W0.cell? ⟨wl,0,none⟩=some (.slice (some ⟨gq,0,none⟩) np qc):=by rw[<-hnp];exact cell_of hL0.me rfl
 have hjl2:=hjl
 rw[hnp]at hjl2 hps hj
 have hnz:((np:Int) == 0)=false:=by simp;omega
 have hjI:(j:Int)<(np:Int):=by omega
 have hj0:(0:Int)<=(j:Int):=by omega
 have hnp1:(0:Int)<(np:Int)/\(np:Int)<=1000000:=by omega
 have z0:W0.cell? ⟨w.heap.size,0,none⟩=some (.int .i64 K):=cell_of h0 rfl
 have z1:W0.cell? ⟨w.heap.size,1,none⟩=some (.int .i64 A):=cell_of h0 rfl
 have HL:=Lib.hid hL0
 have HP:=Lib.hid (And.intro hp (And.intro htu (And.intro hk hsm)))
 have HW0:=Lib.hid hW0
 have HH0:=Lib.hid h0
 have HNP:=Lib.hid hnp
 have HPX:=Lib.hid (And.intro hpx hpm)
 have HLO:=Lib.hid (And.intro hlo hb0.size)
 have HPK:=Lib.hid (fun W=>by have:=pick_l A np W hA hnp1;rw[hj]at this;exact this)
 clear h hp htu hk hsm hW0 hb0 h0 hL0 hpx hpm hnp hj hnp1 hA hjl hjl2 hlo
 unfold opV
 go_enter Tryx.func30,Tryz.ntmps30
 go_upto_region 1 with fail
 rw[HW0.out]
 go_upto_region 5 with fail
 go_cut [5]from 20 to 33 (fun s5 wx=>∃ b,s5=ptr b/\Hid (Below W0.heap.size W0 wx/\wx.heap[b]?=some (.cells #[ptr px,ptr pm] 114 (0,0))/\W0.heap.size<=b))
 case first=>
  go_region_held3 (fun w'=>w'.cell? ⟨wl,0,none⟩=some (.slice (some ⟨gq,0,none⟩) np qc)/\w'.cell? ⟨w.heap.size,1,none⟩=some (.int .i64 A)/\w'.cell? ⟨gq,j*2,none⟩=some (ptr px)/\w'.cell? ⟨gq,j*2+1,none⟩=some (ptr pm)) (go_keep)
   (first
     | (go_at_call 50;refine (HPK.out _).mono ?_;rintro y w2 ⟨rfl,rfl⟩))
  all_goals
   go_wp2_with fail
   go_meet
   case rel=>exact ⟨_,rfl,Lib.hid ⟨((Below.refl _ _).alloc (Nat.le_refl _) _).drew,World.alloc_heap_new W0 _,Nat.le_refl _⟩⟩
 case rest=>
  obtain⟨b,rfl,hB⟩:=hcut
  have hop:=(hB.out.1.block _ (lt_of_heap HH0.out)).trans HH0.out
  have e0:=cell_of (i:=0) hop rfl
  have e1:=cell_of (i:=1) hop rfl
  have e2:=cell_of (i:=2) hop rfl
  have e3:=cell_of (i:=3) hop rfl
  have e4:=cell_of (i:=4) hop rfl
  have f0:=cell_of (i:=0) hB.out.2.1 rfl
  have f1:=cell_of (i:=1) hB.out.2.1 rfl
  have hL:=HL.out.below hB.out.1
  by_cases k2:K=2
  ·subst k2
   have hcon:=asked_read_l hL HP.out.1 HP.out.2.1 HP.out.2.2.1 HP.out.2.2.2 B A C S
   simp only[opV,HPX.out.1,HPX.out.2]at hcon
   have HCON:=Lib.hid hcon
   clear hop hL hcon z0 z1 c0 c1 c2
   go_wp2_with fail
   refine HCON.out.mono ?_
   rintro y w4 ⟨ow',T,rfl,h1,h2,h3,h4⟩
   have H1:=Lib.hid h1
   clear h1
   go_wp2_with fail
   go_ret
   have H1o:=H1.out
   try rw[<-HPX.out.1,<-HPX.out.2]at H1o
   exact⟨rfl,ow',_,_,_,T,_,_,H1o,Nat.le_succ _,Nat.le_add_right _ _,h2,h3,by omega⟩
  by_cases k3:K=3
  ·subst k3
   have hcon:=asked_write_l hL HP.out.1 HP.out.2.1 HP.out.2.2.1 HP.out.2.2.2 B A C S hS
   simp only[opV,HPX.out.1,HPX.out.2]at hcon
   have HCON:=Lib.hid hcon
   clear hop hL hcon z0 z1 c0 c1 c2
   go_wp2_with fail
   refine HCON.out.mono ?_
   rintro y w4 ⟨ow',T,rfl,h1,h2,h3,h4⟩
   have H1:=Lib.hid h1
   clear h1
   go_wp2_with fail
   go_ret
   have H1o:=H1.out
   try rw[<-HPX.out.1,<-HPX.out.2]at H1o
   exact⟨rfl,ow',_,_,_,T,_,_,H1o,Nat.le_succ _,Nat.le_add_right _ _,h2,h3,by omega⟩
  by_cases k4:K=4
  ·subst k4
   have hcon:=polled_l hL hbl HP.out.1 HP.out.2.1 HP.out.2.2.1 HP.out.2.2.2 B
   simp only[opV,HPX.out.1,HPX.out.2]at hcon
   have HCON:=Lib.hid hcon
   clear hop hL hcon z0 z1 c0 c1 c2
   go_wp2_with fail
   refine HCON.out.mono ?_
   rintro y w4 ⟨ow',T,bv',bs',rfl,h1,hb',h2,h3,h4⟩
   have H1:=Lib.hid h1
   clear h1
   go_wp2_with fail
   go_ret
   have H1o:=H1.out
   try rw[<-HPX.out.1,<-HPX.out.2]at H1o
   exact⟨rfl,ow',_,_,_,T,_,_,H1o,hb',Nat.le_add_right _ _,h2,by omega,by omega⟩
  by_cases k5:K=5
  ·subst k5
   have hcon:=cancelled_l hL HP.out.1 HP.out.2.1 HP.out.2.2.1 HP.out.2.2.2 B
   simp only[opV,HPX.out.1,HPX.out.2]at hcon
   have HCON:=Lib.hid hcon
   clear hop hL hcon z0 z1 c0 c1 c2
   go_wp2_with fail
   refine HCON.out.mono ?_
   rintro y w4 ⟨ow',T,rfl,h1,h2,h3,h4⟩
   have H1:=Lib.hid h1
   clear h1
   go_wp2_with fail
   go_ret
   have H1o:=H1.out
   try rw[<-HPX.out.1,<-HPX.out.2]at H1o
   exact⟨rfl,ow',_,_,_,T,_,_,H1o,Nat.le_succ _,Nat.le_add_right _ _,h2,by omega,by omega⟩
  by_cases k6:K=6
  ·subst k6
   have hcon:=told_wait_l hL (by omega) HP.out.1 HP.out.2.1 HP.out.2.2.1 HP.out.2.2.2 A B C S
   simp only[opV,HPX.out.1,HPX.out.2]at hcon
   have HCON:=Lib.hid hcon
   clear hop hL hcon z0 z1 c0 c1 c2
   go_wp2_with fail
   refine HCON.out.mono ?_
   rintro y w4 ⟨ow',iv',f,rfl,h1⟩
   have H1:=Lib.hid h1
   clear h1
   go_wp2_with fail
   go_ret
   have H1o:=H1.out
   try rw[<-HPX.out.1,<-HPX.out.2]at H1o
   exact⟨rfl,ow',_,_,_,p.t,_,_,by rw[set_same HP.out.1 HP.out.2.1];exact H1o,Nat.le_succ _,by simp,HP.out.2.2.1,by omega,by omega⟩
  by_cases k7:K=7
  ·subst k7
   have hlx:∀ k,w.heap.size<=k->¬ow k=.x j:=fun k hk e=>by rw[HLO.out.1 k hk]at e;cases e
   have hlm:∀ k,w.heap.size<=k->¬ow k=.m j:=fun k hk e=>by rw[HLO.out.1 k hk]at e;cases e
   obtain⟨now,hnow⟩:∃ now,p.t.now=now:=⟨_,rfl⟩
   have hn0:=HP.out.2.2.1.a.now
   have hn9:=HP.out.2.2.2.now
   rw[hnow]at hn0 hn9
   have hwr:IntKind.i64.wrap (now+1)=now+1:=by rw[IntKind.wrap_i64];omega
   have hxq:=hL.xs j p HP.out.1
   rw[HPX.out.1]at hxq
   have HT:=Lib.hid (tick_c hxq HP.out.2.2.1 HP.out.2.2.2)
   have HL1:=Lib.hid hL
   have HOP:=Lib.hid hop
   have HLX:=Lib.hid (And.intro hlx hlm)
   have HNW:=Lib.hid hnow
   have HNB:=Lib.hid (And.intro hn0 hn9)
   clear hop hL hxq z0 z1 c0 c1 c2 hlx hlm hnow hn9 hn0
   go_wp2_with fail
   refine HT.out.mono ?_
   rintro y w4 ⟨rfl,hq,hc⟩
   obtain⟨ow1,hL4,ho1,_⟩:=HL1.out.stepX HP.out.1 (by rw[HPX.out.1];exact hq) (fun k hk=>.inl hk) hc
   have hbw:w.heap.size<=b:=Nat.le_trans HLO.out.2 hB.out.2.2
   have hpr4:=(hc.block _ (lt_of_heap hB.out.2.1) (HLX.out.1 _ hbw)).trans hB.out.2.1
   have hop4:=(hc.block _ (lt_of_heap HOP.out) (HLX.out.1 _ (Nat.le_refl _))).trans HOP.out
   have hp2:=set_at HP.out.1 {p with t:=p.t.tick}
   have hm2:=hL4.ms j _ hp2
   simp only at hm2
   rw[HPX.out.2,HP.out.2.1]at hm2
   obtain⟨n1,n2,n3,n4⟩:=now_m hm2
   obtain⟨hm3,hc3⟩:=tick_m hm2
   rw[HNW.out]at n1 hm3 hc3
   obtain⟨W5,hW5⟩:∃ W5,w4.setCell ⟨pm,4,none⟩ (.int .i64 (now+1))=W5:=⟨_,rfl⟩
   rw[hW5]at hm3 hc3
   obtain⟨ow2,hL5,_,_⟩:=hL4.stepM hp2 (u':=p.t.tick) (by simp only;rw[HPX.out.2];exact hm3) (fun k hk=>.inl hk) hc3
   rw[List.set_set]at hL5
   have hlab:∀ k,w.heap.size<=k->k<w4.heap.size->k<wc.heap.size->¬ow1 k=.m j:=fun k hk _ hk2 e=>by rw[ho1 k hk2]at e;exact HLX.out.2 k hk e
   have hpr5:=(hc3.block _ (lt_of_heap hpr4) (hlab _ hbw (lt_of_heap hpr4) (lt_of_heap hB.out.2.1))).trans hpr4
   have hop5:=(hc3.block _ (lt_of_heap hop4) (hlab _ (Nat.le_refl _) (lt_of_heap hop4) (lt_of_heap HOP.out))).trans hop4
   have j1:=cell_of (i:=1) hpr4 rfl
   have r0:=cell_of (i:=0) hpr5 rfl
   have r1:=cell_of (i:=1) hpr5 rfl
   have t0:=cell_of (i:=0) hop5 rfl
   have t1:=cell_of (i:=1) hop5 rfl
   have t2:=cell_of (i:=2) hop5 rfl
   have t3:=cell_of (i:=3) hop5 rfl
   have t4:=cell_of (i:=4) hop5 rfl
   have hpp:=set_at HP.out.1 ({p with t:=p.t.tick,u:=p.t.tick}:LP)
   have hcon:=told_other_l hL5 hpp 7 A B C S (by decide) (by decide) (by decide) (by decide) (by decide)
   simp only[opV,HPX.out.1,HPX.out.2]at hcon
   have HCON:=Lib.hid hcon
   have HW5:=Lib.hid hW5
   clear hq hc hL4 ho1 hpr4 hop4 hp2 hm2 hm3 hc3 hL5 hlab hpr5 hop5 hpp hcon hW5 n4
   go_upto_region 25 with fail
   rw[HW5.out]
   go_wp2_with fail
   refine HCON.out.mono ?_
   rintro y w6 ⟨ow',rfl,h1⟩
   have H1:=Lib.hid h1
   clear h1
   go_wp2_with fail
   go_ret
   have H1o:=H1.out
   rw[<-HPX.out.1,<-HPX.out.2]at H1o
   exact⟨rfl,ow',_,_,_,p.t.tick,_,_,H1o,Nat.le_succ _,Nat.le_add_right _ _,ok_tick HP.out.2.2.1,Int.le_add_one (Int.le_refl _),(by show p.t.now+1<=p.t.now+90000000;omega)⟩
  by_cases k8:K=8
  ·subst k8
   have hcon:=told_disk_l hL hbl HP.out.1 HP.out.2.1 HP.out.2.2.1 A B C S
   simp only[opV,HPX.out.1,HPX.out.2]at hcon
   have HCON:=Lib.hid hcon
   clear hop hL hcon z0 z1 c0 c1 c2
   go_wp2_with fail
   refine HCON.out.mono ?_
   rintro y w4 ⟨ow',bv',f,rfl,h1⟩
   have H1:=Lib.hid h1
   clear h1
   go_wp2_with fail
   go_ret
   have H1o:=H1.out
   try rw[<-HPX.out.1,<-HPX.out.2]at H1o
   exact⟨rfl,ow',_,_,_,p.t,_,_,by rw[set_same HP.out.1 HP.out.2.1];exact H1o,by simp,Nat.le_add_right _ _,HP.out.2.2.1,by omega,by omega⟩
  by_cases k9:K=9
  ·subst k9
   have hcon:=told_step_l hL (by omega) HP.out.1 HP.out.2.1 HP.out.2.2.1 HP.out.2.2.2 A B C S
   simp only[opV,HPX.out.1,HPX.out.2]at hcon
   have HCON:=Lib.hid hcon
   clear hop hL hcon z0 z1 c0 c1 c2
   go_wp2_with fail
   refine HCON.out.mono ?_
   rintro y w4 ⟨ow',iv',f,T,rfl,h1,h2,h3,h4⟩
   have H1:=Lib.hid h1
   clear h1
   go_wp2_with fail
   go_ret
   have H1o:=H1.out
   try rw[<-HPX.out.1,<-HPX.out.2]at H1o
   exact⟨rfl,ow',_,_,_,T,_,_,H1o,Nat.le_succ _,by simp,h2,by omega,by omega⟩
  by_cases k10:K=10
  ·subst k10
   have hcon:=flown_l hL hil HP.out.1 HP.out.2.1 HP.out.2.2.1 HP.out.2.2.2
   simp only[opV,HPX.out.1,HPX.out.2]at hcon
   have HCON:=Lib.hid hcon
   clear hop hL hcon z0 z1 c0 c1 c2
   go_wp2_with fail
   refine HCON.out.mono ?_
   rintro y w4 ⟨ow',iv',is',rfl,h1,h2⟩
   have H1:=Lib.hid h1
   clear h1
   go_wp2_with fail
   go_ret
   have H1o:=H1.out
   try rw[<-HPX.out.1,<-HPX.out.2]at H1o
   exact⟨rfl,ow',_,_,_,p.t,_,_,by rw[set_same HP.out.1 HP.out.2.1];exact H1o,Nat.le_succ _,h2,HP.out.2.2.1,by omega,by omega⟩
  by_cases k11:K=11
  ·subst k11
   have hlx:∀ k,w.heap.size<=k->¬ow k=.x j:=fun k hk e=>by rw[HLO.out.1 k hk]at e;cases e
   obtain⟨fault,hfa⟩:∃ fault:Bool,(C.tmod 2 != 0)=fault:=⟨_,rfl⟩
   have hfb:(C.tmod 2 == 0)=!fault:=by rw[<-hfa];cases h:(C.tmod 2 == 0) <;> simp[bne,h]
   obtain⟨ok,k,T,hcase,hT,hTl,hTn,hX,hM⟩:=complete_both p.t HP.out.2.2.1 HP.out.2.2.2 B fault
   have hbw:w.heap.size<=b:=Nat.le_trans HLO.out.2 hB.out.2.2
   have HX:=Lib.hid (hX _ px (fun k=>ow k=.x j) (by rw[<-HPX.out.1];exact hL.xs j p HP.out.1) hL.err (hL.nf j))
   have HM:=Lib.hid hM
   have HT:=Lib.hid (And.intro hT (And.intro hTl hTn))
   have HCS:=Lib.hid hcase
   have HL1:=Lib.hid hL
   have HOP:=Lib.hid hop
   have HLX:=Lib.hid (And.intro hlx hbw)
   clear hop hL z0 z1 c0 c1 c2 hlx hbw hX hM hT hTl hTn hcase
   go_wp2_with fail
   refine HX.out.mono ?_
   rintro y w4 ⟨F',rfl,hq,hF,hc⟩
   obtain⟨ow1,hL4,ho1,ho2⟩:=HL1.out.stepX HP.out.1 (by rw[HPX.out.1];exact hq.lt) (fun k (hk:F' k/\k<w4.heap.size)=>hF k hk.1) hc
   have hpr4:=(hc.block _ (lt_of_heap hB.out.2.1) (HLX.out.1 _ HLX.out.2)).trans hB.out.2.1
   have hop4:=(hc.block _ (lt_of_heap HOP.out) (HLX.out.1 _ (Nat.le_refl _))).trans HOP.out
   obtain⟨W5,hW5⟩:∃ W5,w4.alloc (.cells #[.int .i64 k,.int .i64 (-1),.int .i64 0,.bool true] 39)=W5:=⟨_,rfl⟩
   have hb5:Below w4.heap.size w4 W5:=by rw[<-hW5];exact (Below.refl _ _).alloc (Nat.le_refl _) _
   have hpr5:=(hb5.block _ (lt_of_heap hpr4)).trans hpr4
   have hop5:=(hb5.block _ (lt_of_heap hop4)).trans hop4
   have he5:W5.heap[w4.heap.size]?=some (.cells #[.int .i64 k,.int .i64 (-1),.int .i64 0,.bool true] 39 (0,0)):=by rw[<-hW5];exact World.alloc_heap_new _ _
   have j1:=cell_of (i:=1) hpr5 rfl
   have t2:=cell_of (i:=2) hop5 rfl
   have t3:=cell_of (i:=3) hop5 rfl
   have hL5:=hL4.below hb5
   have hp2:=set_at HP.out.1 {p with t:=T}
   have hm2:=hL5.ms j _ hp2
   simp only at hm2
   rw[HPX.out.2,HP.out.2.1]at hm2
   have HMM:=Lib.hid (HM.out W5 pm (fun k=>ow1 k=.m j) hm2)
   have hle:ow1 w4.heap.size=.loose:=ho2 _ hc.size (fun e=>by omega)
   have HL5:=Lib.hid hL5
   have HE5:=Lib.hid (And.intro he5 hle)
   have HW5:=Lib.hid hW5
   clear hq hF hc hL4 ho1 ho2 hpr4 hop4 hb5 hpr5 hop5 he5 hL5 hp2 hm2 hle hW5
   go_upto_region 21 with fail
   rw[HW5.out]
   go_wp2_with fail
   refine HMM.out.mono ?_
   rintro y w6 ⟨G',rfl,hq,hG,hc⟩
   obtain⟨ow2,hL6,_,_⟩:=HL5.out.stepM (set_at HP.out.1 {p with t:=T}) (u':=T) (by simp only;rw[HPX.out.2];exact hq.lt) (fun k (hk:G' k/\k<w6.heap.size)=>hG k hk.1) hc
   rw[List.set_set]at hL6
   have he6:=(hc.block _ (lt_of_heap HE5.out.1) (fun e=>by rw[HE5.out.2]at e;cases e)).trans HE5.out.1
   have g0:w6.cell? ⟨w4.heap.size,0,none⟩=some (.int .i64 k):=cell_of he6 rfl
   have g1:w6.cell? ⟨w4.heap.size,1,none⟩=some (.int .i64 (-1)):=cell_of he6 rfl
   have g2:w6.cell? ⟨w4.heap.size,2,none⟩=some (.int .i64 0):=cell_of he6 rfl
   have g3:w6.cell? ⟨w4.heap.size,3,none⟩=some (.bool true):=cell_of he6 rfl
   have HL6:=Lib.hid hL6
   clear hq hG hc hL6 he6
   rcases HCS.out with ⟨rfl,rfl⟩ |⟨rfl,rfl⟩
   ·go_wp2_with fail
    refine (none_l 10 w6).mono ?_
    rintro y w7 ⟨rfl,hB7⟩
    go_wp2_with fail
    go_ret
    have H1o:=HL6.out.below hB7
    exact⟨rfl,ow2,_,_,_,T,_,_,H1o,Nat.le_succ _,Nat.le_add_right _ _,HT.out.1,by have:=HT.out.2.1;omega,by have:=HT.out.2.2;omega⟩
   ·go_wp2_with fail
    refine (fine_l w6).mono ?_
    rintro y w7 ⟨rfl,hB7⟩
    go_wp2_with fail
    go_ret
    have H1o:=HL6.out.below hB7
    exact⟨rfl,ow2,_,_,_,T,_,_,H1o,Nat.le_succ _,Nat.le_add_right _ _,HT.out.1,by have:=HT.out.2.1;omega,by have:=HT.out.2.2;omega⟩
  by_cases k12:K=12
  ·subst k12
   have hcon:=told_drive_l hL HP.out.1 HP.out.2.1 HP.out.2.2.1 HP.out.2.2.2 A B C S hn58 hS
   simp only[opV,HPX.out.1,HPX.out.2]at hcon
   have HCON:=Lib.hid hcon
   clear hop hL hcon z0 z1 c0 c1 c2
   go_wp2_with fail
   refine HCON.out.mono ?_
   rintro y w4 ⟨ow',T,rfl,h1,h2,h3,h4⟩
   have H1:=Lib.hid h1
   clear h1
   go_wp2_with fail
   go_ret
   have H1o:=H1.out
   try rw[<-HPX.out.1,<-HPX.out.2]at H1o
   exact⟨rfl,ow',_,_,_,T,_,_,H1o,Nat.le_succ _,Nat.le_add_right _ _,h2,by omega,by omega⟩
  by_cases k13:K=13
  ·subst k13
   have hcon:=told_crash_l hL HP.out.1 HP.out.2.1 HP.out.2.2.1 HP.out.2.2.2 A B C S hS
   simp only[opV,HPX.out.1,HPX.out.2]at hcon
   have HCON:=Lib.hid hcon
   clear hop hL hcon z0 z1 c0 c1 c2
   go_wp2_with fail
   refine HCON.out.mono ?_
   rintro y w4 ⟨ow',T,rfl,h1,h2,h3,h4⟩
   have H1:=Lib.hid h1
   clear h1
   go_wp2_with fail
   go_ret
   have H1o:=H1.out
   try rw[<-HPX.out.1,<-HPX.out.2]at H1o
   exact⟨rfl,ow',_,_,_,T,_,_,H1o,Nat.le_succ _,Nat.le_add_right _ _,h2,by omega,by omega⟩
  have hK2:(K == 2)=false:=by simpa using k2
  have hK3:(K == 3)=false:=by simpa using k3
  have hK4:(K == 4)=false:=by simpa using k4
  have hK5:(K == 5)=false:=by simpa using k5
  have hK6:(K == 6)=false:=by simpa using k6
  have hK7:(K == 7)=false:=by simpa using k7
  have hK8:(K == 8)=false:=by simpa using k8
  have hK9:(K == 9)=false:=by simpa using k9
  have hK10:(K == 10)=false:=by simpa using k10
  have hK11:(K == 11)=false:=by simpa using k11
  have hK12:(K == 12)=false:=by simpa using k12
  have hK13:(K == 13)=false:=by simpa using k13
  have hcon:=told_other_l hL HP.out.1 K A B C S hK6 hK8 hK9 hK12 hK13
  simp only[opV,HPX.out.1,HPX.out.2]at hcon
  have HCON:=Lib.hid hcon
  clear hop hL hcon z0 z1 c0 c1 c2
  go_wp2_with fail
  refine HCON.out.mono ?_
  rintro y w4 ⟨ow',rfl,h1⟩
  have H1:=Lib.hid h1
  clear h1
  go_wp2_with fail
  go_ret
  have H1o:=H1.out
  try rw[<-HPX.out.1,<-HPX.out.2]at H1o
  exact⟨rfl,ow',_,_,_,p.t,_,_,by rw[set_same HP.out.1 HP.out.2.1];exact H1o,Nat.le_succ _,Nat.le_add_right _ _,HP.out.2.2.1,by omega,by omega⟩
end
section
variable {wb w:World} {wl:Nat} {ow:Nat->Lab} {qv bv iv:Value} {ps:List LP} {bs is:List Value}
def LI(wb w:World)(wl n:Nat):Prop:=
 ∃ ow qv bv iv ps bs is,LB wb w wl ow qv bv iv ps bs is/\ps.length<=n/\bs.length<=n/\is.length<=4*n/\∀ p∈ps,p.u=p.t/\p.t.Ok/\p.t.last<=n/\p.t.now<=n*90000000
theorem LI.below{wb w W:World}{wl n:Nat}(h:LI wb w wl n)(hb:Below w.heap.size w W):LI wb W wl n:=by
 obtain⟨ow,qv,bv,iv,ps,bs,is,h,x⟩:=h
 exact⟨ow,qv,bv,iv,ps,bs,is,h.below hb,x⟩
theorem step_new_no(h:LB wb w wl ow qv bv iv ps bs is)(A B C:Int)(S:ByteArray)(hA:A<1\/4<A):
  Calls Tryx.prog 30 #[ptr wl,opV 1 A B C S] w fun y w'=>y=.returned (.bool true)/\LB wb w' wl ow qv bv iv ps bs is:=by
 obtain⟨W0,hW0⟩:∃ W0,w.alloc (.cells #[.int .i64 1,.int .i64 A,.int .i64 B,.int .i64 C,.string S] 73)=W0:=⟨_,rfl⟩
 have h0:W0.heap[w.heap.size]?=some (.cells #[.int .i64 1,.int .i64 A,.int .i64 B,.int .i64 C,.string S] 73 (0,0)):=by rw[<-hW0];exact World.alloc_heap_new _ _
 have hb0:Below w.heap.size w W0:=by rw[<-hW0];exact (Below.refl _ _).alloc (Nat.le_refl _) _
 have hcon:=opened_no_l (h.below hb0) 1 A B C S hA
 simp only[opV]at hcon
 have HCON:=Lib.hid hcon
 have z0:W0.cell? ⟨w.heap.size,0,none⟩=some (.int .i64 1):=cell_of h0 rfl
 have e0:=z0
 have e1:=cell_of (i:=1) h0 rfl
 have e2:=cell_of (i:=2) h0 rfl
 have e3:=cell_of (i:=3) h0 rfl
 have e4:=cell_of (i:=4) h0 rfl
 have HW0:=Lib.hid hW0
 clear h hW0 hb0 h0 hcon hA
 unfold opV
 go_enter Tryx.func30,Tryz.ntmps30
 go_upto_region 1 with fail
 rw[HW0.out]
 go_wp2_with fail
 refine HCON.out.mono ?_
 rintro y w4 ⟨rfl,h1⟩
 have H1:=Lib.hid h1
 clear h1
 go_wp2_with fail
 go_ret
 exact⟨rfl,H1.out⟩
theorem step_new_l(h:LB wb w wl ow qv bv iv ps bs is)(hps:ps.length<=1000000)(d:Nat)(B C:Int)(S:ByteArray)(hd:1<=d/\d<=4):
  Calls Tryx.prog 30 #[ptr wl,opV 1 d B C S] w fun y w'=>∃ ow' qv' x m,y=.returned (.bool true)/\LB wb w' wl ow' qv' bv iv (ps ++ [(⟨x,m,St.new d,St.new d⟩:LP)]) bs is:=by
 obtain⟨W0,hW0⟩:∃ W0,w.alloc (.cells #[.int .i64 1,.int .i64 d,.int .i64 B,.int .i64 C,.string S] 73)=W0:=⟨_,rfl⟩
 have h0:W0.heap[w.heap.size]?=some (.cells #[.int .i64 1,.int .i64 d,.int .i64 B,.int .i64 C,.string S] 73 (0,0)):=by rw[<-hW0];exact World.alloc_heap_new _ _
 have hb0:Below w.heap.size w W0:=by rw[<-hW0];exact (Below.refl _ _).alloc (Nat.le_refl _) _
 have hcon:=opened_l (h.below hb0) hps 1 B C d S hd
 simp only[opV]at hcon
 have HCON:=Lib.hid hcon
 have z0:W0.cell? ⟨w.heap.size,0,none⟩=some (.int .i64 1):=cell_of h0 rfl
 have e0:=z0
 have e1:=cell_of (i:=1) h0 rfl
 have e2:=cell_of (i:=2) h0 rfl
 have e3:=cell_of (i:=3) h0 rfl
 have e4:=cell_of (i:=4) h0 rfl
 have HW0:=Lib.hid hW0
 clear h hW0 hb0 h0 hcon hd
 unfold opV
 go_enter Tryx.func30,Tryz.ntmps30
 go_upto_region 1 with fail
 rw[HW0.out]
 go_wp2_with fail
 refine HCON.out.mono ?_
 rintro y w4 ⟨ow',qv',x,m,rfl,h1⟩
 have H1:=Lib.hid h1
 clear h1
 go_wp2_with fail
 go_ret
 exact⟨ow',qv',x,m,rfl,H1.out⟩
theorem step_empty_l(h:LB wb w wl ow qv bv iv [] bs is)(K A B C:Int)(S:ByteArray)(hK:(K == 1)=false):
  Calls Tryx.prog 30 #[ptr wl,opV K A B C S] w fun y w'=>y=.returned (.bool true)/\LB wb w' wl ow qv bv iv [] bs is:=by
 obtain⟨W0,hW0⟩:∃ W0,w.alloc (.cells #[.int .i64 K,.int .i64 A,.int .i64 B,.int .i64 C,.string S] 73)=W0:=⟨_,rfl⟩
 have h0:W0.heap[w.heap.size]?=some (.cells #[.int .i64 K,.int .i64 A,.int .i64 B,.int .i64 C,.string S] 73 (0,0)):=by rw[<-hW0];exact World.alloc_heap_new _ _
 have hb0:Below w.heap.size w W0:=by rw[<-hW0];exact (Below.refl _ _).alloc (Nat.le_refl _) _
 have hL0:=h.below hb0
 obtain⟨qa,qc,rfl⟩:=own_slice hL0.q
 have c0:W0.cell? ⟨wl,0,none⟩=some (.slice qa 0 qc):=cell_of hL0.me rfl
 have z0:W0.cell? ⟨w.heap.size,0,none⟩=some (.int .i64 K):=cell_of h0 rfl
 have HL:=Lib.hid hL0
 have HW0:=Lib.hid hW0
 clear h hW0 hb0 h0 hL0
 unfold opV
 go_enter Tryx.func30,Tryz.ntmps30
 go_upto_region 1 with fail
 rw[HW0.out]
 go_wp2_with fail
 go_ret
 exact⟨rfl,HL.out⟩
theorem step_li{n:Nat}(h:LI wb w wl n)(hn:n<=65536)(K A B C:Int)(S:ByteArray)(hA:-9223372036854775808<=A/\A<=9223372036854775807)(hS:S.size<=65536):
  Calls Tryx.prog 30 #[ptr wl,opV K A B C S] w fun y w'=>y=.returned (.bool true)/\LI wb w' wl (n+1):=by
 obtain⟨ow,qv,bv,iv,ps,bs,is,h,h1,h2,h3,h4⟩:=h
 by_cases k1:K=1
 ·subst k1
  by_cases hd:1<=A/\A<=4
  ·obtain⟨d,rfl⟩:∃ d:Nat,A=d:=⟨A.toNat,by omega⟩
   refine (step_new_l h (by omega) d B C S (by omega)).mono ?_
   rintro y w' ⟨ow',qv',x,m,rfl,g⟩
   refine⟨rfl,ow',qv',bv,iv,_,bs,is,g,by simpa using h1,by omega,by omega,fun p hp=>?_⟩
   rcases List.mem_append.1 hp with hp | hp
   ·obtain⟨a,b,c,d⟩:=h4 p hp
    exact⟨a,b,by omega,by omega⟩
   ·rw[List.mem_singleton.1 hp]
    exact⟨rfl,ok_new (by omega),by simp only[St.new];omega,by simp only[St.new];omega⟩
  ·refine (step_new_no h A B C S (by omega)).mono ?_
   rintro y w' ⟨rfl,g⟩
   exact⟨rfl,ow,qv,bv,iv,ps,bs,is,g,by omega,by omega,by omega,fun p hp=>by obtain⟨a,b,c,d⟩:=h4 p hp;exact⟨a,b,by omega,by omega⟩⟩
 ·by_cases hz:ps=[]
  ·subst hz
   refine (step_empty_l h K A B C S (by simpa using k1)).mono ?_
   rintro y w' ⟨rfl,g⟩
   exact⟨rfl,ow,qv,bv,iv,[],bs,is,g,by simp,by omega,by omega,by simp⟩
  ·have hpl:0<(ps.length:Int):=by cases ps with | nil=>exact absurd rfl hz | cons _ _=>simp
   obtain⟨j,hj⟩:∃ j:Nat,pickJ A ps.length=j:=⟨(pickJ A ps.length).toNat,by have:=(pickJ_lt A hpl).1;omega⟩
   have hjl:j<ps.length:=by have:=(pickJ_lt A hpl).2;omega
   obtain⟨p,hp⟩:∃ p,ps[j]?=some p:=⟨ps[j],List.getElem?_eq_getElem hjl⟩
   obtain⟨htu,hk,hla,hno⟩:=h4 p (List.mem_of_getElem? hp)
   have hsm:p.t.Small:=⟨by omega,by omega⟩
   have key:=step_any_l h (by omega) hp htu hk hsm A B C S hA hj K (by simpa using k1) (by omega) (by omega) (by omega) (by omega)
   refine key.mono ?_
   rintro y w' ⟨rfl,ow',qv',bv',iv',T,bs',is',g,hb,hi,hT,hTl,hTn⟩
   refine⟨rfl,ow',qv',bv',iv',_,bs',is',g,by simpa using Nat.le_succ_of_le h1,by omega,by omega,fun p' hp'=>?_⟩
   rcases List.mem_or_eq_of_mem_set hp' with hp' | rfl
   ·obtain⟨a,b,c,d⟩:=h4 p' hp'
    exact⟨a,b,by omega,by omega⟩
   ·exact⟨rfl,hT,by simp only;omega,by simp only;omega⟩
end
end
section
open Go.RowKit Go.Shelf Go.Lib
set_option maxRecDepth 100000
structure OpR where
 K:Int
 A:Int
 B:Int
 C:Int
 S:ByteArray
def Scr(w:World)(bp:Option Addr)(ops:List OpR):Prop:=
 ∀ (i:Nat) (o:OpR),ops[i]?=some o->∃ sb so,bp=some ⟨sb,so,none⟩/\w.cell? ⟨sb,so+i*5,none⟩=some (.int .i64 o.K)/\w.cell? ⟨sb,so+i*5+1,none⟩=some (.int .i64 o.A)/\
   w.cell? ⟨sb,so+i*5+2,none⟩=some (.int .i64 o.B)/\w.cell? ⟨sb,so+i*5+3,none⟩=some (.int .i64 o.C)/\w.cell? ⟨sb,so+i*5+4,none⟩=some (.string o.S)
theorem Scr.below{w W:World}{bp:Option Addr}{ops:List OpR}(h:Scr w bp ops)(hb:Below w.heap.size w W):Scr W bp ops:=fun i o hi=>by
 obtain⟨sb,so,e,h0,h1,h2,h3,h4⟩:=h i o hi
 exact⟨sb,so,e,cell_later hb h0,cell_later hb h1,cell_later hb h2,cell_later hb h3,cell_later hb h4⟩
theorem small_m(w:World)(bp:Option Addr)(cap:Nat)(ops:List OpR)(h:Scr w bp ops)(hS:∀ o∈ops,o.S.size<=1000000000000000):
  Calls Tryx.prog 29 #[.slice bp ops.length cap] w fun y w'=>w'=w/\∃ r,y=.returned (.bool r)/\(r=true->ops.length<=65536/\∀ o∈ops,o.S.size<=65536):=by
 obtain⟨n,hn⟩:∃ n,ops.length=n:=⟨_,rfl⟩
 rw[hn]
 have HSC:=Lib.hid h
 have HS:=Lib.hid hS
 have HN:=Lib.hid hn
 clear h hS hn
 by_cases hbig:(65536:Int)<n
 ·go_enter Tryx.func29,Tryz.ntmps29
  go_wp2_with fail
  go_ret
  exact⟨rfl,false,rfl,fun h=>by cases h⟩
 ·have hle:n<=65536:=by omega
  go_enter Tryx.func29,Tryz.ntmps29
  go_wp2_with fail
  go_loopg [3,4] n (fun k m i wr=>∃ (j m':Nat),k=n - j/\j<=n/\m=.int .i64 m'/\m'<=65536/\i=.int .i64 j/\wr=w/\Hid (∀ i' o,i'<j->ops[i']?=some o->o.S.size<=65536))
  case atStart=>exact ⟨0,n,by simp,by omega,rfl,hle,rfl,rfl,Lib.hid fun i' o h=>by omega⟩
  case round=>
   obtain⟨j,m',rfl,hj,rfl,hm',rfl,rfl,HP⟩:=hrel
   by_cases hlt:j<n
   ·have hltI:(j:Int)<(n:Int):=by omega
    have hj0:(0:Int)<=(j:Int):=by omega
    obtain⟨o,ho⟩:∃ o,ops[j]?=some o:=⟨_,List.getElem?_eq_getElem (by rw[HN.out];exact hlt)⟩
    obtain⟨sb,so,rfl,_,_,_,_,z4⟩:=HSC.out j o ho
    obtain⟨s,hs⟩:∃ s,o.S=s:=⟨_,rfl⟩
    rw[hs]at z4
    have hsz:=HS.out o (List.mem_of_getElem? ho)
    rw[hs]at hsz
    have HO:=Lib.hid (And.intro ho hs)
    clear ho hs
    have hw1:IntKind.i64.wrap ((m':Int)+(s.size:Int))=((m'+s.size:Nat):Int):=by rw[IntKind.wrap_i64];omega
    obtain⟨m2,hm2⟩:∃ m2,m'+s.size=m2:=⟨_,rfl⟩
    rw[hm2]at hw1
    by_cases hov:(65536:Int)<m2
    ·have HM2:=Lib.hid hm2
     clear hm2 hsz hm'
     go_wp2_with fail
     go_ret
     exact⟨rfl,false,rfl,fun h=>by cases h⟩
    ·have hm3:m2<=65536:=by omega
     have HM2:=Lib.hid (And.intro hm2 hm3)
     clear hm2 hsz hm' hm3
     go_wp2_with fail
     go_roundg (n - (j+1))
     case measure=>omega
     case rel=>
      exact⟨j+1,m2,rfl,by omega,rfl,HM2.out.2,by go_num,rfl,Lib.hid fun i' o' hi ho'=>by
       by_cases h:i'=j
       ·subst h
        rw[HO.out.1]at ho'
        cases ho'
        have:=HM2.out
        rw[HO.out.2]
        omega
       ·exact HP.out i' o' (by omega) ho'⟩
   ·obtain rfl:j=n:=by omega
    go_wp2_with fail
    go_ret
    refine⟨rfl,true,rfl,fun _=>⟨hle,fun o ho=>?_⟩⟩
    obtain⟨i,hi,he⟩:=List.getElem_of_mem ho
    exact HP.out i o (by rw[<-HN.out];exact hi) (by rw[List.getElem?_eq_getElem hi,he])
end
end Go.Proofs.YticobikhndlejaaGreatDoor
