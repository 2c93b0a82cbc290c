/- Part 10 of the proof (see the last part). -/
import Derived.Test.YticobikhndlejaaGreatDoorAlI
namespace Go.Proofs.YticobikhndlejaaGreatDoor
section
open Go.RowKit Go.Shelf Go.Lib
set_option maxRecDepth 100000
set_option maxHeartbeats 8000000
theorem at_r(n:Int)(w:World){q:Nat}{t:St}{l:List RR}{told:List Int}{fs:List (Cmd×Value)}{rv tv fv dv:Value}(h:RB w q t l told fs rv tv fv dv)(hlen:l.length<=1000000){k:Nat}{x:RR}(hk:l[k]?=some x)(hx:x.r.num=n)(hno:∀ y∈l.take k,y.r.num≠n):
  Calls Tryx.prog 110 #[ptr q,.int .i64 n] w fun x w'=>x=.returned (.int .i64 k)/\Below w.heap.size w w':=by
 obtain⟨ra,rc,rfl⟩:=own_slice h.reqs
 obtain⟨m,hm⟩:∃ m,l.length=m:=⟨_,rfl⟩
 rw[hm]at h hlen
 have hkm:k<m:=by have:=(List.getElem?_eq_some_iff.1 hk).1;omega
 have HR:=Lib.hid h
 clear h
 go_enter Tryx.func110,Tryz.ntmps110
 go_wp2_with fail
 go_loopg [5] (k+1) (fun kk i wr=>∃ (j:Nat),kk=k+1 - j/\j<=k/\i=.int .i64 j/\Below w.heap.size w wr)
 case atStart=>exact ⟨0,by simp,by omega,rfl,Below.refl _ _⟩
 case round=>
  obtain⟨j,rfl,hj,rfl,hB⟩:=hrel
  have hR:=HR.out.below hB
  have d1:=hR.c1
  have hltI:(j:Int)<(m:Int):=by omega
  obtain⟨y,hy⟩:∃ y,l[j]?=some y:=⟨_,List.getElem?_eq_getElem (by omega)⟩
  obtain⟨g,cap,e,_,_,hcell⟩:=hR.req hy
  simp only[Value.slice.injEq]at e
  obtain⟨rfl,hdrop,rfl⟩:=e
  clear hdrop
  have p0:wr.cell? ⟨g,j*10,none⟩=some (.int .i64 y.r.num):=hcell 0 _ rfl
  clear hR hcell
  by_cases hjk:j=k
  ·subst hjk
   rw[hy]at hk
   obtain rfl:=Option.some.inj hk
   rw[hx]at p0
   go_wp2_with fail
   go_ret
   exact⟨rfl,hB⟩
  ·have hne:y.r.num≠n:=hno y (List.mem_of_getElem? (i:=j) (by rw[List.getElem?_take_of_lt (by omega)];exact hy))
   go_wp2_with fail
   go_roundg (k+1 - (j+1))
   case measure=>omega
   case rel=>exact ⟨j+1,rfl,by omega,by go_num,hB⟩
theorem place_yes(n:Int)(w:World){q:Nat}{t:St}{l:List RR}{told:List Int}{fs:List (Cmd×Value)}{rv tv fv dv:Value}(h:RB w q t l told fs rv tv fv dv)(hlen:l.length<=1000000)(htl:told.length<=1000000){k:Nat}{x:RR}(hk:l[k]?=some x)(hx:x.r.num=n)(hno:∀ y∈l.take k,y.r.num≠n)(hnt:n ∉ told):
  Calls Tryx.prog 108 #[ptr q,.int .i64 n] w fun x w'=>x=.returned (.int .i64 k)/\Below w.heap.size w w':=by
 have HT:=Lib.hid (isTold_r n w h htl)
 obtain⟨ra,rc,rfl⟩:=own_slice h.reqs
 obtain⟨m,hm⟩:∃ m,l.length=m:=⟨_,rfl⟩
 rw[hm]at h hlen
 have hkm:k<m:=by have:=(List.getElem?_eq_some_iff.1 hk).1;omega
 have HR:=Lib.hid h
 clear h
 go_enter Tryx.func108,Tryz.ntmps108
 go_wp2_with fail
 refine HT.out.mono ?_
 rintro y w1 ⟨rfl,hB1⟩
 rw[decide_eq_false hnt]
 have HB1:=Lib.hid hB1
 clear hB1
 go_wp2_with fail
 go_loopg [6] (k+1) (fun kk i wr=>∃ (j:Nat),kk=k+1 - j/\j<=k/\i=.int .i64 j/\Below w.heap.size w wr)
 case atStart=>exact ⟨0,by simp,by omega,rfl,HB1.out⟩
 case round=>
  obtain⟨j,rfl,hj,rfl,hB⟩:=hrel
  have hR:=HR.out.below hB
  have d1:=hR.c1
  have hltI:(j:Int)<(m:Int):=by omega
  obtain⟨y,hy⟩:∃ y,l[j]?=some y:=⟨_,List.getElem?_eq_getElem (by omega)⟩
  obtain⟨g,cap,e,_,_,hcell⟩:=hR.req hy
  simp only[Value.slice.injEq]at e
  obtain⟨rfl,hdrop,rfl⟩:=e
  clear hdrop
  have p0:wr.cell? ⟨g,j*10,none⟩=some (.int .i64 y.r.num):=hcell 0 _ rfl
  clear hR hcell
  by_cases hjk:j=k
  ·subst hjk
   rw[hy]at hk
   obtain rfl:=Option.some.inj hk
   rw[hx]at p0
   go_wp2_with fail
   go_ret
   exact⟨rfl,hB⟩
  ·have hne:y.r.num≠n:=hno y (List.mem_of_getElem? (i:=j) (by rw[List.getElem?_take_of_lt (by omega)];exact hy))
   go_wp2_with fail
   go_roundg (k+1 - (j+1))
   case measure=>omega
   case rel=>exact ⟨j+1,rfl,by omega,by go_num,hB⟩
theorem place_no(n:Int)(w:World){q:Nat}{t:St}{l:List RR}{told:List Int}{fs:List (Cmd×Value)}{rv tv fv dv:Value}(h:RB w q t l told fs rv tv fv dv)(hlen:l.length<=1000000)(htl:told.length<=1000000)(hno:n∈told\/∀ y∈l,y.r.num≠n):
  Calls Tryx.prog 108 #[ptr q,.int .i64 n] w fun x w'=>x=.returned (.int .i64 (-1))/\Below w.heap.size w w':=by
 have HT:=Lib.hid (isTold_r n w h htl)
 obtain⟨ra,rc,rfl⟩:=own_slice h.reqs
 obtain⟨m,hm⟩:∃ m,l.length=m:=⟨_,rfl⟩
 rw[hm]at h hlen
 have HR:=Lib.hid h
 obtain⟨bt,hbt⟩:∃ bt,decide (n∈told)=bt:=⟨_,rfl⟩
 have hno2:bt=false->∀ y∈l,y.r.num≠n:=fun hb=>hno.resolve_left (by rw[hb]at hbt;simpa using hbt)
 have HNO:=Lib.hid hno2
 have HBT:=Lib.hid hbt
 clear h hno hbt hno2
 cases bt
 all_goals
  go_enter Tryx.func108,Tryz.ntmps108
  go_wp2_with fail
  refine HT.out.mono ?_
  rintro y w1 ⟨rfl,hB1⟩
  rw[HBT.out]
  have HB1:=Lib.hid hB1
  clear hB1
  go_wp2_with fail
  go_loopg [6] m (fun kk i wr=>∃ (j:Nat),kk=m - j/\j<=m/\i=.int .i64 j/\Below w.heap.size w wr)
  case atStart=>exact ⟨0,by simp,by omega,rfl,HB1.out⟩
  case round=>
   obtain⟨j,rfl,hj,rfl,hB⟩:=hrel
   have hR:=HR.out.below hB
   have d1:=hR.c1
   by_cases hlt:j<m
   ·have hltI:(j:Int)<(m:Int):=by omega
    obtain⟨y,hy⟩:∃ y,l[j]?=some y:=⟨_,List.getElem?_eq_getElem (by omega)⟩
    obtain⟨g,cap,e,_,_,hcell⟩:=hR.req hy
    simp only[Value.slice.injEq]at e
    obtain⟨rfl,hdrop,rfl⟩:=e
    clear hdrop
    have p0:wr.cell? ⟨g,j*10,none⟩=some (.int .i64 y.r.num):=hcell 0 _ rfl
    clear hR hcell
    by_cases hyn:y.r.num=n
    ·first
     | (have hc:=HNO.out (by first | rfl | trivial) y (List.mem_of_getElem? hy)
        exact absurd hyn hc)
     | (go_wp2_with fail
        go_roundg (m - (j+1))
        case measure=>omega
        case rel=>exact ⟨j+1,rfl,by omega,by go_num,hB⟩)
    ·go_wp2_with fail
     go_roundg (m - (j+1))
     case measure=>omega
     case rel=>exact ⟨j+1,rfl,by omega,by go_num,hB⟩
   ·obtain rfl:j=m:=by omega
    clear hR
    go_wp2_with fail
    go_ret
    exact⟨rfl,hB⟩
theorem any_take_succ{α:Type}{l:List α}{j:Nat}{a:α}(h:l[j]?=some a)(f:α->Bool):(l.take (j+1)).any f=((l.take j).any f || f a):=by
 obtain⟨hl,e⟩:=List.getElem?_eq_some_iff.1 h
 rw[List.take_succ_eq_append_getElem hl,List.any_append,e]
 simp
theorem ready_r(w:World){q:Nat}{t:St}{l:List RR}{told:List Int}{fs:List (Cmd×Value)}{rv tv fv dv:Value}(h:RB w q t l told fs rv tv fv dv)(hl:l.map (·.r)=t.rs)(hs:t.rs.Pairwise (·.num < ·.num))(hlen:l.length<=1000000){k:Nat}{x:RR}(hk:l[k]?=some x):
  Calls Tryx.prog 142 #[ptr q,.int .i64 k] w fun y w'=>y=.returned (.bool (isReadyR t.now t.rs x.r))/\Below w.heap.size w w':=by
 have hrk:t.rs[k]?=some x.r:=by rw[<-hl,List.getElem?_map,hk];rfl
 rw[isReadyR_at hs hrk]
 obtain⟨ra,rc,rfl⟩:=own_slice h.reqs
 obtain⟨m,hm⟩:∃ m,l.length=m:=⟨_,rfl⟩
 rw[hm]at h hlen
 have hkm:k<m:=by have:=(List.getElem?_eq_some_iff.1 hk).1;omega
 have hkI:(k:Int)<(m:Int):=by omega
 have hk0:(0:Int)<=(k:Int):=by omega
 obtain⟨g,cap,e,hgl,_,hcell⟩:=h.req hk
 simp only[Value.slice.injEq]at e
 obtain⟨rfl,hdrop,rfl⟩:=e
 clear hdrop
 have p0:w.cell? ⟨g,k*10,none⟩=some (.int .i64 x.r.num):=hcell 0 _ rfl
 have p1:w.cell? ⟨g,k*10+1,none⟩=some (.bool x.r.write):=hcell 1 _ rfl
 have p2:w.cell? ⟨g,k*10+2,none⟩=some (.int .i64 x.r.page):=hcell 2 _ rfl
 have p3:w.cell? ⟨g,k*10+3,none⟩=some (.string x.data):=hcell 3 _ rfl
 have p4:w.cell? ⟨g,k*10+4,none⟩=some (.int .i64 x.r.state):=hcell 4 _ rfl
 have p5:w.cell? ⟨g,k*10+5,none⟩=some (.int .i64 x.r.tries):=hcell 5 _ rfl
 have p6:w.cell? ⟨g,k*10+6,none⟩=some (.int .i64 x.r.after):=hcell 6 _ rfl
 have p7:w.cell? ⟨g,k*10+7,none⟩=some (.bool x.r.alone):=hcell 7 _ rfl
 have p8:w.cell? ⟨g,k*10+8,none⟩=some (.bool x.r.inAir):=hcell 8 _ rfl
 have p9:w.cell? ⟨g,k*10+9,none⟩=some (.string x.answer):=hcell 9 _ rfl
 have c1:=h.c1
 have c4:=h.c4
 have hql:=lt_of_heap h.que
 have HR:=Lib.hid h
 clear h hcell
 obtain⟨W,hW⟩:∃ W,w.alloc (.cells #[.int .i64 x.r.num,.bool x.r.write,.int .i64 x.r.page,.string x.data,.int .i64 x.r.state,.int .i64 x.r.tries,.int .i64 x.r.after,.bool x.r.alone,.bool x.r.inAir,.string x.answer] 191)=W:=⟨_,rfl⟩
 have hBW:Below w.heap.size w W:=by rw[<-hW];exact (Below.refl _ _).alloc (Nat.le_refl _) _
 have hXW:W.heap[w.heap.size]?=some (.cells #[.int .i64 x.r.num,.bool x.r.write,.int .i64 x.r.page,.string x.data,.int .i64 x.r.state,.int .i64 x.r.tries,.int .i64 x.r.after,.bool x.r.alone,.bool x.r.inAir,.string x.answer] 191 (0,0)):=by rw[<-hW];exact World.alloc_heap_new _ _
 have x1:W.cell? ⟨w.heap.size,1,none⟩=some (.bool x.r.write):=cell_of hXW rfl
 have x2:W.cell? ⟨w.heap.size,2,none⟩=some (.int .i64 x.r.page):=cell_of hXW rfl
 have HW:=Lib.hid hW
 have HBW:=Lib.hid hBW
 have hwl:=lt_of_heap hXW
 have HXW:=Lib.hid hXW
 clear hW hBW hXW
 go_enter Tryx.func142,Tryz.ntmps142
 obtain⟨st,hst⟩:∃ z,x.r.state=z:=⟨_,rfl⟩
 obtain⟨af,haf⟩:∃ z,x.r.after=z:=⟨_,rfl⟩
 rw[hst,haf]at HW HXW
 rw[hst]at p4
 rw[haf]at p6
 rw[hst,haf]
 have x4:W.cell? ⟨w.heap.size,4,none⟩=some (.int .i64 st):=cell_of HXW.out rfl
 have x6:W.cell? ⟨w.heap.size,6,none⟩=some (.int .i64 af):=cell_of HXW.out rfl
 have cW:=(HBW.out.cell (p:=⟨q,4,none⟩) hql).trans c4
 clear hst haf
 by_cases h0:st=0
 ·subst h0
  by_cases haf:af>t.now
  ·have hd:decide (af>t.now)=true:=decide_eq_true haf
   have hd2:decide (af<=t.now)=false:=decide_eq_false (by omega)
   go_wp2_with fail
   rw[HW.out]
   go_quiet (fail)
   go_wp2_with fail
   go_ret
   exact⟨by simp[hd2],below_drewN HBW.out _⟩
  ·have hd:decide (af>t.now)=false:=decide_eq_false haf
   have hd2:decide (af<=t.now)=true:=decide_eq_true (by omega)
   go_wp2_with fail
   rw[HW.out]
   go_quiet (fail)
   go_wp2_with fail
   go_loopg [6] k (fun kk i wx=>∃ j,kk=k - j/\j<=k/\i=.int .i64 j/\((t.rs.take j).any fun o=>stands o x.r)=false/\Below W.heap.size W wx)
   case atStart=>exact ⟨0,by simp,by omega,rfl,by simp,below_drewN (Below.refl _ _) _⟩
   case round=>
    obtain⟨j,rfl,hj,rfl,hno,hB⟩:=hrel
    by_cases hlt:j<k
    ·have hltI:(j:Int)<(k:Int):=by omega
     have hjm:(j:Int)<(m:Int):=by omega
     have hj0:(0:Int)<=(j:Int):=by omega
     have hBw:=HBW.out.trans (hB.mono HBW.out.size)
     have hR:=HR.out.below hBw
     have d1:=hR.c1
     obtain⟨y,hy⟩:∃ y,l[j]?=some y:=⟨_,List.getElem?_eq_getElem (by omega)⟩
     have hyr:t.rs[j]?=some y.r:=by rw[<-hl,List.getElem?_map,hy];rfl
     have hsucc:=any_take_succ hyr (fun o=>stands o x.r)
     rw[hno,Bool.false_or]at hsucc
     obtain⟨g2,cap2,e2,_,_,hcell2⟩:=hR.req hy
     simp only[Value.slice.injEq,Option.some.injEq,Addr.mk.injEq]at e2
     obtain⟨⟨rfl,_⟩,hdrop,rfl⟩:=e2
     clear hdrop
     have r0:wr.cell? ⟨g,j*10,none⟩=some (.int .i64 y.r.num):=hcell2 0 _ rfl
     have r1:wr.cell? ⟨g,j*10+1,none⟩=some (.bool y.r.write):=hcell2 1 _ rfl
     have r2:wr.cell? ⟨g,j*10+2,none⟩=some (.int .i64 y.r.page):=hcell2 2 _ rfl
     have r3:wr.cell? ⟨g,j*10+3,none⟩=some (.string y.data):=hcell2 3 _ rfl
     have r4:wr.cell? ⟨g,j*10+4,none⟩=some (.int .i64 y.r.state):=hcell2 4 _ rfl
     have r5:wr.cell? ⟨g,j*10+5,none⟩=some (.int .i64 y.r.tries):=hcell2 5 _ rfl
     have r6:wr.cell? ⟨g,j*10+6,none⟩=some (.int .i64 y.r.after):=hcell2 6 _ rfl
     have r7:wr.cell? ⟨g,j*10+7,none⟩=some (.bool y.r.alone):=hcell2 7 _ rfl
     have r8:wr.cell? ⟨g,j*10+8,none⟩=some (.bool y.r.inAir):=hcell2 8 _ rfl
     have r9:wr.cell? ⟨g,j*10+9,none⟩=some (.string y.answer):=hcell2 9 _ rfl
     have s1:wr.cell? ⟨w.heap.size,1,none⟩=some (.bool x.r.write):=(hB.cell (p:=⟨w.heap.size,1,none⟩) hwl).trans x1
     have s2:wr.cell? ⟨w.heap.size,2,none⟩=some (.int .i64 x.r.page):=(hB.cell (p:=⟨w.heap.size,2,none⟩) hwl).trans x2
     have hww:=Nat.lt_of_lt_of_le hwl hB.size
     have hwn:w.heap.size≠wr.heap.size:=by omega
     have hwn2:=hwn.symm
     obtain⟨yp,hyp⟩:∃ z,y.r.page=z:=⟨_,rfl⟩
     obtain⟨xp,hxp⟩:∃ z,x.r.page=z:=⟨_,rfl⟩
     obtain⟨yw,hyw⟩:∃ z,y.r.write=z:=⟨_,rfl⟩
     obtain⟨xw,hxw⟩:∃ z,x.r.write=z:=⟨_,rfl⟩
     obtain⟨ys,hys⟩:∃ z,y.r.state=z:=⟨_,rfl⟩
     obtain⟨ya,hya⟩:∃ z,y.r.inAir=z:=⟨_,rfl⟩
     have hst:stands y.r x.r=((yp == xp) && ((yw || xw) && ((ys == 0) || ya))):=by unfold stands;rw[hyp,hxp,hyw,hxw,hys,hya]
     rw[hst]at hsucc
     rw[hyw]at r1
     rw[hyp]at r2
     rw[hys]at r4
     rw[hya]at r8
     rw[hxw]at s1
     rw[hxp]at s2
     have HSU:=Lib.hid hsucc
     have hfin:∀ b,stands y.r x.r=b->b=true->((t.rs.take k).any fun o=>stands o x.r)=true:=fun b e1 e2=>by
      rw[List.any_eq_true]
      exact⟨y.r,List.mem_of_getElem? (i:=j) (by rw[List.getElem?_take_of_lt hlt];exact hyr),by rw[e1,e2]⟩
     rw[hst]at hfin
     have HFIN:=Lib.hid hfin
     clear hR hcell2 hy hyr hsucc hst hyp hxp hyw hxw hys hya hno hfin
     have go_on:∀ b,(((yp == xp) && ((yw || xw) && ((ys == 0) || ya)))=b)->b=false->((t.rs.take (j+1)).any fun o=>stands o x.r)=false:=fun b e1 e2=>by rw[HSU.out,e1,e2]
     have HGO:=Lib.hid go_on
     clear go_on
     have hBf:∀ V,Below wr.heap.size wr V->Below W.heap.size W V:=fun V hV=>hB.trans (hV.mono hB.size)
     have HBF:=Lib.hid hBf
     clear hBf
     by_cases hpe:yp=xp
     ·subst hpe
      have hys:ys=0\/ys≠0:=by omega
      cases yw
      all_goals cases xw
      all_goals cases ya
      all_goals rcases hys with rfl | hys
      all_goals
       go_wp2_with fail
       first
       | (go_roundg (k - (j+1))
          case measure=>omega
          case rel=>exact ⟨j+1,rfl,by omega,by go_num,HGO.out _ rfl (by first | rfl | (simp;done) | (simp[hys];done)),HBF.out _ (by go_grown)⟩)
       | (go_ret
          refine⟨?_,HBW.out.trans ((HBF.out _ (by go_grown)).mono HBW.out.size)⟩
          rw[HFIN.out _ rfl (by first | (simp;done) | (simp[hys];done))]
          simp)
     ·go_wp2_with fail
      go_roundg (k - (j+1))
      case measure=>omega
      case rel=>exact ⟨j+1,rfl,by omega,by go_num,HGO.out _ rfl (by simp[hpe]),HBF.out _ (by go_grown)⟩
    ·obtain rfl:j=k:=by omega
     go_wp2_with fail
     go_ret
     exact⟨by simp[hno,hd2],HBW.out.trans (hB.mono HBW.out.size)⟩
 ·have hd:(st == 0)=false:=by simpa using h0
  have hd3:decide (st=0)=false:=decide_eq_false h0
  go_wp2_with fail
  rw[HW.out]
  go_quiet (fail)
  go_wp2_with fail
  go_ret
  exact⟨by simp[h0],below_drewN HBW.out _⟩
end
section
open Go.RowKit Go.Shelf Go.Lib
theorem own_setCell{w:World}{base n size:Nat}{ty:TypeId}{v:Value}{xs:List Value}(h:w.ownsRow base ty size v n xs){g:Nat}(hv:v.ownBlock=some g){i:Nat}(hi:i<n*size)(u:Value):(w.setCell ⟨g,i,none⟩ u).ownsRow base ty size v n (xs.set i u):=by
 refine⟨by rw[List.length_set];exact h.1,?_⟩
 rcases h.2 with ⟨rfl,rfl⟩ |⟨g',cap,cur,rfl,h2,h3,h4,h5,h6,h7⟩
 ·exact .inl ⟨rfl,rfl⟩
 ·simp only[Value.ownBlock,Option.some.injEq]at hv
  subst hv
  refine .inr ⟨g',cap,cur.setIfInBounds i u,rfl,h2,heap_setCell (i:=i) u h3,h4,h5,by simpa using h6,?_⟩
  rw[Array.toList_setIfInBounds,List.take_set,h7]
theorem ownsRow_lowS{w:World}{b b' size n:Nat}{t:TypeId}{v:Value}{xs:List Value}(h:w.ownsRow b t size v n xs)(hb:b'<=b):w.ownsRow b' t size v n xs:=by
 refine⟨h.1,?_⟩
 rcases h.2 with h |⟨g,cap,cur,e,h2,h3⟩
 ·exact .inl h
 ·exact .inr ⟨g,cap,cur,e,Nat.le_trans hb h2,h3⟩
section
variable {w W:World} {q:Nat} {t:St} {l:List RR} {told:List Int} {fs:List (Cmd×Value)} {rv tv fv dv:Value}
theorem RB.ne_rv(h:RB w q t l told fs rv tv fv dv){g:Nat}(hg:rv.ownBlock=some g):g≠q/\tv.ownBlock≠some g/\fv.ownBlock≠some g/\dv.ownBlock≠some g/\∀ c∈fs,c.2.ownBlock≠some g:=by
 obtain⟨cur,hc⟩:=own_heap h.reqs hg
 refine⟨fun e=>?_,fun e=>?_,fun e=>?_,fun e=>?_,fun c hc2 e=>?_⟩
 ·subst e;exact ne_of_heap hc h.que (by simp) rfl
 ·obtain⟨c2,h2⟩:=own_heap h.tol e;exact ne_of_heap hc h2 (by simp) rfl
 ·obtain⟨c2,h2⟩:=own_heap h.fls.row e;exact ne_of_heap hc h2 (by simp) rfl
 ·obtain⟨c2,h2⟩:=own_heap h.dsk e;exact ne_of_heap hc h2 (by simp) rfl
 ·obtain⟨c3,h2⟩:=own_heap (h.fls.rows c hc2) e;exact ne_of_heap hc h2 (by simp) rfl
theorem RB.ne_tv(h:RB w q t l told fs rv tv fv dv){g:Nat}(hg:tv.ownBlock=some g):g≠q/\rv.ownBlock≠some g/\fv.ownBlock≠some g/\dv.ownBlock≠some g/\∀ c∈fs,c.2.ownBlock≠some g:=by
 obtain⟨cur,hc⟩:=own_heap h.tol hg
 refine⟨fun e=>?_,fun e=>?_,fun e=>?_,fun e=>?_,fun c hc2 e=>h.tf c hc2 g hg e⟩
 ·subst e;exact ne_of_heap hc h.que (by simp) rfl
 ·obtain⟨c2,h2⟩:=own_heap h.reqs e;exact ne_of_heap hc h2 (by simp) rfl
 ·obtain⟨c2,h2⟩:=own_heap h.fls.row e;exact ne_of_heap hc h2 (by simp) rfl
 ·obtain⟨c2,h2⟩:=own_heap h.dsk e;exact ne_of_heap hc h2 (by simp) rfl
theorem RB.ne_fv(h:RB w q t l told fs rv tv fv dv){g:Nat}(hg:fv.ownBlock=some g):g≠q/\rv.ownBlock≠some g/\tv.ownBlock≠some g/\dv.ownBlock≠some g/\∀ c∈fs,c.2.ownBlock≠some g:=by
 obtain⟨cur,hc⟩:=own_heap h.fls.row hg
 refine⟨fun e=>?_,fun e=>?_,fun e=>?_,fun e=>?_,fun c hc2 e=>?_⟩
 ·subst e;exact ne_of_heap hc h.que (by simp) rfl
 ·obtain⟨c2,h2⟩:=own_heap h.reqs e;exact ne_of_heap hc h2 (by simp) rfl
 ·obtain⟨c2,h2⟩:=own_heap h.tol e;exact ne_of_heap hc h2 (by simp) rfl
 ·obtain⟨c2,h2⟩:=own_heap h.dsk e;exact ne_of_heap hc h2 (by simp) rfl
 ·obtain⟨c3,h2⟩:=own_heap (h.fls.rows c hc2) e;exact ne_of_heap hc h2 (by simp) rfl
theorem RB.ne_dv(h:RB w q t l told fs rv tv fv dv){g:Nat}(hg:dv.ownBlock=some g):g≠q/\rv.ownBlock≠some g/\tv.ownBlock≠some g/\fv.ownBlock≠some g/\∀ c∈fs,c.2.ownBlock≠some g:=by
 obtain⟨cur,hc⟩:=own_heap h.dsk hg
 refine⟨fun e=>?_,fun e=>?_,fun e=>?_,fun e=>?_,fun c hc2 e=>?_⟩
 ·subst e;exact ne_of_heap hc h.que (by simp) rfl
 ·obtain⟨c2,h2⟩:=own_heap h.reqs e;exact ne_of_heap hc h2 (by simp) rfl
 ·obtain⟨c2,h2⟩:=own_heap h.tol e;exact ne_of_heap hc h2 (by simp) rfl
 ·obtain⟨c2,h2⟩:=own_heap h.fls.row e;exact ne_of_heap hc h2 (by simp) rfl
 ·obtain⟨c3,h2⟩:=own_heap (h.fls.rows c hc2) e;exact ne_of_heap hc h2 (by simp) rfl
theorem RB.ne_cv(h:RB w q t l told fs rv tv fv dv){c:Cmd×Value}(hcm:c∈fs){g:Nat}(hg:c.2.ownBlock=some g):g≠q/\rv.ownBlock≠some g/\tv.ownBlock≠some g/\fv.ownBlock≠some g/\dv.ownBlock≠some g:=by
 obtain⟨cur,hc⟩:=own_heap (h.fls.rows c hcm) hg
 refine⟨fun e=>?_,fun e=>?_,fun e=>h.tf c hcm g e hg,fun e=>?_,fun e=>?_⟩
 ·subst e;exact ne_of_heap hc h.que (by simp) rfl
 ·obtain⟨c2,h2⟩:=own_heap h.reqs e;exact ne_of_heap hc h2 (by simp) rfl
 ·obtain⟨c2,h2⟩:=own_heap h.fls.row e;exact ne_of_heap hc h2 (by simp) rfl
 ·obtain⟨c2,h2⟩:=own_heap h.dsk e;exact ne_of_heap hc h2 (by simp) rfl
theorem CmdsAt.keptC{v:Value}(h:CmdsAt w 0 v fs){S:Nat->Prop}(hc:Chg S w W)(hv:∀ k,v.ownBlock=some k->¬S k)(hr:∀ c∈fs,∀ k,c.2.ownBlock=some k->¬S k):CmdsAt W 0 v fs:=
 ⟨ownsRow_chg h.row hc hv,fun c hc'=>ownsRow_chg (h.rows c hc') hc (hr c hc'),h.apart⟩
theorem RB.reqs'(h:RB w q t l told fs rv tv fv dv){g:Nat}(hg:rv.ownBlock=some g)(hc:Chg (fun k=>k=g) w W){l':List RR}(hr:W.ownsRow 0 191 10 rv l'.length (l'.flatMap rrCells)):RB W q t l' told fs rv tv fv dv:=by
 obtain⟨n1,n2,n3,n4,n5⟩:=h.ne_rv hg
 exact⟨(hc.block _ (lt_of_heap h.que) (fun e=>n1 e.symm)).trans h.que,hr,ownsRow_chg h.tol hc fun k hk e=>n2 (e ▸ hk),h.fls.keptC hc (fun k hk e=>n3 (e ▸ hk)) fun c hcm k hk e=>n5 c hcm (e ▸ hk),h.fcs,ownsRow_chg h.dsk hc fun k hk e=>n4 (e ▸ hk),h.tf⟩
theorem RB.set1(h:RB w q t l told fs rv tv fv dv){g:Nat}(hg:rv.ownBlock=some g){k:Nat}{x y:RR}(hk:l[k]?=some x)(i:Nat)(hi:i<10)(v:Value)(e:rrCells y=(rrCells x).set i v):
  RB (w.setCell ⟨g,k*10+i,none⟩ v) q t (l.set k y) told fs rv tv fv dv/\Chg (fun k=>k=g) w (w.setCell ⟨g,k*10+i,none⟩ v):=by
 have hkl:=(List.getElem?_eq_some_iff.1 hk).1
 have hc:Chg (fun k=>k=g) w (w.setCell ⟨g,k*10+i,none⟩ v):=Chg.setCell (S:=fun k=>k=g) (p:=⟨g,k*10+i,none⟩) (Chg.refl _ w) (.inl rfl) v
 refine⟨h.reqs' hg hc ?_,hc⟩
 rw[List.length_set,rr_set1 i v hi l k hk e]
 exact own_setCell h.reqs hg (by omega) v
theorem RB.que'(h:RB w q t l told fs rv tv fv dv)(hc:Chg (fun k=>k=q) w W){t':St}(e:W.heap[q]?=some (.cells #[.int .i64 t'.depth,rv,tv,fv,.int .i64 t'.now,.int .i64 t'.head,.int .i64 t'.last,dv] 119 (0,0)))(hcs:t'.cs=t.cs)(hd:t'.disk=t.disk):RB W q t' l told fs rv tv fv dv:=
 ⟨e,ownsRow_chg h.reqs hc fun k hk e=>(h.ne_rv hk).1 e,ownsRow_chg h.tol hc fun k hk e=>(h.ne_tv hk).1 e,h.fls.keptC hc (fun k hk e=>(h.ne_fv hk).1 e) fun c hcm k hk e=>(h.ne_cv hcm hk).1 e,h.fcs.trans hcs.symm,by rw[hd];exact ownsRow_chg h.dsk hc fun k hk e=>(h.ne_dv hk).1 e,h.tf⟩
theorem RB.st(h:RB w q t l told fs rv tv fv dv){t':St}(e1:t'.depth=t.depth)(e2:t'.now=t.now)(e3:t'.head=t.head)(e4:t'.last=t.last)(e5:t'.cs=t.cs)(e6:t'.disk=t.disk):RB w q t' l told fs rv tv fv dv:=
 ⟨by rw[e1,e2,e3,e4];exact h.que,h.reqs,h.tol,h.fls,h.fcs.trans e5.symm,by rw[e6];exact h.dsk,h.tf⟩
end
section
variable {w W:World} {q:Nat} {t:St} {l:List RR} {told:List Int} {fs:List (Cmd×Value)} {rv tv fv dv:Value}
theorem cell_q(e:W.heap[q]?=w.heap[q]?)(h:RB w q t l told fs rv tv fv dv):W.heap[q]?=some (.cells #[.int .i64 t.depth,rv,tv,fv,.int .i64 t.now,.int .i64 t.head,.int .i64 t.last,dv] 119 (0,0)):=e.trans h.que
theorem RB.setR(h:RB w q t l told fs rv tv fv dv)(hc:Chg (fun k=>rv.ownBlock=some k) w W){v':Value}{l':List RR}(hrow:W.ownsRow 0 191 10 v' l'.length (l'.flatMap rrCells))(hat:∀ k,v'.ownBlock=some k->rv.ownBlock=some k\/w.heap.size<=k):
  RB (W.setCell ⟨q,1,none⟩ v') q t l' told fs v' tv fv dv/\Chg (fun k=>k=q\/rv.ownBlock=some k) w (W.setCell ⟨q,1,none⟩ v')/\∀ k,RFoot q v' tv fv dv fs k->RFoot q rv tv fv dv fs k\/w.heap.size<=k:=by
 have hql:=lt_of_heap h.que
 have hq:=hc.block q hql fun e=>(h.ne_rv e).1 rfl
 have hc2:Chg (fun k=>k=q\/rv.ownBlock=some k) w (W.setCell ⟨q,1,none⟩ v'):=Chg.setCell (p:=⟨q,1,none⟩) (hc.mono fun _ _ e=>.inr e) (.inl (.inl rfl)) _
 have hs:Chg (fun k=>k=q) W (W.setCell ⟨q,1,none⟩ v'):=Chg.setCell (S:=fun k=>k=q) (p:=⟨q,1,none⟩) (Chg.refl _ W) (.inl rfl) _
 refine⟨⟨heap_setCell (i:=1) _ (cell_q hq h),ownsRow_chg hrow hs fun k hk e=>?_,ownsRow_chg h.tol hc2 fun k hk e=>e.elim (fun e=>(h.ne_tv hk).1 e) fun e=>(h.ne_tv hk).2.1 e,h.fls.keptC hc2 (fun k hk e=>e.elim (fun e=>(h.ne_fv hk).1 e) fun e=>(h.ne_fv hk).2.1 e) fun c hcm k hk e=>e.elim (fun e=>(h.ne_cv hcm hk).1 e) fun e=>(h.ne_cv hcm hk).2.1 e,h.fcs,
  ownsRow_chg h.dsk hc2 fun k hk e=>e.elim (fun e=>(h.ne_dv hk).1 e) fun e=>(h.ne_dv hk).2.1 e,h.tf⟩,hc2,fun k hk=>?_⟩
 ·rcases hat k hk with e2 | e2
  ·exact (h.ne_rv e2).1 e
  ·omega
 ·rcases hk with e | e | e
  ·exact .inl (.inl e)
  ·exact (hat k e).imp (fun e=>.inr (.inl e)) id
  ·exact .inl (.inr (.inr e))
theorem RB.setT(h:RB w q t l told fs rv tv fv dv)(hc:Chg (fun k=>tv.ownBlock=some k) w W){v':Value}{told':List Int}(hrow:W.ownsRow 0 3 1 v' told'.length (told'.map fun n=>Value.int .i64 n))(hat:∀ k,v'.ownBlock=some k->tv.ownBlock=some k\/w.heap.size<=k):
  RB (W.setCell ⟨q,2,none⟩ v') q t l told' fs rv v' fv dv/\Chg (fun k=>k=q\/tv.ownBlock=some k) w (W.setCell ⟨q,2,none⟩ v')/\∀ k,RFoot q rv v' fv dv fs k->RFoot q rv tv fv dv fs k\/w.heap.size<=k:=by
 have hql:=lt_of_heap h.que
 have hq:=hc.block q hql fun e=>(h.ne_tv e).1 rfl
 have hc2:Chg (fun k=>k=q\/tv.ownBlock=some k) w (W.setCell ⟨q,2,none⟩ v'):=Chg.setCell (p:=⟨q,2,none⟩) (hc.mono fun _ _ e=>.inr e) (.inl (.inl rfl)) _
 have hs:Chg (fun k=>k=q) W (W.setCell ⟨q,2,none⟩ v'):=Chg.setCell (S:=fun k=>k=q) (p:=⟨q,2,none⟩) (Chg.refl _ W) (.inl rfl) _
 refine⟨⟨heap_setCell (i:=2) _ (cell_q hq h),ownsRow_chg h.reqs hc2 fun k hk e=>e.elim (fun e=>(h.ne_rv hk).1 e) fun e=>(h.ne_rv hk).2.1 e,ownsRow_chg hrow hs fun k hk e=>?_,h.fls.keptC hc2 (fun k hk e=>e.elim (fun e=>(h.ne_fv hk).1 e) fun e=>(h.ne_fv hk).2.2.1 e) fun c hcm k hk e=>e.elim (fun e=>(h.ne_cv hcm hk).1 e) fun e=>(h.ne_cv hcm hk).2.2.1 e,h.fcs,
  ownsRow_chg h.dsk hc2 fun k hk e=>e.elim (fun e=>(h.ne_dv hk).1 e) fun e=>(h.ne_dv hk).2.2.1 e,fun c hcm k hk e=>?_⟩,hc2,fun k hk=>?_⟩
 ·rcases hat k hk with e2 | e2
  ·exact (h.ne_tv e2).1 e
  ·omega
 ·rcases hat k hk with e2 | e2
  ·exact h.tf c hcm k e2 e
  ·obtain⟨cur,hcur⟩:=own_heap (h.fls.rows c hcm) e
   have:=lt_of_heap hcur;omega
 ·rcases hk with e | e | e | e
  ·exact .inl (.inl e)
  ·exact .inl (.inr (.inl e))
  ·exact (hat k e).imp (fun e=>.inr (.inr (.inl e))) id
  ·exact .inl (.inr (.inr (.inr e)))
theorem RB.setF(h:RB w q t l told fs rv tv fv dv)(hc:Chg (fun k=>fv.ownBlock=some k) w W){v':Value}{fs':List (Cmd×Value)}(hcm:CmdsAt W 0 v' fs')(hat:∀ k,v'.ownBlock=some k->fv.ownBlock=some k\/w.heap.size<=k)(hnew:∀ c∈fs',c∈fs\/∀ k,c.2.ownBlock=some k->w.heap.size<=k\/¬RFoot q rv tv fv dv fs k){t':St}(hcs:fs'.map (·.1)=t'.cs)(e1:t'.depth=t.depth)(e2:t'.now=t.now)(e3:t'.head=t.head)(e4:t'.last=t.last)(e5:t'.disk=t.disk):
  RB (W.setCell ⟨q,3,none⟩ v') q t' l told fs' rv tv v' dv/\Chg (fun k=>k=q\/fv.ownBlock=some k) w (W.setCell ⟨q,3,none⟩ v'):=by
 have hql:=lt_of_heap h.que
 have hq:=hc.block q hql fun e=>(h.ne_fv e).1 rfl
 have hc2:Chg (fun k=>k=q\/fv.ownBlock=some k) w (W.setCell ⟨q,3,none⟩ v'):=Chg.setCell (p:=⟨q,3,none⟩) (hc.mono fun _ _ e=>.inr e) (.inl (.inl rfl)) _
 have hs:Chg (fun k=>k=q) W (W.setCell ⟨q,3,none⟩ v'):=Chg.setCell (S:=fun k=>k=q) (p:=⟨q,3,none⟩) (Chg.refl _ W) (.inl rfl) _
 refine⟨⟨by rw[e1,e2,e3,e4];exact heap_setCell (i:=3) _ (cell_q hq h),ownsRow_chg h.reqs hc2 fun k hk e=>e.elim (fun e=>(h.ne_rv hk).1 e) fun e=>(h.ne_rv hk).2.2.1 e,ownsRow_chg h.tol hc2 fun k hk e=>e.elim (fun e=>(h.ne_tv hk).1 e) fun e=>(h.ne_tv hk).2.2.1 e,hcm.keptC hs (fun k hk e=>?_) (fun c hc' k hk e=>?_),hcs,
  by rw[e5];exact ownsRow_chg h.dsk hc2 fun k hk e=>e.elim (fun e=>(h.ne_dv hk).1 e) fun e=>(h.ne_dv hk).2.2.2.1 e,fun c hc' k hk e=>?_⟩,hc2⟩
 ·rcases hat k hk with e2 | e2
  ·exact (h.ne_fv e2).1 e
  ·omega
 ·rcases hnew c hc' with e2 | e2
  ·exact (h.ne_cv e2 hk).1 e
  ·rcases e2 k hk with e2 | e2
   ·omega
   ·exact e2 (.inl e)
 ·rcases hnew c hc' with e2 | e2
  ·exact h.tf c e2 k hk e
  ·rcases e2 k e with e2 | e2
   ·have:=h.lt (k:=k) (.inr (.inr (.inl hk)));omega
   ·exact e2 (.inr (.inr (.inl hk)))
end
def RT(w:World)(q:Nat)(t:St)(G:Nat->Prop):Prop:=∃ l told fs rv tv fv dv,RB w q t l told fs rv tv fv dv/\RRel l told t/\∀ k,RFoot q rv tv fv dv fs k->G k
section
variable {w W:World} {q:Nat} {t:St} {G:Nat->Prop}
theorem RT.kept(h:RT w q t G){S:Nat->Prop}(hc:Chg S w W)(hn:∀ k,G k->¬S k):RT W q t G:=by
 obtain⟨l,told,fs,rv,tv,fv,dv,h1,h2,h3⟩:=h
 exact⟨l,told,fs,rv,tv,fv,dv,h1.kept hc fun k hk=>hn k (h3 k hk),h2,h3⟩
theorem RT.below(h:RT w q t G)(hb:Below w.heap.size w W):RT W q t G:=h.kept (chgB hb fun _=>False) fun _ _ x=>x
theorem RT.mono(h:RT w q t G){G':Nat->Prop}(hg:∀ k,G k->G' k):RT w q t G':=by
 obtain⟨l,told,fs,rv,tv,fv,dv,h1,h2,h3⟩:=h
 exact⟨l,told,fs,rv,tv,fv,dv,h1,h2,fun k hk=>hg k (h3 k hk)⟩
theorem RT.lt(h:RT w q t G):RT w q t fun k=>G k/\k<w.heap.size:=by
 obtain⟨l,told,fs,rv,tv,fv,dv,h1,h2,h3⟩:=h
 exact⟨l,told,fs,rv,tv,fv,dv,h1,h2,fun k hk=>⟨h3 k hk,h1.lt hk⟩⟩
end
end
section
open Go.RowKit Go.Shelf Go.Lib
set_option maxRecDepth 100000
abbrev noAns:Value:=.agg #[.slice none 0 0,.int .i64 0]
theorem findE_some{es:List Ent}{n:Int}{e:Ent}(h:findE es n=some e):e∈es/\e.r.num=n/\e.r.told=false:=by
 have h1:=List.find?_some h
 have h2:=List.mem_of_find?_eq_some h
 simp at h1
 exact⟨h2,h1.1,h1.2⟩
theorem ans_set{W:World}{b:Nat}{x0 x1:Value}{t:TypeId}(y0 y1:Value)(h:W.heap[b]?=some (.cells #[x0,x1] t (0,0))):
  ((W.setCell ⟨b,0,none⟩ y0).setCell ⟨b,1,none⟩ y1).heap[b]?=some (.cells #[y0,y1] t (0,0))/\Chg (fun k=>k=b) W ((W.setCell ⟨b,0,none⟩ y0).setCell ⟨b,1,none⟩ y1):=
 ⟨heap_setCell (i:=1) _ (heap_setCell (i:=0) _ h),(chg_set _).then (chg_set _)⟩
theorem Chg.to_below{S:Nat->Prop}{w W:World}{n:Nat}(h:Chg S w W)(hS:∀ k,S k->n<=k)(hn:n<=w.heap.size):Below n w W:=
 ⟨h.os,h.tape,h.output,h.size,fun k hk=>h.block k (Nat.lt_of_lt_of_le hk hn) fun hs=>by have:=hS k hs;omega⟩
theorem poll_none(q:Nat)(s:Sta)(F:Nat->Prop)(w:World)(n:Int)(h:QAt w q s F)(hf:findE s.es n=none):
  Calls Tryx.prog 36 #[ptr q,.int .i64 n] w fun x w'=>x=.returned (.tuple #[noAns,errK 5])/\Below w.heap.size w w':=by
 obtain⟨tb,mb,clock,fv,hq,hF⟩:=h
 obtain⟨W0,hW0⟩:∃ W0,w.alloc (.cells #[.slice none 0 0,.int .i64 0] 43)=W0:=⟨_,rfl⟩
 have hB0:Below w.heap.size w W0:=by rw[<-hW0];exact (Below.refl _ _).alloc (Nat.le_refl _) _
 have hr0:W0.heap[w.heap.size]?=some (.cells #[.slice none 0 0,.int .i64 0] 43 (0,0)):=by rw[<-hW0];exact World.alloc_heap_new w _
 have hq:=hq.kept (chgB hB0 fun _=>False) fun _ _ x=>x
 have c1:=hq.c1
 have HQ:=Lib.hid hq
 have hfc:=find_any tb mb clock s.last s.held n s.es
 rw[hf]at hfc
 have HC:=Lib.hid hfc
 have r0:W0.cell? ⟨w.heap.size,0,none⟩=some (.slice none 0 0):=cell_of hr0 rfl
 have r1:W0.cell? ⟨w.heap.size,1,none⟩=some (.int .i64 0):=cell_of hr0 rfl
 have rf:∀ i,W0.frozen? ⟨w.heap.size,i,none⟩=false:=fun i=>free_of hr0
 have HB:=Lib.hid hB0
 have HR:=Lib.hid hr0
 clear hq hF hfc hf hB0 hr0
 go_enter Tryx.func36,Tryz.ntmps36
 go_wp2_with fail
 refine (HC.out W0 HQ.out.tab).mono ?_
 rintro x w1 ⟨rfl,rfl⟩
 go_wp2_with fail
 obtain⟨e5,hc5⟩:=ans_set (W:=w1) (.slice none 0 0) (.int .i64 0) HR.out
 obtain⟨W5,hW5⟩:∃ W5,((w1.setCell ⟨w.heap.size,0,none⟩ (.slice none 0 0)).setCell ⟨w.heap.size,1,none⟩ (.int .i64 0))=W5:=⟨_,rfl⟩
 rw[hW5]at e5 hc5 ⊢
 have z0:W5.cell? ⟨w.heap.size,0,none⟩=some (.slice none 0 0):=cell_of e5 rfl
 have z1:W5.cell? ⟨w.heap.size,1,none⟩=some (.int .i64 0):=cell_of e5 rfl
 refine bodyPost_ret (v:=.tuple #[noAns,errK 5]) (by simp[results,Tryz.results36,go_sem,z0,z1]) rfl ⟨rfl,?_⟩
 exact HB.out.trans (hc5.to_below (fun k hk=>by omega) HB.out.size)
theorem poll_pend(q:Nat)(s:Sta)(F:Nat->Prop)(w:World)(n:Int)(e:Ent)(h:QAt w q s F)(hf:findE s.es n=some e)(hs:e.r.state=0\/e.r.state=1):
  Calls Tryx.prog 36 #[ptr q,.int .i64 n] w fun x w'=>∃ b,x=.returned (.tuple #[noAns,errR b])/\ReqErr w' b n e.r.tries 6/\w.heap.size<=b/\Below w.heap.size w w':=by
 obtain⟨tb,mb,clock,fv,hq,hF⟩:=h
 obtain⟨hem,hen,het⟩:=findE_some hf
 obtain⟨W0,hW0⟩:∃ W0,w.alloc (.cells #[.slice none 0 0,.int .i64 0] 43)=W0:=⟨_,rfl⟩
 have hB0:Below w.heap.size w W0:=by rw[<-hW0];exact (Below.refl _ _).alloc (Nat.le_refl _) _
 have hr0:W0.heap[w.heap.size]?=some (.cells #[.slice none 0 0,.int .i64 0] 43 (0,0)):=by rw[<-hW0];exact World.alloc_heap_new w _
 have hq:=hq.kept (chgB hB0 fun _=>False) fun _ _ x=>x
 have c1:=hq.c1
 have hreq:=hq.tab.reqs e hem
 have c7:=hreq.at.c7
 have HQ:=Lib.hid hq
 have hfc:=find_any tb mb clock s.last s.held n s.es
 rw[hf]at hfc
 have HC:=Lib.hid hfc
 have HFL:=Lib.hid (fail_any e.p e.r 6 W0 hreq)
 have HB:=Lib.hid hB0
 have HR:=Lib.hid hr0
 have HN:=Lib.hid hen
 have hbs:W0.heap.size=w.heap.size+1:=by rw[<-hW0];simp
 clear hq hF hfc hf hB0 hr0 hreq hem hen het
 rcases hs with hs | hs <;> rw[hs]at c7
 all_goals
  go_enter Tryx.func36,Tryz.ntmps36
  go_wp2_with fail
  refine (HC.out W0 HQ.out.tab).mono ?_
  rintro x w1 ⟨rfl,rfl⟩
  dsimp only
  go_wp2_with fail
  refine HFL.out.mono ?_
  rintro x w2 ⟨b,rfl,hE,hb,hB2⟩
  have hr2:=(hB2.block w.heap.size (lt_of_heap HR.out)).trans HR.out
  have r0:w2.cell? ⟨w.heap.size,0,none⟩=some (.slice none 0 0):=cell_of hr2 rfl
  have r1:w2.cell? ⟨w.heap.size,1,none⟩=some (.int .i64 0):=cell_of hr2 rfl
  have rf:∀ i,w2.frozen? ⟨w.heap.size,i,none⟩=false:=fun i=>free_of hr2
  have HE:=Lib.hid hE
  have HB2:=Lib.hid hB2
  have HR2:=Lib.hid hr2
  have hbl:=hE.lt
  clear hE hB2 hr2
  go_wp2_with fail
  obtain⟨e5,hc5⟩:=ans_set (W:=w2) (.slice none 0 0) (.int .i64 0) HR2.out
  obtain⟨W5,hW5⟩:∃ W5,((w2.setCell ⟨w.heap.size,0,none⟩ (.slice none 0 0)).setCell ⟨w.heap.size,1,none⟩ (.int .i64 0))=W5:=⟨_,rfl⟩
  rw[hW5]at e5 hc5 ⊢
  have z0:W5.cell? ⟨w.heap.size,0,none⟩=some (.slice none 0 0):=cell_of e5 rfl
  have z1:W5.cell? ⟨w.heap.size,1,none⟩=some (.int .i64 0):=cell_of e5 rfl
  (try simp only[Exit.inBlock,Exit.then])
  refine bodyPost_ret (v:=.tuple #[noAns,errR b]) (by simp[results,Tryz.results36,go_sem,z0,z1]) rfl ⟨b,rfl,?_,by omega,?_⟩
  ·have:=HE.out.chg hc5 (by omega)
   rw[HN.out]at this;exact this
  ·exact (HB.out.trans (HB2.out.mono HB.out.size)).trans (hc5.to_below (fun k hk=>by omega) (Nat.le_trans HB.out.size HB2.out.size))
theorem tab_tells{w W:World}{q tb mb clock:Nat}{fv:Value}{s:Sta}(h:QB w q tb mb clock fv s){e:Ent}(he:e∈s.es)(hT:TabB W tb mb clock s.last (s.held - 1) (tellE s.es e))(hc:Chg (fun k=>k=tb\/k=mb\/k=e.p) w W):
  QB W q tb mb clock fv {s with es:=tellE s.es e,held:=s.held - 1}:=
 h.tabs clock {s with es:=tellE s.es e,held:=s.held - 1} ⟨rfl,rfl,rfl,rfl⟩ rfl hT hc fun _k hk=>hk.imp id fun h=>h.imp id fun h=>⟨e,he,h⟩
theorem mem_tellE{es:List Ent}{e x:Ent}(h:x∈tellE es e):∃ y∈es,y.p=x.p:=by
 have h1:x∈updE es e.r.num tellR:=by
  unfold tellE landE at h
  split at h
  ·exact (List.mem_filter.1 h).1
  ·exact h
 obtain⟨y,hy,rfl⟩:=List.mem_map.1 h1
 exact⟨y,hy,by split <;> rfl⟩
theorem foot_tell{q tb mb:Nat}{fv:Value}{s:Sta}{e:Ent}{k:Nat}{x:Int}(hk:QFoot q tb mb fv {s with es:=tellE s.es e,held:=x} k):QFoot q tb mb fv s k:=by
 rcases hk with h | h | h | h |⟨x,hx,h⟩ | h
 ·exact .inl h
 ·exact .inr (.inl h)
 ·exact .inr (.inr (.inl h))
 ·exact .inr (.inr (.inr (.inl h)))
 ·obtain⟨y,hy,hyx⟩:=mem_tellE hx
  exact .inr (.inr (.inr (.inr (.inl ⟨y,hy,h.trans hyx.symm⟩))))
 ·exact .inr (.inr (.inr (.inr (.inr h))))
theorem foot_tabs3{q tb mb:Nat}{fv:Value}{s:Sta}{e:Ent}(he:e∈s.es){k:Nat}(hk:k=tb\/k=mb\/k=e.p):QFoot q tb mb fv s k:=by
 rcases hk with h | h | h
 ·exact .inr (.inl h)
 ·exact .inr (.inr (.inl h))
 ·exact .inr (.inr (.inr (.inr (.inl ⟨e,he,h⟩))))
theorem poll_bad(q:Nat)(s:Sta)(F:Nat->Prop)(w:World)(n:Int)(e:Ent)(k:Int)(h:QAt w q s F)(hf:findE s.es n=some e)(hs:(e.r.state=3/\k=7)\/(e.r.state=4/\k=8))(hh:0<=s.held/\s.held<=2 ^ 60):
  Calls Tryx.prog 36 #[ptr q,.int .i64 n] w fun x w'=>∃ b,x=.returned (.tuple #[noAns,errR b])/\ReqErr w' b n e.r.tries k/\w.heap.size<=b/\
   QAt w' q {s with es:=tellE s.es e,held:=s.held - 1} F/\Chg F w w':=by
 obtain⟨tb,mb,clock,fv,hq,hF⟩:=h
 obtain⟨hem,hen,het⟩:=findE_some hf
 obtain⟨W0,hW0⟩:∃ W0,w.alloc (.cells #[.slice none 0 0,.int .i64 0] 43)=W0:=⟨_,rfl⟩
 have hB0:Below w.heap.size w W0:=by rw[<-hW0];exact (Below.refl _ _).alloc (Nat.le_refl _) _
 have hr0:W0.heap[w.heap.size]?=some (.cells #[.slice none 0 0,.int .i64 0] 43 (0,0)):=by rw[<-hW0];exact World.alloc_heap_new w _
 have hq0:=hq
 have hq:=hq.kept (chgB hB0 fun _=>False) fun _ _ x=>x
 have c1:=hq.c1
 have hreq:=hq.tab.reqs e hem
 have c7:=hreq.at.c7
 have HQ:=Lib.hid hq
 have HQ0:=Lib.hid hq0
 have hfc:=find_any tb mb clock s.last s.held n s.es
 rw[hf]at hfc
 have HC:=Lib.hid hfc
 have HFL:=Lib.hid (fail_any e.p e.r k W0 hreq)
 have HB:=Lib.hid hB0
 have HR:=Lib.hid hr0
 have HN:=Lib.hid hen
 have HM:=Lib.hid hem
 have HF:=Lib.hid hF
 have hbs:W0.heap.size=w.heap.size+1:=by rw[<-hW0];simp
 have hqlt:=lt_of_heap hq.que
 clear hq hq0 hF hfc hf hB0 hr0 hreq hem hen het
 rcases hs with ⟨hs,rfl⟩ |⟨hs,rfl⟩ <;> rw[hs]at c7
 all_goals
  go_enter Tryx.func36,Tryz.ntmps36
  go_wp2_with fail
  refine (HC.out W0 HQ.out.tab).mono ?_
  rintro x w1 ⟨rfl,rfl⟩
  dsimp only
  go_wp2_with fail
  refine HFL.out.mono ?_
  rintro x w2 ⟨b,rfl,hE,hb,hB2⟩
  have d1:w2.cell? ⟨q,1,none⟩=some (ptr tb):=(hB2.cell (p:=⟨q,1,none⟩) hqlt).trans c1
  have HQ2:=Lib.hid (HQ.out.kept (chgB hB2 fun _=>False) fun _ _ x=>x)
  have HE:=Lib.hid hE
  have HB2:=Lib.hid hB2
  have hbl:=hE.lt
  clear hE hB2 c1
  go_wp2_with fail
  refine (tell_any tb mb clock s.last s.held s.es w2 HQ2.out.tab e HM.out hh).mono ?_
  rintro x w3 ⟨rfl,hT,hc3,_⟩
  have hnn:∀ k,w.heap.size<=k->¬(k=tb\/k=mb\/k=e.p):=fun k hk h=>by
   have h1:=lt_of_heap HQ0.out.tab.tab
   have h2:=lt_of_heap HQ0.out.tab.map
   have h3:=lt_of_heap (HQ0.out.tab.reqs e HM.out)
   rcases h with h | h | h <;> omega
  have hr3:=(hc3.block w.heap.size (Nat.lt_of_lt_of_le (lt_of_heap HR.out) HB2.out.size) (hnn _ (Nat.le_refl _))).trans ((HB2.out.block w.heap.size (lt_of_heap HR.out)).trans HR.out)
  have r0:w3.cell? ⟨w.heap.size,0,none⟩=some (.slice none 0 0):=cell_of hr3 rfl
  have r1:w3.cell? ⟨w.heap.size,1,none⟩=some (.int .i64 0):=cell_of hr3 rfl
  have rf:∀ i,w3.frozen? ⟨w.heap.size,i,none⟩=false:=fun i=>free_of hr3
  have HE3:=Lib.hid (HE.out.chg hc3 (hnn _ (by omega)))
  have HC3:=Lib.hid hc3
  have HQ3:=Lib.hid (tab_tells HQ2.out HM.out hT hc3)
  have HR3:=Lib.hid hr3
  clear hT hc3 hr3 hnn
  go_wp2_with fail
  obtain⟨e5,hc5⟩:=ans_set (W:=w3) (.slice none 0 0) (.int .i64 0) HR3.out
  obtain⟨W5,hW5⟩:∃ W5,((w3.setCell ⟨w.heap.size,0,none⟩ (.slice none 0 0)).setCell ⟨w.heap.size,1,none⟩ (.int .i64 0))=W5:=⟨_,rfl⟩
  rw[hW5]at e5 hc5 ⊢
  have z0:W5.cell? ⟨w.heap.size,0,none⟩=some (.slice none 0 0):=cell_of e5 rfl
  have z1:W5.cell? ⟨w.heap.size,1,none⟩=some (.int .i64 0):=cell_of e5 rfl
  (try simp only[Exit.inBlock,Exit.then])
  refine bodyPost_ret (v:=.tuple #[noAns,errR b]) (by simp[results,Tryz.results36,go_sem,z0,z1]) rfl ⟨b,rfl,?_,by omega,⟨tb,mb,clock,fv,HQ3.out.kept hc5 ?_,?_⟩,?_⟩
  ·have:=HE3.out.chg hc5 (by omega)
   rw[HN.out]at this;exact this
  ·intro k hk hk2
   have:=HQ0.out.foot_lt (foot_tell hk)
   omega
  ·exact fun k hk=>HF.out k (foot_tell hk)
  ·exact (((chgB HB.out F).of_below HB2.out).then (HC3.out.mono fun k _ hk=>HF.out k (foot_tabs3 HM.out hk))).trans (hc5.mono fun k _ hk=>.inr (by omega))
theorem Tryz.infoB:(Tryx.prog.info? 5).map (fun i=>(i.zero,i.size,i.bytes))=some (some (.int .u8 0),1,1):=by kernel_rfl
def b4Cells(d:B4):List Value:=[.int .u8 d.a,.int .u8 d.b,.int .u8 d.c,.int .u8 d.d]
theorem poll_write(q:Nat)(s:Sta)(F:Nat->Prop)(w:World)(n:Int)(e:Ent)(h:QAt w q s F)(hf:findE s.es n=some e)(hs:e.r.state=2)(hwt:e.r.write=true)(hh:0<=s.held/\s.held<=2 ^ 60):
  Calls Tryx.prog 36 #[ptr q,.int .i64 n] w fun x w'=>x=.returned (.tuple #[.agg #[.slice none 0 0,.int .i64 e.r.tries],.nilIface])/\
   QAt w' q {s with es:=tellE s.es e,held:=s.held - 1} F/\Chg F w w':=by
 obtain⟨tb,mb,clock,fv,hq,hF⟩:=h
 obtain⟨hem,hen,het⟩:=findE_some hf
 obtain⟨W0,hW0⟩:∃ W0,w.alloc (.cells #[.slice none 0 0,.int .i64 0] 43)=W0:=⟨_,rfl⟩
 have hB0:Below w.heap.size w W0:=by rw[<-hW0];exact (Below.refl _ _).alloc (Nat.le_refl _) _
 have hr0:W0.heap[w.heap.size]?=some (.cells #[.slice none 0 0,.int .i64 0] 43 (0,0)):=by rw[<-hW0];exact World.alloc_heap_new w _
 have hq0:=hq
 have hq:=hq.kept (chgB hB0 fun _=>False) fun _ _ x=>x
 have c1:=hq.c1
 have hreq:=hq.tab.reqs e hem
 have c7:=hreq.at.c7
 have HQ:=Lib.hid hq
 have HQ0:=Lib.hid hq0
 have hfc:=find_any tb mb clock s.last s.held n s.es
 rw[hf]at hfc
 have HC:=Lib.hid hfc
 have HB:=Lib.hid hB0
 have HR:=Lib.hid hr0
 have HM:=Lib.hid hem
 have HF:=Lib.hid hF
 have hqlt:=lt_of_heap hq.que
 have hew:=lt_of_heap hreq
 have hbs:W0.heap.size=w.heap.size+1:=by rw[<-hW0];simp
 rw[hs]at c7
 clear hq hq0 hF hfc hf hB0 hr0 hreq hem hen het hs
 go_enter Tryx.func36,Tryz.ntmps36
 go_wp2_with fail
 refine (HC.out W0 HQ.out.tab).mono ?_
 rintro x w1 ⟨rfl,rfl⟩
 dsimp only
 go_wp2_with fail
 refine (tell_any tb mb clock s.last s.held s.es w1 HQ.out.tab e HM.out hh).mono ?_
 rintro x w3 ⟨rfl,hT,hc3,hRQ⟩
 have hnn:∀ k,w.heap.size<=k->¬(k=tb\/k=mb\/k=e.p):=fun k hk h=>by
  have h1:=lt_of_heap HQ0.out.tab.tab
  have h2:=lt_of_heap HQ0.out.tab.map
  have h3:=lt_of_heap (HQ0.out.tab.reqs e HM.out)
  rcases h with h | h | h <;> omega
 have hr3:=(hc3.block w.heap.size (lt_of_heap HR.out) (hnn _ (Nat.le_refl _))).trans HR.out
 have r0:w3.cell? ⟨w.heap.size,0,none⟩=some (.slice none 0 0):=cell_of hr3 rfl
 have r1:w3.cell? ⟨w.heap.size,1,none⟩=some (.int .i64 0):=cell_of hr3 rfl
 have rf:∀ i,w3.frozen? ⟨w.heap.size,i,none⟩=false:=fun i=>free_of hr3
 have d1:=hRQ.at.c1
 have d8:=hRQ.at.c8
 have e1:(tellR e.r).write=true:=hwt
 have e8:(tellR e.r).tries=e.r.tries:=rfl
 rw[e1]at d1
 rw[e8]at d8
 have HC3:=Lib.hid hc3
 have HRQ3:=Lib.hid hRQ
 have HQ3:=Lib.hid (tab_tells HQ.out HM.out hT hc3)
 have HR3:=Lib.hid hr3
 have hrl:=lt_of_heap hr3
 have hel:=lt_of_heap hRQ
 clear hT hc3 hr3 hnn hRQ e1 e8
 go_wp2_with fail
 obtain⟨e5,hc5⟩:=ans_set (W:=w3) (.slice none 0 0) (.int .i64 e.r.tries) HR3.out
 obtain⟨W5,hW5⟩:∃ W5,(((w3.setCell ⟨w.heap.size,0,none⟩ (.slice none 0 0)).setCell ⟨w.heap.size,1,none⟩ (.int .i64 e.r.tries)).alloc (.cells #[.slice none 0 0,.int .i64 e.r.tries] 43))=W5:=⟨_,rfl⟩
 have hc6:Chg (fun k=>k=w.heap.size) w3 W5:=by rw[<-hW5];exact hc5.alloc _
 have e6:W5.heap[w.heap.size]?=some (.cells #[.slice none 0 0,.int .i64 e.r.tries] 43 (0,0)):=by
  rw[<-hW5];exact (Below.heap_alloc _ _ _ (lt_of_heap e5)).trans e5
 rw[hW5]
 have z0:W5.cell? ⟨w.heap.size,0,none⟩=some (.slice none 0 0):=cell_of e6 rfl
 have z1:W5.cell? ⟨w.heap.size,1,none⟩=some (.int .i64 e.r.tries):=cell_of e6 rfl
 refine bodyPost_ret (v:=.tuple #[.agg #[.slice none 0 0,.int .i64 e.r.tries],.nilIface]) (by simp[results,Tryz.results36,go_sem,z0,z1]) rfl ⟨rfl,⟨tb,mb,clock,fv,HQ3.out.kept hc6 ?_,?_⟩,?_⟩
 ·intro k hk hk2
  have:=HQ0.out.foot_lt (foot_tell hk)
  omega
 ·exact fun k hk=>HF.out k (foot_tell hk)
 ·exact ((chgB HB.out F).then (HC3.out.mono fun k _ hk=>HF.out k (foot_tabs3 HM.out hk))).trans (hc6.mono fun k _ hk=>.inr (by omega))
theorem poll_read(q:Nat)(s:Sta)(F:Nat->Prop)(w:World)(n:Int)(e:Ent)(h:QAt w q s F)(hf:findE s.es n=some e)(hs:e.r.state=2)(hwt:e.r.write=false)(hh:0<=s.held/\s.held<=2 ^ 60):
  Calls Tryx.prog 36 #[ptr q,.int .i64 n] w fun x w'=>∃ v F',x=.returned (.tuple #[.agg #[v,.int .i64 e.r.tries],.nilIface])/\
   QAt w' q {s with es:=tellE s.es e,held:=s.held - 1} F'/\(∀ k,F' k->F k\/w.heap.size<=k)/\(∀ k,v.ownBlock=some k->¬F' k)/\Chg F w w'/\w'.ownsRow w.heap.size 5 1 v 4 (b4Cells e.r.data):=by
 obtain⟨tb,mb,clock,fv,hq,hF⟩:=h
 obtain⟨hem,hen,het⟩:=findE_some hf
 obtain⟨W0,hW0⟩:∃ W0,w.alloc (.cells #[.slice none 0 0,.int .i64 0] 43)=W0:=⟨_,rfl⟩
 have hB0:Below w.heap.size w W0:=by rw[<-hW0];exact (Below.refl _ _).alloc (Nat.le_refl _) _
 have hr0:W0.heap[w.heap.size]?=some (.cells #[.slice none 0 0,.int .i64 0] 43 (0,0)):=by rw[<-hW0];exact World.alloc_heap_new w _
 have hq0:=hq
 have hq:=hq.kept (chgB hB0 fun _=>False) fun _ _ x=>x
 have c1:=hq.c1
 have hreq:=hq.tab.reqs e hem
 have c7:=hreq.at.c7
 have HQ:=Lib.hid hq
 have HQ0:=Lib.hid hq0
 have hfc:=find_any tb mb clock s.last s.held n s.es
 rw[hf]at hfc
 have HC:=Lib.hid hfc
 have HB:=Lib.hid hB0
 have HR:=Lib.hid hr0
 have HM:=Lib.hid hem
 have HF:=Lib.hid hF
 have hqlt:=lt_of_heap hq.que
 have hew:=lt_of_heap hreq
 have hbs:W0.heap.size=w.heap.size+1:=by rw[<-hW0];simp
 rw[hs]at c7
 clear hq hq0 hF hfc hf hB0 hr0 hreq hem hen het hs
 go_enter Tryx.func36,Tryz.ntmps36
 go_wp2_with fail
 refine (HC.out W0 HQ.out.tab).mono ?_
 rintro x w1 ⟨rfl,rfl⟩
 dsimp only
 go_wp2_with fail
 refine (tell_any tb mb clock s.last s.held s.es w1 HQ.out.tab e HM.out hh).mono ?_
 rintro x w3 ⟨rfl,hT,hc3,hRQ⟩
 have hnn:∀ k,w.heap.size<=k->¬(k=tb\/k=mb\/k=e.p):=fun k hk h=>by
  have h1:=lt_of_heap HQ0.out.tab.tab
  have h2:=lt_of_heap HQ0.out.tab.map
  have h3:=lt_of_heap (HQ0.out.tab.reqs e HM.out)
  rcases h with h | h | h <;> omega
 have hr3:=(hc3.block w.heap.size (lt_of_heap HR.out) (hnn _ (Nat.le_refl _))).trans HR.out
 have r0:w3.cell? ⟨w.heap.size,0,none⟩=some (.slice none 0 0):=cell_of hr3 rfl
 have r1:w3.cell? ⟨w.heap.size,1,none⟩=some (.int .i64 0):=cell_of hr3 rfl
 have rf:∀ i,w3.frozen? ⟨w.heap.size,i,none⟩=false:=fun i=>free_of hr3
 have d1:=hRQ.at.c1
 have d8:=hRQ.at.c8
 have e1:(tellR e.r).write=false:=hwt
 have e8:(tellR e.r).tries=e.r.tries:=rfl
 rw[e1]at d1
 rw[e8]at d8
 have HC3:=Lib.hid hc3
 have HRQ3:=Lib.hid hRQ
 have HQ3:=Lib.hid (tab_tells HQ.out HM.out hT hc3)
 have HR3:=Lib.hid hr3
 have hrl:=lt_of_heap hr3
 have hel:=lt_of_heap hRQ
 clear hT hc3 hr3 hnn hRQ e1 e8
 go_wp2_with fail
 obtain⟨i0,hi,hz0,hz1,hz2⟩:=info_parts Tryz.infoB
 obtain⟨W4,hW4⟩:∃ W4,w3.alloc (.cells #[.slice none 0 0,.int .i64 e.r.tries] 43)=W4:=⟨_,rfl⟩
 have hb4:Below w3.heap.size w3 W4:=by rw[<-hW4];exact (Below.refl _ _).alloc (Nat.le_refl _) _
 have hs4:W4.heap.size=w3.heap.size+1:=by rw[<-hW4];simp
 have hr4:W4.heap[w3.heap.size]?=some (.cells #[.slice none 0 0,.int .i64 e.r.tries] 43 (0,0)):=by rw[<-hW4];exact World.alloc_heap_new w3 _
 have hq4:W4.heap[e.p]?=some (.cells (reqCells (tellR e.r)) 96 (0,0)):=(hb4.block _ hel).trans HRQ3.out
 have a0:W4.cell? ⟨w3.heap.size,0,none⟩=some (.slice none 0 0):=cell_of hr4 rfl
 have a1:W4.cell? ⟨w3.heap.size,1,none⟩=some (.int .i64 e.r.tries):=cell_of hr4 rfl
 have af:∀ i,W4.frozen? ⟨w3.heap.size,i,none⟩=false:=fun i=>free_of hr4
 have hrow0:W4.drew.ownsRow (w3.heap.size+1) 5 1 (.slice none 0 0) 0 []:=World.ownsRow_nil _ _ _ _
 have hnews:∀ j u,(b4Cells e.r.data)[j]?=some u->W4.drew.cell? ((⟨e.p,3,none⟩:Addr).add j)=some u:=fun j u hu=>by
  have hA:=ReqB.at (w:=W4) hq4
  match j,hu with
  | 0,hu=>simp [b4Cells]at hu;subst hu;exact hA.c3
  | 1,hu=>simp [b4Cells]at hu;subst hu;exact hA.c4
  | 2,hu=>simp [b4Cells]at hu;subst hu;exact hA.c5
  | 3,hu=>simp [b4Cells]at hu;subst hu;exact hA.c6
  | j+4,hu=>simp [b4Cells]at hu
 have HNW:=Lib.hid hnews
 have HR4:=Lib.hid hr4
 have HB4:=Lib.hid hb4
 have helt4:e.p<W4.heap.size:=by omega
 rw[hW4]
 clear hnews hr4 hb4 hq4 hW4
 go_region_law
  ((refine step_append_lies _ (by rfl) _ _ _ (by rfl) (w3.heap.size+1) 5 i0 _ 1 1 Tryx.underlying41 hi hz0 hz1 hz2 rfl (by omega) (.slice none 0 0) 0 [] (by rfl) hrow0
     ⟨e.p,3,none⟩ 4 4 (b4Cells e.r.data) (by rfl) (by rfl) HNW.out (by simp[b4Cells,Value.oneCell'])
     (by omega) (by unfold maxLen;omega) (by omega) (by simp;omega) (w3.heap.size+1) (by simp;omega) ?_;intro gg cap2 w1 hown1 hgrow hat hltg
    have z2:=hgrow.cell (a:=⟨w3.heap.size,0,none⟩) (v:=.slice none 0 0) (by go_keep) (by simp[Value.ownBlock])
    have z4:=hgrow.cell (a:=⟨w3.heap.size,1,none⟩) (v:=.int .i64 e.r.tries) (by go_keep) (by simp[Value.ownBlock])
    have z3:=grown_free hgrow (a:=⟨w3.heap.size,0,none⟩) (v:=.slice none 0 0) (by go_keep) (by simp[*]) (by simp[Value.ownBlock])))
 have hge:w3.heap.size<gg:=by
  rcases hat with h1 | h1
  ·simp[Value.ownBlock]at h1
  ·omega
 have hrw:w1.heap[w.heap.size]?=w3.heap[w.heap.size]?:=(hgrow.block w.heap.size (by simp;omega) (by simp[Value.ownBlock])).trans (HB4.out.block _ hrl)
 have hr1:w1.heap[w3.heap.size]?=some (.cells #[.slice none 0 0,.int .i64 e.r.tries] 43 (0,0)):=(hgrow.block w3.heap.size (by simp;omega) (by simp[Value.ownBlock])).trans HR4.out
 obtain⟨W6,hW6⟩:∃ W6,w1.setCell ⟨w3.heap.size,0,none⟩ (.slice (some ⟨gg,0,none⟩) 4 cap2)=W6:=⟨_,rfl⟩
 have hr6:W6.heap[w3.heap.size]?=some (.cells #[.slice (some ⟨gg,0,none⟩) 4 cap2,.int .i64 e.r.tries] 43 (0,0)):=by rw[<-hW6];exact heap_setCell (i:=0) _ hr1
 have hc16:Chg (fun k=>k=w3.heap.size) w1 W6:=by rw[<-hW6];exact chg_set _
 have hq6:W6.heap[w.heap.size]?=some (.cells #[.slice none 0 0,.int .i64 0] 43 (0,0)):=(hc16.block w.heap.size (by omega) (by omega)).trans (hrw.trans HR3.out)
 have k0:W6.cell? ⟨w3.heap.size,0,none⟩=some (.slice (some ⟨gg,0,none⟩) 4 cap2):=cell_of hr6 rfl
 have k1:W6.cell? ⟨w3.heap.size,1,none⟩=some (.int .i64 e.r.tries):=cell_of hr6 rfl
 have l0:W6.cell? ⟨w.heap.size,0,none⟩=some (.slice none 0 0):=cell_of hq6 rfl
 have l1:W6.cell? ⟨w.heap.size,1,none⟩=some (.int .i64 0):=cell_of hq6 rfl
 have lf:∀ i,W6.frozen? ⟨w.heap.size,i,none⟩=false:=fun i=>free_of hq6
 have hown6:W6.ownsRow (w3.heap.size+1) 5 1 (.slice (some ⟨gg,0,none⟩) 4 cap2) 4 (b4Cells e.r.data):=ownsRow_chg (by simpa using hown1) hc16 fun k hk hh=>by
  simp[Value.ownBlock]at hk;omega
 have hc36:Chg (fun _=>False) w3 W6:=((chgB HB4.out _).drew.grown hgrow (by simp[Value.ownBlock])).trans (hc16.mono fun k _ hk=>.inr (by omega))
 have HQ6:=Lib.hid hq6
 have HO6:=Lib.hid hown6
 have HC36:=Lib.hid hc36
 rw[hW6]
 clear hrw hr1 hW6 hr6 hc16 hq6 hown6 hc36 hgrow hown1 hat z2 z3 z4
 go_wp2_with fail
 obtain⟨e5,hc5⟩:=ans_set (W:=W6) (.slice (some ⟨gg,0,none⟩) 4 cap2) (.int .i64 e.r.tries) HQ6.out
 obtain⟨W7,hW7⟩:∃ W7,((W6.setCell ⟨w.heap.size,0,none⟩ (.slice (some ⟨gg,0,none⟩) 4 cap2)).setCell ⟨w.heap.size,1,none⟩ (.int .i64 e.r.tries))=W7:=⟨_,rfl⟩
 rw[hW7]at e5 hc5 ⊢
 have y0:W7.cell? ⟨w.heap.size,0,none⟩=some (.slice (some ⟨gg,0,none⟩) 4 cap2):=cell_of e5 rfl
 have y1:W7.cell? ⟨w.heap.size,1,none⟩=some (.int .i64 e.r.tries):=cell_of e5 rfl
 have hcF3:Chg F w w3:=(chgB HB.out F).then (HC3.out.mono fun k _ hk=>HF.out k (foot_tabs3 HM.out hk))
 have hb36:=HC36.out.size
 refine bodyPost_ret (v:=.tuple #[.agg #[.slice (some ⟨gg,0,none⟩) 4 cap2,.int .i64 e.r.tries],.nilIface]) (by simp[results,Tryz.results36,go_sem,y0,y1]) rfl
  ⟨.slice (some ⟨gg,0,none⟩) 4 cap2,fun k=>F k/\k<w3.heap.size,rfl,⟨tb,mb,clock,fv,((HQ3.out.kept HC36.out fun _ _ x=>x).kept hc5 ?_),?_⟩,fun k hk=>.inl hk.1,?_,?_,?_⟩
 ·intro k hk hk2
  have:=HQ0.out.foot_lt (foot_tell hk)
  omega
 ·exact fun k hk=>⟨HF.out k (foot_tell hk),HQ3.out.foot_lt hk⟩
 ·intro k hk hk2
  simp[Value.ownBlock]at hk;omega
 ·exact (hcF3.then (HC36.out.mono fun _ _ h=>h.elim)).trans (hc5.mono fun k _ hk=>.inr (by omega))
 ·exact ownsRow_chg (ownsRow_low HO6.out (by omega)) hc5 fun k hk hh=>by
   simp[Value.ownBlock]at hk;omega
end
section
open Go.RowKit Go.Shelf Go.Lib
section
variable {P:Program}
theorem run_loadVar_at(w:World)(g off:Nat)(ty:TypeId)(cs:Array Value)(d:TypeDesc)(hc:∀ j v,cs.toList[j]?=some v->w.cell? ⟨g,off+j,none⟩=some v)
  (hu:P.underlying ty=some d) (hd:(match d with | .struct _ | .array _ _=>true | _=>false)=true) (hi:(P.info? ty).map (·.size)=some cs.size):
  (loadVar ty ⟨g,off,none⟩).run P w=.ok (.agg cs) w:=by
 have hl:(loadCells ⟨g,off,none⟩ cs.toList.length).run P w=.ok cs.toList.toArray w:=
  run_loadCells_list (P:=P) w ⟨g,off,none⟩ cs.toList (fun j v hv=>by
   have hadd:(⟨g,off,none⟩:Addr).add j=⟨g,off+j,none⟩:=by unfold Addr.add;split <;> simp_all
   rw[hadd]
   exact hc j v hv)
 cases hq:P.info? ty with
 | none=>simp [hq]at hi
 | some i=>
   have hs:i.size=cs.size:=by simpa[hq]using hi
   have hagg:(isAgg ty).run P w=.ok true w:=by
    unfold isAgg
    rw[Sem.run_bind,run_underlying hu w]
    cases d <;> simp_all
   simp only[Array.length_toList,Array.toArray_toList]at hl
   simp[loadVar,Sem.run_bind,hagg,sizeOf,typeInfo,hq,hs,hl]
theorem wp_load_at{o:Oper}{a:Act}{w:World}{K:Act->World->Prop}{Q:Exit->Act->World->Prop}(ty:TypeId)(x:Operand)(ho:o.op=.load ty x)
  (g off:Nat) (hx:a.eval x=.pointer (some ⟨g,off,none⟩)) (cs:Array Value) (d:TypeDesc) (hc:∀ j v,cs.toList[j]?=some v->w.cell? ⟨g,off+j,none⟩=some v)
  (hu:P.underlying ty=some d) (hd:(match d with | .struct _ | .array _ _=>true | _=>false)=true) (hi:(P.info? ty).map (·.size)=some cs.size)
  (h:K (a.put o.dst (.agg cs)) w):o.wp P a w K Q:=by
 unfold Oper.wp execOp
 simp only[ho,hx,Instr.loadAt,Instr.sureAddr,Sem.run_bind,Sem.run_pure,Result.andThen_ok,run_loadVar_at w g off ty cs d hc hu hd hi]
 exact h
theorem wpList_load_at{ops:Array Oper}{rest:List Oper}{o:Oper}{a:Act}{w:World}{Q:Exit->Act->World->Prop}(hgd:o.guard=none)(ty:TypeId)(x:Operand)(ho:o.op=.load ty x)
  (g off:Nat) (hx:a.eval x=.pointer (some ⟨g,off,none⟩)) (cs:Array Value) (d:TypeDesc) (hc:∀ j v,cs.toList[j]?=some v->w.cell? ⟨g,off+j,none⟩=some v)
  (hu:P.underlying ty=some d) (hd:(match d with | .struct _ | .array _ _=>true | _=>false)=true) (hi:(P.info? ty).map (·.size)=some cs.size)
  (h:wpList P ops Q rest (a.put o.dst (.agg cs)) w):wpList P ops Q (o :: rest) a w:=
 wpList_plain hgd fun _ hK=>wp_load_at ty x ho g off hx cs d hc hu hd hi (hK _ _ h)
end
theorem QB.disk_cell{w:World}{q tb mb clock:Nat}{fv:Value}{s:Sta}(h:QB w q tb mb clock fv s)(j:Nat)(v:Value)(hv:(s.disk.map fun b=>Value.int .u8 b)[j]?=some v):w.cell? ⟨q,5+j,none⟩=some v:=by
 refine cell_of h.que ?_
 unfold qCells
 rw[List.getElem?_toArray,List.getElem?_append_right (by simp)]
 simpa using hv
theorem index_disk(l:List Value)(hl:l.length=64)(i:Nat)(hi:i<16)(w:World):
  (Instr.index 87 (.agg l.toArray) (.int .i64 i)).run Tryx.prog w=.ok (.agg #[l.getD (4*i) undef,l.getD (4*i+1) undef,l.getD (4*i+2) undef,l.getD (4*i+3) undef]) w:=by
 have hu:Tryx.prog.underlying 87=some (.array 16 86):=by kernel_rfl
 have hu2:Tryx.prog.underlying 86=some (.array 4 5):=by kernel_rfl
 have hsz:∀ W,(sizeOf 86).run Tryx.prog W=.ok 4 W:=fun W=>by kernel_rfl
 have hag:∀ W,(isAgg 86).run Tryx.prog W=.ok true W:=fun W=>by kernel_rfl
 have hb:(0:Int)<=(i:Int)/\(i:Int)<((16:Nat):Int):=by omega
 have h4:(l.drop (i*4)).take 4=[l.getD (4*i) undef,l.getD (4*i+1) undef,l.getD (4*i+2) undef,l.getD (4*i+3) undef]:=by
  have g:∀ k,k<4->l[i*4+k]?=some (l.getD (4*i+k) undef):=fun k hk=>by
   rw[List.getD_eq_getElem?_getD,show 4*i+k=i*4+k from by omega,List.getElem?_eq_getElem (show i*4+k<l.length by omega)];rfl
  refine List.ext_getElem? fun k=>?_
  match k with
  | 0=>simpa using g 0 (by omega)
  | 1=>simpa using g 1 (by omega)
  | 2=>simpa using g 2 (by omega)
  | 3=>simpa using g 3 (by omega)
  | k+4=>rw [List.getElem?_eq_none (by simp;omega),List.getElem?_eq_none (by simp)]
 simp[Instr.index,asIntOf,run_underlying hu,hb,part,hsz,hag,Result.andThen]
 rw[if_pos (by omega)]
 simp
 simpa using h4
theorem QB.landed{w W:World}{q tb mb clock:Nat}{fv:Value}{s:Sta}(h:QB w q tb mb clock fv s){e:Ent}(he:e∈s.es){r':Req}{disk':List Int}(hr:r'.num=e.r.num/\r'.page=e.r.page)(hd:disk'.length=64)
  (hque:W.heap[q]?=some (.cells (qCells tb fv {s with disk:=disk'}) 89 (0,0))) (hreq:ReqB W e.p r') (hc:Chg (fun k=>k=q\/k=e.p) w W):
  QB W q tb mb clock fv {s with es:=updE s.es e.r.num (fun r=>if r.num=e.r.num then r' else r),disk:=disk'}:=by
 have hne:=h.ne_qp he
 have hlt:=lt_of_heap (h.tab.reqs e he)
 obtain⟨W1,hW1⟩:∃ W1,w.putObj e.p (.cells (reqCells r') 96 (0,0))=W1:=⟨_,rfl⟩
 have hb1:ReqB W1 e.p r':=by rw[<-hW1];exact World.putObj_heap_same hlt
 have hc1:Chg (fun k=>k=e.p) w W1:=by rw[<-hW1];exact chg_put _
 have hc2:Chg (fun k=>k=q) W1 W:=by
  refine⟨hc.os.trans hc1.os.symm,hc.tape.trans hc1.tape.symm,hc.output.trans hc1.output.symm,?_,fun k hk hn=>?_⟩
  ·have:W1.heap.size=w.heap.size:=by rw[<-hW1];simp[World.putObj]
   rw[this];exact hc.size
  ·by_cases hke:k=e.p
   ·subst hke;rw[hreq,hb1]
   ·have hkw:k<w.heap.size:=by
     have:W1.heap.size=w.heap.size:=by rw[<-hW1];simp[World.putObj]
     omega
    rw[hc.block k hkw (by rintro (h | h);exact hn h;exact hke h),hc1.block k hkw hke]
 have hf:∀ r:Req,(if r.num=e.r.num then r' else r).num=r.num:=fun r=>by
  split
  ·rename_i hh;rw[hh,hr.1]
  ·rfl
 have hT1:TabB W1 tb mb clock s.last s.held (updE s.es e.r.num fun r=>if r.num=e.r.num then r' else r):=by
  have hok:EntsOk (updE s.es e.r.num fun r=>if r.num=e.r.num then r' else r):=by
   have hu:(updE s.es e.r.num fun r=>if r.num=e.r.num then r' else r)=updE s.es e.r.num fun r=>{(if r.num=e.r.num then r' else r)with page:=r.page}:=by
    refine List.map_congr_left fun x hx=>?_
    split
    ·rename_i hh
     obtain⟨l1,l2,e1,h1,h2⟩:=h.tab.ok.split he
     have hxe:x=e:=by
      rw[e1]at hx
      rcases List.mem_append.1 hx with hx | hx
      ·exact absurd hh (h1 x hx)
      ·rcases List.mem_cons.1 hx with hx | hx
       ·exact hx
       ·exact absurd hh (h2 x hx)
     subst hxe
     simp only[if_true]
     have:({r' with page:=x.r.page}:Req)=r':=by rw[<-hr.2]
     rw[this]
    ·rfl
   rw[hu]
   exact h.tab.ok.upd _ _ fun r=>⟨hf r,rfl⟩
  obtain⟨l1,l2,e1,h1,h2⟩:=h.tab.ok.split he
  have hes:updE s.es e.r.num (fun r=>if r.num=e.r.num then r' else r)=l1 ++⟨r',e.p,e.born⟩ :: l2:=by
   rw[e1,updE_split _ rfl h1 h2,if_pos rfl]
  rw[hes]at hok ⊢
  have hap:∀ x∈s.es,x.r.num≠e.r.num->ReqB W1 x.p x.r:=fun x hx hxn=>(hc1.block x.p (lt_of_heap (h.tab.reqs x hx)) (reqs_apart (h.tab.reqs x hx) (h.tab.reqs e he) hxn)).trans (h.tab.reqs x hx)
  refine⟨(hc1.block _ (lt_of_heap h.tab.tab) (h.tab.ne_tp he)).trans h.tab.tab,?_,fun x hx=>?_,fun x hx=>?_,?_,hok,?_⟩
  ·have:=(hc1.block _ (lt_of_heap h.tab.map) (h.tab.ne_mp he)).trans h.tab.map
   rw[this,e1]
   simp[mapObj,Ent.m,hr.1]
  ·rcases List.mem_append.1 hx with hx | hx
   ·exact hap x (by rw[e1];simp[hx]) (h1 x hx)
   ·rcases List.mem_cons.1 hx with rfl | hx
    ·exact hb1
    ·exact hap x (by rw[e1];simp[hx]) (h2 x hx)
  ·rcases List.mem_append.1 hx with hx | hx
   ·exact h.tab.born x (by rw[e1];simp[hx])
   ·rcases List.mem_cons.1 hx with rfl | hx
    ·exact h.tab.born e he
    ·exact h.tab.born x (by rw[e1];simp[hx])
  ·have:=h.tab.borns
   rw[e1]at this
   simpa using this
  ·have:=h.tab.len
   rw[e1]at this
   simpa using this
 refine⟨hque,hT1.kept hc2 h.ne_qt.symm h.ne_qm.symm fun x hx=>?_,?_,fun c hcm=>?_,hd⟩
 ·obtain⟨y,hy,rfl⟩:=List.mem_map.1 hx
  have:(if y.r.num=e.r.num then (⟨if y.r.num=e.r.num then r' else y.r,y.p,y.born⟩:Ent)else y).p=y.p:=by split <;> rfl
  rw[this]
  exact (h.ne_qp hy).symm
 ·refine ownsRow_chg h.fl hc fun k hk hh=>?_
  obtain⟨cur,hcur⟩:=own_heap h.fl hk
  rcases hh with hh | hh
  ·exact h.ne_qf hk hh.symm
  ·exact ne_of_heap hcur (h.tab.reqs e he) (by simp) hh
 ·refine ownsRow_chg (h.rows c hcm) hc fun k hk hh=>?_
  obtain⟨cur,hcur⟩:=own_heap (h.rows c hcm) hk
  rcases hh with hh | hh
  ·exact h.ne_qr hcm hk hh.symm
  ·exact ne_of_heap hcur (h.tab.reqs e he) (by simp) hh
theorem updE_const(es:List Ent)(n:Int)(r':Req):updE es n (fun r=>if r.num=n then r' else r)=updE es n fun _=>r':=by
 refine List.map_congr_left fun x _=>?_
 split
 ·rename_i h;simp only[h,if_true]
 ·rfl
structure LandB(w:World)(q tb:Nat)(fv:Value)(s:Sta)(e:Ent)(pg:Nat)(d0 d1 d2 d3:Int):Prop where
 que:w.heap[q]?=some (.cells (qCells tb fv s) 89 (0,0))
 req:ReqB w e.p e.r
 page:e.r.page=(pg:Int)
 p16:pg<16
 len:s.disk.length=64
 dg:dget s.disk e.r.page=⟨d0,d1,d2,d3⟩
theorem LandB.disk{w:World}{q tb:Nat}{fv:Value}{s:Sta}{e:Ent}{pg:Nat}{d0 d1 d2 d3:Int}(h:LandB w q tb fv s e pg d0 d1 d2 d3):
  w.cell? ⟨q,5+pg*4,none⟩=some (.int .u8 d0)/\w.cell? ⟨q,5+pg*4+1,none⟩=some (.int .u8 d1)/\w.cell? ⟨q,5+pg*4+2,none⟩=some (.int .u8 d2)/\w.cell? ⟨q,5+pg*4+3,none⟩=some (.int .u8 d3):=by
 have hp:=h.p16
 have hl:=h.len
 have g:∀ j,j<64->w.cell? ⟨q,5+j,none⟩=some (.int .u8 (s.disk.getD j 0)):=fun j hj=>by
  refine cell_of h.que ?_
  unfold qCells
  rw[List.getElem?_toArray,List.getElem?_append_right (by simp)]
  simp only[List.length_cons,List.length_nil,Nat.add_sub_cancel_left,List.getElem?_map]
  rw[List.getD_eq_getElem?_getD,List.getElem?_eq_getElem (show j<s.disk.length by omega)]
  rfl
 have hd:=h.dg
 unfold dget at hd
 rw[h.page,Int.toNat_natCast]at hd
 injection hd with e0 e1 e2 e3
 refine⟨?_,?_,?_,?_⟩
 ·rw[show 5+pg*4=5+(4*pg)from by omega,g _ (by omega),e0]
 ·rw[show 5+pg*4+1=5+(4*pg+1)from by omega,g _ (by omega),e1]
 ·rw[show 5+pg*4+2=5+(4*pg+2)from by omega,g _ (by omega),e2]
 ·rw[show 5+pg*4+3=5+(4*pg+3)from by omega,g _ (by omega),e3]
theorem qCells_set(tb:Nat)(fv:Value)(s:Sta)(k:Nat)(v:Int):(qCells tb fv s).setIfInBounds (5+k) (.int .u8 v)=qCells tb fv {s with disk:=s.disk.set k v}:=by
 unfold qCells
 rw[List.setIfInBounds_toArray,show 5+k=k+5 from Nat.add_comm _ _]
 simp[List.map_set]
theorem qCells_dput(tb:Nat)(fv:Value)(s:Sta)(pg:Nat)(d:B4):
  (((((qCells tb fv s).setIfInBounds (5+pg*4) (.int .u8 d.a)).setIfInBounds (5+pg*4+1) (.int .u8 d.b)).setIfInBounds (5+pg*4+2) (.int .u8 d.c)).setIfInBounds (5+pg*4+3) (.int .u8 d.d))=qCells tb fv {s with disk:=dput s.disk pg d}:=by
 rw[show 5+pg*4+1=5+(4*pg+1)from by omega,show 5+pg*4+2=5+(4*pg+2)from by omega,show 5+pg*4+3=5+(4*pg+3)from by omega,show 5+pg*4=5+4*pg from by omega]
 rw[qCells_set,qCells_set,qCells_set,qCells_set]
 rfl
theorem land_end{w W:World}{q tb mb clock:Nat}{fv:Value}{s:Sta}(h:QB w q tb mb clock fv s){e:Ent}(he:e∈s.es){r':Req}{disk':List Int}(hr:r'.num=e.r.num/\r'.page=e.r.page)(hd:disk'.length=64)
  (hque:W.heap[q]?=some (.cells (qCells tb fv {s with disk:=disk'}) 89 (0,0))) (hreq:ReqB W e.p r') (hc:Chg (fun k=>k=q\/k=e.p) w W):
  QB W q tb mb clock fv {s with es:=updE s.es e.r.num (fun _=>r'),disk:=disk'}/\(⟨r',e.p,e.born⟩:Ent)∈updE s.es e.r.num (fun _=>r'):=by
 have:=h.landed he hr hd hque hreq hc
 rw[updE_const]at this
 exact⟨this,mem_updE he fun _=>r'⟩
theorem mem_landE{es:List Ent}{e x:Ent}(h:x∈landE es e):x∈es:=by
 unfold landE at h
 split at h
 ·exact (List.mem_filter.1 h).1
 ·exact h
theorem land_fin{W W':World}{q tb mb clock:Nat}{fv:Value}{s:Sta}{e:Ent}{r':Req}{disk':List Int}(h:QB W q tb mb clock fv {s with es:=updE s.es e.r.num (fun _=>r'),disk:=disk'})
  (hT:TabB W' tb mb clock s.last s.held (landE (updE s.es e.r.num fun _=>r') ⟨r',e.p,e.born⟩)) (hc:Chg (fun k=>k=mb) W W'):
  QB W' q tb mb clock fv {s with es:=landE (updE s.es e.r.num fun _=>r') ⟨r',e.p,e.born⟩,disk:=disk'}:=
 h.tabs clock {s with es:=landE (updE s.es e.r.num fun _=>r') ⟨r',e.p,e.born⟩,disk:=disk'} ⟨rfl,rfl,rfl,rfl⟩ rfl hT hc fun _ hk=>.inr (.inl hk)
end
end Go.Proofs.YticobikhndlejaaGreatDoor
