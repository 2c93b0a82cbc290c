/- Part 13 of the proof (see the last part). -/
import Derived.Test.YticobikhndlejaaGreatDoorAlL
import Derived.Deep.CutRange
namespace Go.Proofs.YticobikhndlejaaGreatDoor
section
open Go.RowKit Go.Shelf Go.Lib
set_option maxRecDepth 100000
set_option maxHeartbeats 8000000
theorem RB.setX{w:World}{q:Nat}{t:St}{l:List RR}{told:List Int}{fs:List (Cmd×Value)}{rv tv fv dv:Value}(h:RB w q t l told fs rv tv fv dv){g:Nat}(hg:rv.ownBlock=some g){k:Nat}{x:RR}(hk:l[k]?=some x)(y:RR):
  RB ((((((((((w.setCell ⟨g,k*10,none⟩ (.int .i64 y.r.num)).setCell ⟨g,k*10+1,none⟩ (.bool y.r.write)).setCell ⟨g,k*10+2,none⟩ (.int .i64 y.r.page)).setCell ⟨g,k*10+3,none⟩ (.string y.data)).setCell ⟨g,k*10+4,none⟩ (.int .i64 y.r.state)).setCell ⟨g,k*10+5,none⟩ (.int .i64 y.r.tries)).setCell ⟨g,k*10+6,none⟩ (.int .i64 y.r.after)).setCell ⟨g,k*10+7,none⟩ (.bool y.r.alone)).setCell ⟨g,k*10+8,none⟩ (.bool y.r.inAir)).setCell ⟨g,k*10+9,none⟩ (.string y.answer)) q t (l.set k y) told fs rv tv fv dv/\Chg (fun k=>k=g) w ((((((((((w.setCell ⟨g,k*10,none⟩ (.int .i64 y.r.num)).setCell ⟨g,k*10+1,none⟩ (.bool y.r.write)).setCell ⟨g,k*10+2,none⟩ (.int .i64 y.r.page)).setCell ⟨g,k*10+3,none⟩ (.string y.data)).setCell ⟨g,k*10+4,none⟩ (.int .i64 y.r.state)).setCell ⟨g,k*10+5,none⟩ (.int .i64 y.r.tries)).setCell ⟨g,k*10+6,none⟩ (.int .i64 y.r.after)).setCell ⟨g,k*10+7,none⟩ (.bool y.r.alone)).setCell ⟨g,k*10+8,none⟩ (.bool y.r.inAir)).setCell ⟨g,k*10+9,none⟩ (.string y.answer)):=by
 have hkl:=(List.getElem?_eq_some_iff.1 hk).1
 have get:∀ z:RR,(l.set k z)[k]?=some z:=fun z=>by rw[List.getElem?_set,if_pos rfl,if_pos hkl]
 obtain⟨f0,c0⟩:=h.set1 hg hk (y:={x with r:={x.r with num:=y.r.num}}) 0 (by omega) (.int .i64 y.r.num) rfl
 obtain⟨x0,hx0⟩:∃ z:RR,{x with r:={x.r with num:=y.r.num}}=z:=⟨_,rfl⟩
 rw[hx0]at f0
 obtain⟨f1,c1⟩:=f0.set1 hg (get x0) (y:={x0 with r:={x0.r with write:=y.r.write}}) 1 (by omega) (.bool y.r.write) rfl
 obtain⟨x1,hx1⟩:∃ z:RR,{x0 with r:={x0.r with write:=y.r.write}}=z:=⟨_,rfl⟩
 rw[List.set_set,hx1]at f1
 obtain⟨f2,c2⟩:=f1.set1 hg (get x1) (y:={x1 with r:={x1.r with page:=y.r.page}}) 2 (by omega) (.int .i64 y.r.page) rfl
 obtain⟨x2,hx2⟩:∃ z:RR,{x1 with r:={x1.r with page:=y.r.page}}=z:=⟨_,rfl⟩
 rw[List.set_set,hx2]at f2
 obtain⟨f3,c3⟩:=f2.set1 hg (get x2) (y:={x2 with data:=y.data}) 3 (by omega) (.string y.data) rfl
 obtain⟨x3,hx3⟩:∃ z:RR,{x2 with data:=y.data}=z:=⟨_,rfl⟩
 rw[List.set_set,hx3]at f3
 obtain⟨f4,c4⟩:=f3.set1 hg (get x3) (y:={x3 with r:={x3.r with state:=y.r.state}}) 4 (by omega) (.int .i64 y.r.state) rfl
 obtain⟨x4,hx4⟩:∃ z:RR,{x3 with r:={x3.r with state:=y.r.state}}=z:=⟨_,rfl⟩
 rw[List.set_set,hx4]at f4
 obtain⟨f5,c5⟩:=f4.set1 hg (get x4) (y:={x4 with r:={x4.r with tries:=y.r.tries}}) 5 (by omega) (.int .i64 y.r.tries) rfl
 obtain⟨x5,hx5⟩:∃ z:RR,{x4 with r:={x4.r with tries:=y.r.tries}}=z:=⟨_,rfl⟩
 rw[List.set_set,hx5]at f5
 obtain⟨f6,c6⟩:=f5.set1 hg (get x5) (y:={x5 with r:={x5.r with after:=y.r.after}}) 6 (by omega) (.int .i64 y.r.after) rfl
 obtain⟨x6,hx6⟩:∃ z:RR,{x5 with r:={x5.r with after:=y.r.after}}=z:=⟨_,rfl⟩
 rw[List.set_set,hx6]at f6
 obtain⟨f7,c7⟩:=f6.set1 hg (get x6) (y:={x6 with r:={x6.r with alone:=y.r.alone}}) 7 (by omega) (.bool y.r.alone) rfl
 obtain⟨x7,hx7⟩:∃ z:RR,{x6 with r:={x6.r with alone:=y.r.alone}}=z:=⟨_,rfl⟩
 rw[List.set_set,hx7]at f7
 obtain⟨f8,c8⟩:=f7.set1 hg (get x7) (y:={x7 with r:={x7.r with inAir:=y.r.inAir}}) 8 (by omega) (.bool y.r.inAir) rfl
 obtain⟨x8,hx8⟩:∃ z:RR,{x7 with r:={x7.r with inAir:=y.r.inAir}}=z:=⟨_,rfl⟩
 rw[List.set_set,hx8]at f8
 obtain⟨f9,c9⟩:=f8.set1 hg (get x8) (y:={x8 with answer:=y.answer}) 9 (by omega) (.string y.answer) rfl
 obtain⟨x9,hx9⟩:∃ z:RR,{x8 with answer:=y.answer}=z:=⟨_,rfl⟩
 rw[List.set_set,hx9]at f9
 have hlast:rrCells x9=rrCells y:=by subst hx9 hx8 hx7 hx6 hx5 hx4 hx3 hx2 hx1 hx0;rfl
 refine⟨⟨f9.que,?_,f9.tol,f9.fls,f9.fcs,f9.dsk,f9.tf⟩,((((((((c0.then c1).then c2).then c3).then c4).then c5).then c6).then c7).then c8).then c9⟩
 have h9:=f9.reqs
 rw[List.length_set]at h9 ⊢
 rw[<-rr_same (l.set k x9) k (get x9) hlast.symm,List.set_set]at h9
 exact h9
theorem conv_page{w:World}{g cap:Nat}{disk:List Int}(h:w.ownsRow 0 5 1 (.slice (some ⟨g,0,none⟩) 64 cap) 64 (disk.map fun b=>Value.int .u8 b))(hd:disk.length=64){p:Nat}(hp:p<16):
  (convert 41 9 (.slice (some ⟨g,4*p,none⟩) 4 (cap - 4*p))).run Tryx.prog w=.ok (.string (str4 (dget disk p))) w:=by
 refine run_convert_bytes_arg (P:=Tryx.prog) _ 41 5 Tryx.underlying41 Tryx.underlying5 g (4*p) 4 (cap - 4*p) _ rfl (fun j hj=>?_) 9 Tryx.underlying9
 ·have hcell:∀ i,i<64->w.cell? ⟨g,i,none⟩=some (.int .u8 (disk.getD i 0)):=fun i hi=>by
   obtain⟨g2,e,_,_,hc⟩:=row_at h (j:=i) (x:=.int .u8 (disk.getD i 0)) (by rw[List.getElem?_map,List.getD_eq_getElem?_getD,List.getElem?_eq_getElem (show i<disk.length by omega)];rfl) (by rw[List.length_map,hd])
   simp only[Option.some.injEq,Addr.mk.injEq]at e
   obtain⟨rfl,_⟩:=e
   exact hc
  have h4':j<4:=by simpa using hj
  unfold dget
  simp only[Int.toNat_natCast]
  rcases (show j=0\/j=1\/j=2\/j=3 by omega)with rfl | rfl | rfl | rfl
  ·exact hcell _ (by omega)
  ·exact hcell _ (by omega)
  ·exact hcell _ (by omega)
  ·exact hcell _ (by omega)
theorem erase_setX{α:Type}{rs:List α}{k:Nat}{y:α}:(rs.set k y).eraseIdx k=rs.eraseIdx k:=by
 rw[List.eraseIdx_eq_take_drop_succ,List.eraseIdx_eq_take_drop_succ,List.take_set,List.drop_set,if_pos (by omega),List.set_eq_of_length_le (by rw[List.length_take];omega)]
theorem slice_page(w:World)(g dc p:Nat)(hp:p<16)(hdc:64<=dc):(Instr.sliceAt 41 (.slice (some ⟨g,0,none⟩) 64 dc) (some (.int .i64 (4*(p:Int)))) (some (.int .i64 (4*(p:Int)+4))) none).run Tryx.prog w=.ok (.slice (some ⟨g,4*p,none⟩) 4 (dc - 4*p)) w:=by
 have h1:(0:Int)<=4*(p:Int):=by omega
 have h2:(4*(p:Int))<=4*(p:Int)+4:=by omega
 have h3:(4*(p:Int)+4)<=(dc:Int):=by omega
 have h4:(0:Int)<=4*(p:Int)+4:=by omega
 have h5:¬dc=4*p:=by omega
 have h6:(4*(p:Int)).toNat=4*p:=by omega
 have h7:(4*(p:Int)+4).toNat=4*p+4:=by omega
 go_simp
theorem tried_r(n:Int)(fault:Bool)(w:World){q:Nat}{t:St}{l:List RR}{told:List Int}{fs:List (Cmd×Value)}{rv tv fv dv:Value}{air:List Int}(h:RB w q t l told fs rv tv fv dv)(h2:RRel l told t)(hk:t.OkA (n :: air))(hnow:t.now<2 ^ 59)(hl:l.length<=1000000)(htl:told.length<=1000000):
  Calls Tryx.prog 86 #[ptr q,.int .i64 n,.bool fault] w fun y w'=>∃ l' told' rv' tv',y=.returned (.tuple #[])/\RB w' q (t.land fault n) l' told' fs rv' tv' fv dv/\RRel l' told' (t.land fault n)/\(∀ k,RFoot q rv' tv' fv dv fs k->RFoot q rv tv fv dv fs k\/w.heap.size<=k)/\Chg (RFoot q rv tv fv dv fs) w w':=by
 have hs:=hk.rs.nums
 obtain⟨o,ho,hon,hoa⟩:=hk.rs.fly n (by simp)
 obtain⟨k,hkk⟩:=List.mem_iff_getElem?.1 ho
 obtain⟨x,hx,rfl⟩:=h2.back hkk
 have hno:∀ y∈l.take k,y.r.num≠n:=fun y hy=>by
  have hy2:y.r∈t.rs.take k:=by
   rw[<-h2.rs,<-List.map_take]
   exact List.mem_map_of_mem hy
  have:=(sorted_take hs hkk).1 y.r hy2
  omega
 have hrok:=hk.rs.ok x.r ho
 have hxo:=h2.ok x (List.mem_of_getElem? hx)
 have hst:=hrok.air hoa
 have htr:=hrok.tries
 have htr3:=hrok.try3 (by simp[Req.live,hoa])
 obtain⟨p,hp⟩:∃ p:Nat,x.r.page=p:=⟨x.r.page.toNat,by have:=hrok.page;omega⟩
 have hp16:p<16:=by have:=hrok.page;omega
 obtain⟨y,hy⟩:∃ y,landX t.now t.disk fault x=y:=⟨_,rfl⟩
 have hdat:x.r.write=true->x.data=str4 x.r.data:=hxo.data
 have hnow0:=hk.now
 obtain⟨ra,rc,rfl⟩:=own_slice h.reqs
 have HAT:=Lib.hid (at_r n w h hl hx hon hno)
 have HR:=Lib.hid h
 have H2:=Lib.hid h2
 have HX:=Lib.hid hx
 have HK:=Lib.hid hk
 have HS:=Lib.hid hs
 have HP:=Lib.hid hp
 have HY:=Lib.hid hy
 have HDT:=Lib.hid hdat
 have HON:=Lib.hid hon
 have HST:=Lib.hid hst
 have HROK:=Lib.hid hrok
 obtain⟨m,hm⟩:∃ m,l.length=m:=⟨_,rfl⟩
 have hkm:k<m:=by have:=(List.getElem?_eq_some_iff.1 hx).1;omega
 have hkI:(k:Int)<(m:Int):=by omega
 have hk0:(0:Int)<=(k:Int):=by omega
 have HM:=Lib.hid hm
 clear h h2 hk hx hs hp hy hdat hon hno hkk ho hoa hrok hxo hst hm
 go_enter Tryx.func86,Tryz.ntmps86
 go_wp2_with fail
 refine HAT.out.mono ?_
 rintro yy w2 ⟨rfl,hB⟩
 have hR:=HR.out.below hB
 have d1:=hR.c1
 rw[HM.out]at d1
 obtain⟨g,cap,e,_,_,hcell⟩:=hR.req HX.out
 simp only[Value.slice.injEq]at e
 obtain⟨rfl,hdrop,rfl⟩:=e
 clear hdrop
 have p0:w2.cell? ⟨g,k*10,none⟩=some (.int .i64 x.r.num):=hcell 0 _ rfl
 have p1:w2.cell? ⟨g,k*10+1,none⟩=some (.bool x.r.write):=hcell 1 _ rfl
 have p2:w2.cell? ⟨g,k*10+2,none⟩=some (.int .i64 x.r.page):=hcell 2 _ rfl
 have p3:w2.cell? ⟨g,k*10+3,none⟩=some (.string x.data):=hcell 3 _ rfl
 have p4:w2.cell? ⟨g,k*10+4,none⟩=some (.int .i64 x.r.state):=hcell 4 _ rfl
 have p5:w2.cell? ⟨g,k*10+5,none⟩=some (.int .i64 x.r.tries):=hcell 5 _ rfl
 have p6:w2.cell? ⟨g,k*10+6,none⟩=some (.int .i64 x.r.after):=hcell 6 _ rfl
 have p7:w2.cell? ⟨g,k*10+7,none⟩=some (.bool x.r.alone):=hcell 7 _ rfl
 have p8:w2.cell? ⟨g,k*10+8,none⟩=some (.bool x.r.inAir):=hcell 8 _ rfl
 have p9:w2.cell? ⟨g,k*10+9,none⟩=some (.string x.answer):=hcell 9 _ rfl
 rw[HP.out]at p2
 obtain⟨st,hst⟩:∃ st,x.r.state=st:=⟨_,rfl⟩
 obtain⟨tr,htr0⟩:∃ tr,x.r.tries=tr:=⟨_,rfl⟩
 obtain⟨wt,hwt⟩:∃ wt,x.r.write=wt:=⟨_,rfl⟩
 have hstc:st=1\/st=4:=by have:=HST.out;omega
 rw[htr0]at htr htr3
 rw[hst]at p4
 rw[htr0]at p5
 rw[hwt]at p1
 have hwtr:IntKind.i64.wrap (tr+1)=tr+1:=by rw[IntKind.wrap_i64];omega
 have HB:=Lib.hid hB
 have HR2:=Lib.hid hR
 have HSTE:=Lib.hid hst
 have HTRE:=Lib.hid htr0
 have HWTE:=Lib.hid hwt
 have hgl2:=lt_of_cell p0
 have hql2:=lt_of_heap hR.que
 clear hcell hR hB hst htr0 hwt
 go_upto_region 4 with fail
 obtain⟨W3,hW3⟩:∃ W3,w2.alloc (.cells #[.int .i64 x.r.num,.bool wt,.int .i64 p,.string x.data,.int .i64 st,.int .i64 (tr+1),.int .i64 x.r.after,.bool x.r.alone,.bool false,.string x.answer] 191)=W3:=⟨_,rfl⟩
 have hb3:W3.heap[w2.heap.size]?=some (.cells #[.int .i64 x.r.num,.bool wt,.int .i64 p,.string x.data,.int .i64 st,.int .i64 (tr+1),.int .i64 x.r.after,.bool x.r.alone,.bool false,.string x.answer] 191 (0,0)):=by rw[<-hW3];exact World.alloc_heap_new _ _
 have hB3:Below w.heap.size w W3:=by rw[<-hW3];exact HB.out.alloc HB.out.size _
 have hR3:=HR.out.below hB3
 have z1:W3.cell? ⟨w2.heap.size,1,none⟩=some (.bool wt):=cell_of hb3 rfl
 have z2:W3.cell? ⟨w2.heap.size,2,none⟩=some (.int .i64 p):=cell_of hb3 rfl
 have z3:W3.cell? ⟨w2.heap.size,3,none⟩=some (.string x.data):=cell_of hb3 rfl
 have z4:W3.cell? ⟨w2.heap.size,4,none⟩=some (.int .i64 st):=cell_of hb3 rfl
 have z5:W3.cell? ⟨w2.heap.size,5,none⟩=some (.int .i64 (tr+1)):=cell_of hb3 rfl
 have z6:W3.cell? ⟨w2.heap.size,6,none⟩=some (.int .i64 x.r.after):=cell_of hb3 rfl
 have z7:W3.cell? ⟨w2.heap.size,7,none⟩=some (.bool x.r.alone):=cell_of hb3 rfl
 have z9:W3.cell? ⟨w2.heap.size,9,none⟩=some (.string x.answer):=cell_of hb3 rfl
 have zf:∀ i,W3.frozen? ⟨w2.heap.size,i,none⟩=false:=fun i=>free_of hb3
 have hbl:=lt_of_heap hb3
 have c4:=hR3.c4
 have c7:=hR3.c7
 have hql3:=lt_of_heap hR3.que
 have hqne:q≠w2.heap.size:=by omega
 have hqne2:=hqne.symm
 have HW3:=Lib.hid hW3
 have HB3:=Lib.hid hB3
 have HR3:=Lib.hid hR3
 have HBK:=Lib.hid hb3
 rw[hW3]
 clear hW3 hB3 hR3 hb3 p0 p1 p2 p3 p4 p5 p6 p7 p8 p9 d1
 obtain⟨an,han⟩:∃ an,y.answer=an:=⟨_,rfl⟩
 have HAN:=Lib.hid han
 clear han
 go_upto_if 29 with (fail)
 go_cut []from 30 to 51 (fun wx=>wx.heap[w2.heap.size]?=some (.cells #[.int .i64 x.r.num,.bool wt,.int .i64 p,.string x.data,.int .i64 st,.int .i64 (tr+1),.int .i64 x.r.after,.bool x.r.alone,.bool false,.string an] 191 (0,0))/\Hid (RB wx q {t with disk:=St.landD t.disk fault x.r} l told fs (.slice (some ⟨g,0,none⟩) l.length rc) tv fv dv)/\Hid (Chg (fun k=>dv.ownBlock=some k\/k=w2.heap.size) W3 wx))
 case first=>
  cases fault with
  | false=>
    cases wt with
    | true=>
      have HPUT:=Lib.hid fun W (hW:Below W3.heap.size W3 W)=>put_r p x.r.data x.data W (HR3.out.below hW) HK.out.dlen hp16 HROK.out.byte (HDT.out HWTE.out)
      go_wp2_with fail
      refine (HPUT.out W3 (Below.refl _ _)).mono ?_
      rintro yy w5 ⟨rfl,hR5,hC5⟩
      have H5:=Lib.hid (And.intro hR5 hC5)
      clear hR5 hC5
      go_wp2_with fail
      go_meet
      case rel=>
       obtain⟨hR5,hC5⟩:=H5.out
       have hnb:¬dv.ownBlock=some w2.heap.size:=fun e=>by have:=HR.out.lt (k:=w2.heap.size) (.inr (.inr (.inr (.inr (.inl e)))));have:=HB.out.size;omega
       have e1:x.answer=an:=by rw[<-HAN.out,<-HY.out];unfold landX;simp[HWTE.out]
       have e2:St.landD t.disk false x.r=dput t.disk p x.r.data:=by unfold St.landD;simp[HWTE.out,HP.out]
       refine⟨?_,?_,Lib.hid (hC5.mono fun k _ hk=>.inl hk)⟩
       ·rw[<-e1];exact (hC5.block _ hbl hnb).trans HBK.out
       ·rw[e2];exact Lib.hid hR5
    | false=>
      obtain⟨da,dc,rfl⟩:=own_slice HR3.out.dsk
      have hdv:∃ gd,da=some ⟨gd,0,none⟩:=by
       rcases HR3.out.dsk.2 with ⟨_,h0⟩ |⟨gd,_,_,e,_⟩
       ·omega
       ·simp at e;exact⟨gd,e.1⟩
      obtain⟨gd,rfl⟩:=hdv
      have hcp:=conv_page HR3.out.dsk HK.out.dlen hp16
      have hw4:IntKind.i64.wrap (4*(p:Int))=4*(p:Int):=by rw[IntKind.wrap_i64];omega
      have hw5:IntKind.i64.wrap (4*(p:Int)+4)=4*(p:Int)+4:=by rw[IntKind.wrap_i64];omega
      have hdc:64<=dc:=by
       rcases HR3.out.dsk.2 with ⟨_,h0⟩ |⟨gd2,cap2,_,e,_,_,h4,_⟩
       ·omega
       ·simp at e;omega
      have hsp:=fun W=>slice_page W gd dc p hp16 hdc
      have hcpd:=conv_page (w:=W3.drew) (ownsRow_chg HR3.out.dsk (Chg.drew (Chg.refl (fun _=>False) W3)) fun _ _ z=>z) HK.out.dlen hp16
      go_wp2_with fail
      go_still_tail 14,(by kernel_rfl)
      change wpList _ _ _ _ _ W3.drew
      obtain⟨W4,hW4⟩:∃ W4,W3.drew=W4:=⟨_,rfl⟩
      have z9':W4.cell? ⟨w2.heap.size,9,none⟩=some (.string x.answer):=by rw[<-hW4];exact z9
      have zf':∀ i,W4.frozen? ⟨w2.heap.size,i,none⟩=false:=by rw[<-hW4];exact zf
      have hR4:RB W4 q t l told fs (.slice (some ⟨g,0,none⟩) l.length rc) tv fv (.slice (some ⟨gd,0,none⟩) 64 dc):=by rw[<-hW4];exact HR3.out.kept (Chg.drew (Chg.refl (fun _=>False) W3)) fun _ _ z=>z
      have hb4:W4.heap[w2.heap.size]?=some (.cells #[.int .i64 x.r.num,.bool false,.int .i64 p,.string x.data,.int .i64 st,.int .i64 (tr+1),.int .i64 x.r.after,.bool x.r.alone,.bool false,.string x.answer] 191 (0,0)):=by rw[<-hW4];exact HBK.out
      have hc4:Chg (fun _=>False) W3 W4:=by rw[<-hW4];exact Chg.drew (Chg.refl _ _)
      rw[hW4]
      have HR4:=Lib.hid hR4
      have HB4:=Lib.hid hb4
      have HC4:=Lib.hid hc4
      clear hW4 hR4 hb4 hc4 hcp hcpd hsp
      go_wp2_with fail
      go_meet
      case rel=>
       have e1:str4 (dget t.disk p)=an:=by rw[<-HAN.out,<-HY.out];unfold landX;simp[HWTE.out,HP.out]
       have e2:St.landD t.disk false x.r=t.disk:=by unfold St.landD;simp[HWTE.out]
       refine⟨?_,?_,Lib.hid ?_⟩
       ·rw[<-e1];exact heap_setCell (i:=9) _ HB4.out
       ·rw[e2];exact Lib.hid (HR4.out.kept (Chg.setCell (S:=fun k=>k=w2.heap.size) (p:=⟨w2.heap.size,9,none⟩) (Chg.refl _ W4) (.inl rfl) _) fun k hk e=>by have:=HR.out.lt hk;have:=HB.out.size;omega)
       ·exact Chg.setCell (p:=⟨w2.heap.size,9,none⟩) (HC4.out.mono fun _ _ z=>z.elim) (.inl (.inr rfl)) _
  | true=>
    go_wp2_with fail
    go_meet
    case rel=>
     have e1:x.answer=an:=by rw[<-HAN.out,<-HY.out];unfold landX;simp
     have e2:St.landD t.disk true x.r=t.disk:=by unfold St.landD;simp
     refine⟨?_,?_,Lib.hid (Chg.refl _ _)⟩
     ·rw[<-e1];exact HBK.out
     ·rw[e2];exact Lib.hid HR3.out
 case rest=>
  obtain⟨hb5,hR5,hC5⟩:=hcut
  have q4:wc.cell? ⟨w2.heap.size,4,none⟩=some (.int .i64 st):=cell_of hb5 rfl
  have q5:wc.cell? ⟨w2.heap.size,5,none⟩=some (.int .i64 (tr+1)):=cell_of hb5 rfl
  have q6:wc.cell? ⟨w2.heap.size,6,none⟩=some (.int .i64 x.r.after):=cell_of hb5 rfl
  have q7:wc.cell? ⟨w2.heap.size,7,none⟩=some (.bool x.r.alone):=cell_of hb5 rfl
  have qf:∀ i,wc.frozen? ⟨w2.heap.size,i,none⟩=false:=fun i=>free_of hb5
  have qc4:wc.cell? ⟨q,4,none⟩=some (.int .i64 t.now):=hR5.out.c4
  have HB5:=Lib.hid hb5
  have hql5:=lt_of_heap hR5.out.que
  have hbl5:=lt_of_heap hb5
  have hst2:=hstc
  clear hb5 z1 z2 z3 z4 z5 z6 z7 z9 zf c4 c7 hbl hql3
  go_upto_if 54 with (fail)
  go_cut [8,9]from 55 to 84 (fun s8 s9 wx=>wx.heap[w2.heap.size]?=some (.cells #[.int .i64 y.r.num,.bool y.r.write,.int .i64 y.r.page,.string y.data,.int .i64 y.r.state,.int .i64 y.r.tries,.int .i64 y.r.after,.bool y.r.alone,.bool y.r.inAir,.string y.answer] 191 (0,0))/\Hid (Chg (fun k=>k=w2.heap.size) wc wx))
  case first=>
   rcases hst2 with rfl | rfl
   ·cases fault with
    | false=>
      go_wp2_with fail
      go_meet
      case rel=>
       have ey:(#[.int .i64 y.r.num,.bool y.r.write,.int .i64 y.r.page,.string y.data,.int .i64 y.r.state,.int .i64 y.r.tries,.int .i64 y.r.after,.bool y.r.alone,.bool y.r.inAir,.string y.answer]:Array Value)=#[.int .i64 x.r.num,.bool wt,.int .i64 p,.string x.data,.int .i64 2,.int .i64 (tr+1),.int .i64 x.r.after,.bool x.r.alone,.bool false,.string an]:=by
        rw[HAN.out,<-HY.out]
        unfold landX St.landR
        simp[HSTE.out,HTRE.out,HWTE.out,HP.out]
       rw[ey]
       exact⟨heap_setCell (i:=4) _ HB5.out,Lib.hid (Chg.setCell (S:=fun k=>k=w2.heap.size) (p:=⟨w2.heap.size,4,none⟩) (Chg.refl _ wc) (.inl rfl) _)⟩
    | true=>
      by_cases h4:tr+1=4
      ·have h43:tr=3:=by omega
       have H43:=Lib.hid h43
       have hd4:(tr+1 == 4)=true:=by rw[h4];rfl
       clear h43 h4
       go_wp2_with fail
       go_meet
       case rel=>
        have ey:(#[.int .i64 y.r.num,.bool y.r.write,.int .i64 y.r.page,.string y.data,.int .i64 y.r.state,.int .i64 y.r.tries,.int .i64 y.r.after,.bool y.r.alone,.bool y.r.inAir,.string y.answer]:Array Value)=#[.int .i64 x.r.num,.bool wt,.int .i64 p,.string x.data,.int .i64 3,.int .i64 (tr+1),.int .i64 x.r.after,.bool x.r.alone,.bool false,.string an]:=by
         rw[HAN.out,<-HY.out]
         unfold landX St.landR
         simp[HSTE.out,HTRE.out,HWTE.out,HP.out,H43.out]
        rw[ey]
        exact⟨heap_setCell (i:=4) _ HB5.out,Lib.hid (Chg.setCell (S:=fun k=>k=w2.heap.size) (p:=⟨w2.heap.size,4,none⟩) (Chg.refl _ wc) (.inl rfl) _)⟩
      ·obtain⟨T,hT⟩:∃ T:Nat,tr+1=T:=⟨(tr+1).toNat,by omega⟩
       have hT3:1<=T/\T<=3:=by omega
       have HT:=Lib.hid hT
       clear hT
       go_wp2_with fail
       obtain⟨Wl,hWl⟩:∃ Wl,(wc.setCell ⟨w2.heap.size,4,none⟩ (.int .i64 0)).setCell ⟨w2.heap.size,7,none⟩ (.bool true)=Wl:=⟨_,rfl⟩
       have hbl7:Wl.heap[w2.heap.size]?=some (.cells #[.int .i64 x.r.num,.bool wt,.int .i64 p,.string x.data,.int .i64 0,.int .i64 (tr+1),.int .i64 x.r.after,.bool true,.bool false,.string an] 191 (0,0)):=by rw[<-hWl];exact heap_setCell (i:=7) _ (heap_setCell (i:=4) _ HB5.out)
       have hcl:Chg (fun k=>k=w2.heap.size) wc Wl:=by rw[<-hWl];exact Chg.setCell (p:=⟨w2.heap.size,7,none⟩) (Chg.setCell (S:=fun k=>k=w2.heap.size) (p:=⟨w2.heap.size,4,none⟩) (Chg.refl _ wc) (.inl rfl) _) (.inl rfl) _
       have l5:Wl.cell? ⟨w2.heap.size,5,none⟩=some (.int .i64 (tr+1)):=cell_of hbl7 rfl
       have l6:Wl.cell? ⟨w2.heap.size,6,none⟩=some (.int .i64 x.r.after):=cell_of hbl7 rfl
       have lf:∀ i,Wl.frozen? ⟨w2.heap.size,i,none⟩=false:=fun i=>free_of hbl7
       have l4:Wl.cell? ⟨q,4,none⟩=some (.int .i64 t.now):=(hcl.cell (p:=⟨q,4,none⟩) hql5 hqne).trans qc4
       rw[HT.out]at l5
       have HBL7:=Lib.hid hbl7
       have HCL:=Lib.hid hcl
       rw[hWl]
       clear hWl hbl7 hcl q4 q5 q6 q7 qf qc4
       go_loopg [8,9] 4 (fun kk s8 s9 wx=>∃ (j:Nat) (v:Int),kk=5 - j/\1<=j/\j<=T/\s9=.int .i64 j/\s8=.int .i64 v/\((j=1/\v=1)\/(j=2/\v=2)\/(j=3/\v=4))/\wx=Wl)
       case atStart=>exact ⟨1,1,by simp,by omega,by omega,rfl,rfl,.inl ⟨rfl,rfl⟩,rfl⟩
       case round=>
        obtain⟨j,v,rfl,hj1,hjT,rfl,rfl,hjv,rfl⟩:=hrel
        have hv8:v<8:=by omega
        have hv0:0<=v:=by omega
        by_cases hlt:j<T
        ·have hltI:(j:Int)<(T:Int):=by omega
         have HJV:=Lib.hid hjv
         clear hjv
         go_wp2_with fail
         go_roundg (5 - (j+1))
         case measure=>omega
         case rel=>exact ⟨j+1,2*v,by omega,by omega,by omega,by go_num,rfl,by have:=HJV.out;omega,rfl⟩
        ·have hltI:¬(j:Int)<(T:Int):=by omega
         have hvE:v=2 ^ tr.toNat:=by
          have:=HT.out
          rcases hjv with ⟨h1,h2⟩ |⟨h1,h2⟩ |⟨h1,h2⟩
          ·rw[show tr=0 by omega,h2];rfl
          ·rw[show tr=1 by omega,h2];rfl
          ·rw[show tr=2 by omega,h2];rfl
         have hwn:IntKind.i64.wrap (t.now+v)=t.now+v:=by rw[IntKind.wrap_i64];omega
         have HVE:=Lib.hid hvE
         have HJV:=Lib.hid hjv
         clear hjv hvE
         go_wp2_with fail
         go_meet
         case rel=>
          have ht3:¬4<=tr+1:=by have:=HT.out;omega
          have hmin:min 8 ((2:Int) ^ tr.toNat)=v:=by rw[<-HVE.out];omega
          have ey:(#[.int .i64 y.r.num,.bool y.r.write,.int .i64 y.r.page,.string y.data,.int .i64 y.r.state,.int .i64 y.r.tries,.int .i64 y.r.after,.bool y.r.alone,.bool y.r.inAir,.string y.answer]:Array Value)=#[.int .i64 x.r.num,.bool wt,.int .i64 p,.string x.data,.int .i64 0,.int .i64 (tr+1),.int .i64 (t.now+v),.bool true,.bool false,.string an]:=by
           rw[HAN.out,<-HY.out]
           unfold landX St.landR
           simp[HSTE.out,HTRE.out,HWTE.out,HP.out,ht3,hmin]
          rw[ey]
          exact⟨heap_setCell (i:=6) _ HBL7.out,Lib.hid (Chg.setCell (p:=⟨w2.heap.size,6,none⟩) HCL.out (.inl rfl) _)⟩
   ·go_wp2_with fail
    go_meet
    case rel=>
     have ey:(#[.int .i64 y.r.num,.bool y.r.write,.int .i64 y.r.page,.string y.data,.int .i64 y.r.state,.int .i64 y.r.tries,.int .i64 y.r.after,.bool y.r.alone,.bool y.r.inAir,.string y.answer]:Array Value)=#[.int .i64 x.r.num,.bool wt,.int .i64 p,.string x.data,.int .i64 4,.int .i64 (tr+1),.int .i64 x.r.after,.bool x.r.alone,.bool false,.string an]:=by
      rw[HAN.out,<-HY.out]
      unfold landX St.landR
      simp[HSTE.out,HTRE.out,HWTE.out,HP.out]
     rw[ey]
     exact⟨HB5.out,Lib.hid (Chg.refl _ wc)⟩
  case rest=>
   obtain⟨hb6,hC6⟩:=hcut
   have hR6:=hR5.out.kept hC6.out fun k' hk' e=>by have:=HR.out.lt hk';have:=HB.out.size;omega
   have HB6:=Lib.hid hb6
   have HR6:=Lib.hid hR6
   have HC65:=Lib.hid (hC5.out.then (hC6.out.mono fun k' _ hk'=>.inr hk'))
   clear hb6 hR6 hC6 q4 q5 q6 q7 qf qc4 hstc hst2
   rename World=>Wz
   have hR6:=HR6.out
   have hb6:=HB6.out
   have d1:=hR6.c1
   rw[HM.out]at d1
   have y0:Wz.cell? ⟨w2.heap.size,0,none⟩=some (.int .i64 y.r.num):=cell_of hb6 rfl
   have y1:Wz.cell? ⟨w2.heap.size,1,none⟩=some (.bool y.r.write):=cell_of hb6 rfl
   have y2:Wz.cell? ⟨w2.heap.size,2,none⟩=some (.int .i64 y.r.page):=cell_of hb6 rfl
   have y3:Wz.cell? ⟨w2.heap.size,3,none⟩=some (.string y.data):=cell_of hb6 rfl
   have y4:Wz.cell? ⟨w2.heap.size,4,none⟩=some (.int .i64 y.r.state):=cell_of hb6 rfl
   have y5:Wz.cell? ⟨w2.heap.size,5,none⟩=some (.int .i64 y.r.tries):=cell_of hb6 rfl
   have y6:Wz.cell? ⟨w2.heap.size,6,none⟩=some (.int .i64 y.r.after):=cell_of hb6 rfl
   have y7:Wz.cell? ⟨w2.heap.size,7,none⟩=some (.bool y.r.alone):=cell_of hb6 rfl
   have y8:Wz.cell? ⟨w2.heap.size,8,none⟩=some (.bool y.r.inAir):=cell_of hb6 rfl
   have y9:Wz.cell? ⟨w2.heap.size,9,none⟩=some (.string y.answer):=cell_of hb6 rfl
   have hql6:=lt_of_heap hR6.que
   have hbl6:=lt_of_heap hb6
   clear hR6 hb6
   go_upto_region 21 with fail
   go_still_tail 7,(by kernel_rfl)
   change wpList _ _ _ _ _ Wz.drew
   obtain⟨W8,hW8⟩:∃ W8,Wz.drew=W8:=⟨_,rfl⟩
   have hR8:RB W8 q {t with disk:=St.landD t.disk fault x.r} l told fs (.slice (some ⟨g,0,none⟩) l.length rc) tv fv dv:=by rw[<-hW8];exact HR6.out.kept (Chg.drew (Chg.refl (fun _=>False) Wz)) fun _ _ z=>z
   have hc8:Chg (fun _=>False) Wz W8:=by rw[<-hW8];exact Chg.drew (Chg.refl _ _)
   rw[hW8]
   obtain⟨g2,cap2,e2,_,⟨cur,hcur,_⟩,hcell8⟩:=hR8.req HX.out
   simp only[Value.slice.injEq,Option.some.injEq,Addr.mk.injEq]at e2
   obtain⟨⟨rfl,_⟩,hdrop,rfl⟩:=e2
   clear hdrop
   have v0:W8.cell? ⟨g,k*10,none⟩=some (.int .i64 x.r.num):=hcell8 0 _ rfl
   have v1:W8.cell? ⟨g,k*10+1,none⟩=some (.bool x.r.write):=hcell8 1 _ rfl
   have v2:W8.cell? ⟨g,k*10+2,none⟩=some (.int .i64 x.r.page):=hcell8 2 _ rfl
   have v3:W8.cell? ⟨g,k*10+3,none⟩=some (.string x.data):=hcell8 3 _ rfl
   have v4:W8.cell? ⟨g,k*10+4,none⟩=some (.int .i64 x.r.state):=hcell8 4 _ rfl
   have v5:W8.cell? ⟨g,k*10+5,none⟩=some (.int .i64 x.r.tries):=hcell8 5 _ rfl
   have v6:W8.cell? ⟨g,k*10+6,none⟩=some (.int .i64 x.r.after):=hcell8 6 _ rfl
   have v7:W8.cell? ⟨g,k*10+7,none⟩=some (.bool x.r.alone):=hcell8 7 _ rfl
   have v8:W8.cell? ⟨g,k*10+8,none⟩=some (.bool x.r.inAir):=hcell8 8 _ rfl
   have v9:W8.cell? ⟨g,k*10+9,none⟩=some (.string x.answer):=hcell8 9 _ rfl
   have vf:∀ i,W8.frozen? ⟨g,i,none⟩=false:=fun i=>free_of hcur
   obtain⟨f1,f2⟩:=hR8.setX (g:=g) rfl HX.out y
   have F1:=Lib.hid f1
   have F2:=Lib.hid (((HC65.out.then (hc8.mono fun _ _ z=>z.elim)).mono fun _ _ z=>Or.inl z).then (f2.mono fun k' _ hk'=>Or.inr hk'):Chg (fun k'=>(dv.ownBlock=some k'\/k'=w2.heap.size)\/k'=g) W3 _)
   clear hR8 hcell8 hcur f1 f2 hc8 hW8 y0 y1 y2 y3 y4 y5 y6 y7 y8 y9 d1
   go_upto_region 22 with fail
   obtain⟨W9,hW9⟩:∃ W9,((((((((((W8.setCell ⟨g,k*10,none⟩ (.int .i64 y.r.num)).setCell ⟨g,k*10+1,none⟩ (.bool y.r.write)).setCell ⟨g,k*10+2,none⟩ (.int .i64 y.r.page)).setCell ⟨g,k*10+3,none⟩ (.string y.data)).setCell ⟨g,k*10+4,none⟩ (.int .i64 y.r.state)).setCell ⟨g,k*10+5,none⟩ (.int .i64 y.r.tries)).setCell ⟨g,k*10+6,none⟩ (.int .i64 y.r.after)).setCell ⟨g,k*10+7,none⟩ (.bool y.r.alone)).setCell ⟨g,k*10+8,none⟩ (.bool y.r.inAir)).setCell ⟨g,k*10+9,none⟩ (.string y.answer))=W9:=⟨_,rfl⟩
   have f1:=F1.out
   have f2:=F2.out
   rw[hW9]at f1 f2
   rw[hW9]
   have hon:=HON.out
   have hnum:∀ b,(t.land b n).depth=t.depth/\(t.land b n).cs=t.cs/\(t.land b n).head=t.head/\(t.land b n).now=t.now/\(t.land b n).last=t.last:=fun b=>⟨(land_same b n).1,(land_same b n).2.1,(land_same b n).2.2.1,(land_same b n).2.2.2.1,(land_same b n).2.2.2.2.1⟩
   have hdisk:(t.land fault n).disk=St.landD t.disk fault x.r:=by rw[<-hon];exact (land_at HS.out (H2.out.at HX.out) fault).2
   have hfoot:∀ k',k'<w.heap.size->((dv.ownBlock=some k'\/k'=w2.heap.size)\/k'=g)->RFoot q (.slice (some ⟨g,0,none⟩) l.length rc) tv fv dv fs k':=fun k' hk' hh=>by
    rcases hh with (e | e) | e
    ·exact .inr (.inr (.inr (.inr (.inl e))))
    ·have:=HB.out.size;omega
    ·exact .inr (.inl (by rw[e];rfl))
   have hch9:Chg (RFoot q (.slice (some ⟨g,0,none⟩) l.length rc) tv fv dv fs) w W9:=(chgB HB3.out _).trans (f2.mono fun k' _ hk'=>by
    by_cases hk2:k'<w.heap.size
    ·exact .inl (hfoot k' hk2 hk')
    ·exact .inr (by omega))
   have HT:=Lib.hid (isTold_r n W9 f1 htl)
   have F9:=Lib.hid f1
   have HCH9:=Lib.hid hch9
   have HNUM:=Lib.hid hnum
   have HDK:=Lib.hid hdisk
   have hxk:x.r.num∈told↔x.r.told=true:=H2.out.told.at HS.out (List.mem_of_getElem? (H2.out.at HX.out))
   rw[hon]at hxk
   have HXK:=Lib.hid hxk
   have hairs:x.r.state=1\/x.r.state=4:=HST.out
   have HAIRS:=Lib.hid hairs
   clear hW9 f1 f2 hon hnum hdisk hfoot hch9 hxk hairs v0 v1 v2 v3 v4 v5 v6 v7 v8 v9 vf
   go_wp2_with fail
   refine HT.out.mono ?_
   rintro yy w10 ⟨rfl,hB10⟩
   have hR10:=F9.out.below hB10
   have hch10:=HCH9.out.of_below hB10
   cases htold:x.r.told with
   | false=>
     rw[decide_eq_false (fun hm=>by have:=HXK.out.1 hm;rw[htold]at this;cases this)]
     have HTD:=Lib.hid htold
     have HR10:=Lib.hid hR10
     have HCH10:=Lib.hid hch10
     clear htold hR10 hch10 hB10
     go_wp2_with fail
     go_end0
     have hrel:=rrel_land H2.out HS.out HX.out HAIRS.out fault HTD.out
     rw[HON.out,HY.out]at hrel
     obtain⟨a1,a2,a3,a4,a5⟩:=HNUM.out fault
     exact⟨l.set k y,told,_,tv,rfl,HR10.out.st a1 a4 a3 a5 a2 HDK.out,hrel,fun k' hk'=>.inl hk',HCH10.out⟩
   | true=>
     rw[decide_eq_true (HXK.out.2 htold)]
     obtain⟨ta,tc,rfl⟩:=own_slice hR10.tol
     obtain⟨P,hP⟩:∃ P:Int->Bool,(fun m=>!(m == n))=P:=⟨_,rfl⟩
     obtain⟨m2,hm2⟩:∃ m2,told.length=m2:=⟨_,rfl⟩
     have htl2:m2<=1000000:=by omega
     have HTD:=Lib.hid htold
     have HR10:=Lib.hid hR10
     have HCH10:=Lib.hid hch10
     have HPP:=Lib.hid hP
     have HM2:=Lib.hid hm2
     obtain⟨i0,hi,hz0,hz1,hz2⟩:=info_parts Tryz.infoI2
     clear htold hR10 hch10 hB10 hP hm2 htl
     go_wp2_with fail
     go_loopg [11,12] m2 (fun kk out i wx=>∃ j,kk=m2 - j/\j<=m2/\i=.int .i64 j/\wx.ownsRow w10.heap.size 3 1 out ((told.take j).filter P).length (((told.take j).filter P).map fun n=>Value.int .i64 n)/\Below w10.heap.size w10 wx)
     case atStart=>exact ⟨0,by simp,by omega,rfl,by simpa using World.ownsRow_nil _ _ _ _,Below.refl _ _⟩
     case round=>
      obtain⟨j,rfl,hj,rfl,hrow,hBj⟩:=hrel
      have hRj:=HR10.out.below hBj
      have d2:=hRj.c2
      rw[HM2.out]at d2
      by_cases hlt:j<m2
      ·have hltI:(j:Int)<(m2:Int):=by omega
       have hj0:(0:Int)<=(j:Int):=by omega
       obtain⟨z,hz⟩:∃ z,told[j]?=some z:=⟨_,List.getElem?_eq_getElem (by have:=HM2.out;omega)⟩
       have hrowt:=hRj.tol
       rw[HM2.out]at hrowt
       obtain⟨gt,rfl,hgl,_,hcz⟩:=row_at hrowt (j:=j) (x:=.int .i64 z) (by rw[List.getElem?_map,hz];rfl) (by simp[HM2.out])
       have hPz:P z=!(z == n):=by rw[<-HPP.out]
       have hfl:((told.take j).filter P).length<=j:=Nat.le_trans (List.length_filter_le _ _) (by rw[List.length_take];omega)
       have HZ:=Lib.hid hz
       have HPZ:=Lib.hid hPz
       clear hRj hrowt hz hPz
       by_cases hzn:z=n
       ·subst hzn
        have HRW:=Lib.hid hrow
        clear hrow
        go_wp2_with fail
        go_roundg (m2 - (j+1))
        case measure=>omega
        case rel=>exact ⟨j+1,rfl,by omega,by go_num,by rw[take_filter_no HZ.out (by rw[HPZ.out];simp)];exact HRW.out,hBj⟩
       ·obtain⟨mm,hmm⟩:∃ mm,((told.take j).filter P).length=mm:=⟨_,rfl⟩
        rw[hmm]at hrow hfl
        have HMM:=Lib.hid hmm
        have hszj:=hBj.size
        clear hmm
        go_wp2_with (at_builtin;refine wpList_append_own _ rfl _ _ 24 rfl w10.heap.size 3 i0 (.int .i64 0) 1 8 Tryx.underlying24 hi hz0 hz1 hz2 rfl (by decide) _ _ _ rfl (hrow.alloc _) ⟨wr.heap.size,0,none⟩ 1 1 [.int .i64 z] rfl rfl (World.news_of_block (World.alloc_heap_new wr _)) (by simp[Value.oneCell']) ?_ ?_ ?_ ?_)
        ·unfold maxLen;omega
        ·omega
        ·first | omega | (simp;omega)
        intro v' w11 hown' hgrow _
        have hB11:Below w10.heap.size w10 w11:=(hBj.alloc hBj.size _).grown hgrow (by simp;omega) (fun k ek=>(hrow.lt k ek).1)
        have HO:=Lib.hid hown'
        clear hown' hgrow hrow
        go_wp2
        go_roundg (m2 - (j+1))
        case measure=>omega
        case rel=>exact ⟨j+1,rfl,by omega,by go_num,by rw[take_filter_yes HZ.out (by rw[HPZ.out];simp[hzn]),List.length_append,List.map_append,HMM.out];exact HO.out,hB11⟩
      ·obtain rfl:j=m2:=by omega
       have hall:told.take j=told:=List.take_of_length_le (by have:=HM2.out;omega)
       rw[hall]at hrow
       obtain⟨oa,oc,rfl⟩:=own_slice hrow
       obtain⟨Wb,rfl⟩:∃ z,z=wr:=⟨_,rfl⟩
       have hf:=hRj.free
       obtain⟨hset,hchs,hfts⟩:=HR10.out.setT (chgB hBj _) (ownsRow_lowS hrow (Nat.zero_le _)) fun k' hk'=>.inr (hrow.lt k' hk').1
       have hyk:(l.set k y)[k]?=some y:=by
        have:=(List.getElem?_eq_some_iff.1 HX.out).1
        rw[List.getElem?_set,if_pos rfl,if_pos this]
       have hya:y.r.inAir=false:=by rw[<-HY.out];exact (landR_num t.now t.disk fault x.r).2.2.2.1
       have HD:=Lib.hid (drop_out k y _ hset (by rw[List.length_set];exact hl) hyk hya)
       have HS2:=Lib.hid hset
       have HC2:=Lib.hid hchs
       have HF2:=Lib.hid hfts
       clear hRj hrow hall hset hchs hfts hyk hya
       go_wp2_with fail
       refine HD.out.mono ?_
       rintro yy w12 ⟨rv',rfl,hR12,hF12,hC12⟩
       have HL:=Lib.hid (And.intro hR12 (And.intro hF12 hC12))
       clear hR12 hF12 hC12
       go_wp2_with fail
       go_end0
       obtain⟨hR12,hF12,hC12⟩:=HL.out
       have hrel:=rrel_land_told H2.out HS.out HX.out fault HTD.out
       rw[HON.out,HPP.out]at hrel
       obtain⟨a1,a2,a3,a4,a5⟩:=HNUM.out fault
       rw[erase_setX]at hR12
       refine⟨l.eraseIdx k,told.filter P,rv',_,rfl,hR12.st a1 a4 a3 a5 a2 HDK.out,hrel,fun k' hk'=>?_,?_⟩
       ·rcases hF12 k' hk' with e | e
        ·rcases HF2.out k' e with e | e
         ·exact .inl e
         ·exact .inr (Nat.le_trans HCH10.out.size e)
        ·refine .inr (Nat.le_trans HCH10.out.size (Nat.le_trans HC2.out.size e))
       ·refine (HCH10.out.then (HC2.out.mono fun k' _ hk'=>hk'.elim (fun e=>.inl e) fun e=>.inr (.inr (.inl e)))).trans (hC12.mono fun k' _ hk'=>?_)
        rcases HF2.out k' hk' with e | e
        ·exact .inl e
        ·exact .inr (Nat.le_trans HCH10.out.size e)
end
section
def St.dnext(f:Nat->Bool)(n:Nat)(t:St):Option (Nat×St):=
 match t.cmd with
 | some c=>some (n,t.sent c)
 | none=>
   match t.cs with
   | _ :: _=>(t.complete 0 (f n)).map fun t'=>(n+1,t')
   | []=>if t.waiting=[]then none else some (n,t.tick)
def mR(now:Int)(r:Req):Nat:=if r.inAir then (4 - r.tries).toNat*20+9 else if r.state=0 then (4 - r.tries).toNat*20+10+(r.after - now).toNat else 0
def St.mu(t:St):Nat:=(t.rs.map (mR t.now)).sum
theorem sum_map_le(g h:Req->Nat):∀ (l:List Req),(∀ r∈l,g r<=h r)->(l.map g).sum<=(l.map h).sum
 | [],_=>Nat.le_refl _
 | r :: l,hl=>by
   have h1:=hl r (by simp)
   have h2:=sum_map_le g h l fun x hx=>hl x (by simp[hx])
   simp only[List.map_cons,List.sum_cons];omega
theorem sum_map_lt(g h:Req->Nat):∀ (l:List Req),(∀ r∈l,g r<=h r)->(∃ r∈l,g r<h r)->(l.map g).sum<(l.map h).sum
 | [],_,⟨r,hr,_⟩=>by cases hr
 | r :: l,hl,⟨x,hx,hlt⟩=>by
   have h1:=hl r (by simp)
   have h2:=sum_map_le g h l fun x hx=>hl x (by simp[hx])
   simp only[List.map_cons,List.sum_cons]
   rcases List.mem_cons.1 hx with rfl | hx
   ·omega
   ·have h3:=sum_map_lt g h l (fun x hx=>hl x (by simp[hx])) ⟨x,hx,hlt⟩
    omega
theorem sum_filter_le(g:Req->Nat)(p:Req->Bool):∀ (l:List Req),((l.filter p).map g).sum<=(l.map g).sum
 | []=>Nat.le_refl _
 | r :: l=>by
   have h:=sum_filter_le g p l
   rw[List.filter_cons]
   split
   ·simp only[List.map_cons,List.sum_cons];omega
   ·simp only[List.map_cons,List.sum_cons];omega
theorem sum_le_mul(g:Req->Nat)(b:Nat):∀ (l:List Req),(∀ r∈l,g r<=b)->(l.map g).sum<=l.length*b
 | [],_=>by simp
 | r :: l,hl=>by
   have h1:=hl r (by simp)
   have h2:=sum_le_mul g b l fun x hx=>hl x (by simp[hx])
   simp only[List.map_cons,List.sum_cons,List.length_cons,Nat.add_mul];omega
theorem mu_le{t:St}(h:t.Ok)(hs:t.Soon):t.mu<=t.rs.length*98:=by
 refine sum_le_mul _ _ _ fun r hr=>?_
 have h1:=(h.a.rs.ok r hr).tries
 have h2:=hs r hr
 unfold mR
 split
 ·omega
 ·split <;> omega
theorem sent_mu{t:St}(h:t.Ok){c:Cmd}(hc:t.cmd=some c):(t.sent c).mu<t.mu:=by
 obtain⟨hlt,f,l,hsel,hw,hn⟩:=cmd_some h.a.head hc
 have hs:=h.a.rs.nums
 have hin:∀ r∈t.rs,r.num∈c.nums->mR t.now (sentR r)<mR t.now r:=fun r hr hm=>by
  rw[hn]at hm
  have hx:=hsel.numsIn hs hr hm
  obtain⟨h1,h2,h3,h4⟩:=mem_readyR (hsel.mem r hx).1
  have hk:=h.a.rs.ok r hr
  have hair:r.inAir=false:=by
   cases ha:r.inAir with
   | false=>rfl
   | true=>have:=hk.air ha;omega
  have h5:=hk.tries
  unfold mR sentR
  simp only[hair,h2,if_true,Bool.false_eq_true,if_false]
  omega
 show (((t.rs.map fun r=>if r.num∈c.nums then sentR r else r)).map (mR t.now)).sum<(t.rs.map (mR t.now)).sum
 rw[List.map_map]
 refine sum_map_lt _ _ _ (fun r hr=>?_) ?_
 ·simp only[Function.comp]
  split
  ·rename_i hm;exact Nat.le_of_lt (hin r hr hm)
  ·exact Nat.le_refl _
 ·have hfm:f∈f :: l:=by simp
  have hfr:=(mem_readyR (hsel.mem f hfm).1).1
  have hfn:f.num∈c.nums:=by rw[hn];simp
  refine⟨f,hfr,?_⟩
  simp only[Function.comp,if_pos hfn]
  exact hin f hfr hfn
theorem landR_mu{r:Req}(hk:ROk r)(ha:r.inAir=true)(now:Int)(disk:List Int)(fault:Bool):mR now (St.landR now disk fault r)<mR now r:=by
 have h1:=hk.try3 (by simp[Req.live,ha])
 have h2:=hk.tries
 have h3:=hk.air ha
 have hm:mR now r=(4 - r.tries).toNat*20+9:=by unfold mR;rw[if_pos ha]
 have hf:=(landR_num now disk fault r).2.2.2.1
 rw[hm]
 unfold mR
 rw[hf]
 simp only[Bool.false_eq_true,if_false]
 unfold St.landR
 simp only
 split
 ·split
  ·simp only[show ¬((2:Int)=0) by decide,if_false];omega
  ·split
   ·simp only[show ¬((3:Int)=0) by decide,if_false];omega
   ·simp only[if_true];omega
 ·simp only
  have:¬r.state=0:=by omega
  rw[if_neg this];omega
theorem land_mu{t:St}{n:Int}{air:List Int}(h:t.OkA (n :: air))(fault:Bool):(t.land fault n).mu<t.mu:=by
 obtain⟨r,hr,hn,ha⟩:=h.rs.fly n (by simp)
 subst hn
 have hf:=find_num h.rs.nums hr
 unfold St.land
 rw[hf]
 show ((((t.rs.map fun x=>if x.num=r.num then St.landR t.now t.disk fault x else x).filter _)).map (mR t.now)).sum<(t.rs.map (mR t.now)).sum
 refine Nat.lt_of_le_of_lt (sum_filter_le _ _ _) ?_
 rw[List.map_map]
 have hlt:=landR_mu (h.rs.ok r hr) ha t.now t.disk fault
 refine sum_map_lt _ _ _ (fun x hx=>?_) ⟨r,hr,by simp only[Function.comp,if_true];exact hlt⟩
 simp only[Function.comp]
 split
 ·rename_i hh
  obtain rfl:=rnum_inj h.rs.nums hx hr hh
  exact Nat.le_of_lt hlt
 ·exact Nat.le_refl _
theorem lands_mu(fault:Bool):∀ (ns:List Int) (t:St) (air:List Int),t.OkA (ns ++ air)->(ns.foldl (St.land fault) t).mu<=t.mu/\(ns≠[]->(ns.foldl (St.land fault) t).mu<t.mu)
 | [],_,_,_=>⟨Nat.le_refl _,fun h=>absurd rfl h⟩
 | n :: ns,t,air,h=>by
   have h1:=land_mu (t:=t) (n:=n) (air:=ns ++ air) h fault
   have h2:=(lands_mu fault ns (t.land fault n) air (okA_land h fault)).1
   simp only[List.foldl_cons]
   exact⟨by omega,fun _=>by omega⟩
theorem okA_cut{t:St}(h:t.Ok){k:Nat}{c:Cmd}(hck:t.cs[k]?=some c):({t with cs:=t.cs.eraseIdx k}:St).OkA (c.nums ++ ((t.cs.eraseIdx k).flatMap (·.nums))):=by
 obtain⟨hl,e⟩:=List.getElem?_eq_some_iff.1 hck
 have hp:(t.cs.flatMap (·.nums)).Perm (c.nums ++ (t.cs.eraseIdx k).flatMap (·.nums)):=by
  have:=(perm_erase hl e).flatMap_right (·.nums)
  simpa using this
 refine⟨h.a.depth,h.a.head,h.a.dlen,h.a.dbyte,h.a.last,h.a.now,⟨h.a.rs.nums,h.a.rs.num,h.a.rs.ok,hp.nodup h.a.rs.nodup,fun n hn=>h.a.rs.fly n (hp.mem_iff.2 hn),fun r hr ha=>hp.mem_iff.1 (h.a.rs.airs r hr ha),h.a.rs.free⟩,h.a.held,h.a.h40,h.a.soon⟩
theorem complete_mu{t t':St}(h:t.Ok){k:Nat}{fault:Bool}(hc:t.complete k fault=some t'):t'.mu<t.mu:=by
 unfold St.complete at hc
 cases hk:t.cs[k]? with
 | none=>rw [hk]at hc;cases hc
 | some c=>
   rw[hk]at hc
   simp only[Option.some.injEq]at hc
   subst hc
   have hok:=h.cmds c (List.mem_of_getElem? hk)
   have:=(lands_mu fault c.nums _ _ (okA_cut h hk)).2 (fun e=>by have:=hok.len;have:=hok.count;rw[e]at *;simp at *;omega)
   exact this
theorem waiting_min:∀ (l:List Req),(l.filter fun r=>r.state == 0)≠[]->l.Pairwise (·.num < ·.num)->∃ r∈l,r.state=0/\∀ o∈l,o.state=0->r.num<=o.num
 | [],h,_=>absurd rfl h
 | r :: l,h,hs=>by
   rw[List.pairwise_cons]at hs
   by_cases h0:r.state=0
   ·refine⟨r,by simp,h0,fun o ho _=>?_⟩
    rcases List.mem_cons.1 ho with rfl | ho
    ·exact Int.le_refl _
    ·have:=hs.1 o ho;omega
   ·rw[List.filter_cons_of_neg (by simpa using h0)]at h
    obtain⟨x,h1,h2,h3⟩:=waiting_min l h hs.2
    refine⟨x,by simp[h1],h2,fun o ho hz=>?_⟩
    rcases List.mem_cons.1 ho with rfl | ho
    ·exact absurd hz h0
    ·exact h3 o ho hz
theorem idle_later{t:St}(h:t.Ok)(hc:t.cmd=none)(hcs:t.cs=[])(hw:t.waiting≠[]):∃ r∈t.rs,r.state=0/\r.inAir=false/\t.now<r.after:=by
 have hne:(t.rs.filter fun r=>r.state == 0)≠[]:=fun e=>hw (by unfold St.waiting;rw[e];rfl)
 obtain⟨r,hr,h0,hmin⟩:=waiting_min t.rs hne h.a.rs.nums
 have hair:∀ o∈t.rs,o.inAir=false:=fun o ho=>by
  cases ha:o.inAir with
  | false=>rfl
  | true=>
    have:=h.a.rs.airs o ho ha
    rw[hcs]at this
    simp at this
 refine⟨r,hr,h0,hair r hr,?_⟩
 rcases cmd_none h.a.head hc with hd | hp
 ·have:=h.a.depth
  rw[hcs]at hd
  simp at hd;omega
 ·have hpg:=(h.a.rs.ok r hr).page
  refine Int.not_le.1 fun hle=>?_
  have hmem:=ready_mem (now:=t.now) hr hpg h0 hle fun o ho=>by
   cases hb:o.blocks r with
   | false=>rfl
   | true=>
     have hl:=blocks_live hb
     have ho0:o.state=0:=by simpa[Req.live,hair o ho]using hl
     have:=hmin o ho ho0
     unfold Req.blocks at hb
     simp only[Bool.and_eq_true,decide_eq_true_eq]at hb
     omega
  have:=hp r.page.toNat (by omega)
  have hin:r∈pageR (readyR t.now t.rs) r.page.toNat:=List.mem_filter.2 ⟨hmem,by simp;omega⟩
  rw[this]at hin
  cases hin
theorem tick_mu{t:St}(h:t.Ok)(hc:t.cmd=none)(hcs:t.cs=[])(hw:t.waiting≠[]):t.tick.mu<t.mu:=by
 obtain⟨r,hr,h0,ha,hlt⟩:=idle_later h hc hcs hw
 show (t.rs.map (mR (t.now+1))).sum<(t.rs.map (mR t.now)).sum
 refine sum_map_lt _ _ _ (fun x _=>?_) ⟨r,hr,?_⟩
 ·unfold mR
  split
  ·exact Nat.le_refl _
  ·split
   ·omega
   ·exact Nat.le_refl _
 ·unfold mR
  rw[if_neg (by rw[ha];simp),if_pos h0,if_neg (by rw[ha];simp),if_pos h0]
  omega
theorem dnext_cases{f:Nat->Bool}{n:Nat}{t:St}{n':Nat}{t':St}(h:t.dnext f n=some (n',t')):
  (∃ c,t.cmd=some c/\n'=n/\t'=t.sent c)\/(t.cmd=none/\0<t.cs.length/\n'=n+1/\t.complete 0 (f n)=some t')\/(t.cmd=none/\t.cs=[]/\t.waiting≠[]/\n'=n/\t'=t.tick):=by
 unfold St.dnext at h
 cases hc:t.cmd with
 | some c=>
   rw[hc]at h
   simp only[Option.some.injEq,Prod.mk.injEq]at h
   exact .inl ⟨c,rfl,h.1.symm,h.2.symm⟩
 | none=>
   rw[hc]at h
   cases hcs:t.cs with
   | cons c l=>
     rw[hcs]at h
     simp only[Option.map_eq_some_iff,Prod.mk.injEq]at h
     obtain⟨x,h1,h2,h3⟩:=h
     subst h3
     exact .inr (.inl ⟨rfl,by simp,h2.symm,h1⟩)
   | nil=>
     rw[hcs]at h
     simp only at h
     split at h
     ·cases h
     ·rename_i hw
      simp only[Option.some.injEq,Prod.mk.injEq]at h
      exact .inr (.inr ⟨rfl,rfl,hw,h.1.symm,h.2.symm⟩)
theorem dnext_none{f:Nat->Bool}{n:Nat}{t:St}(h:t.dnext f n=none):t.cmd=none/\t.cs=[]/\t.waiting=[]:=by
 unfold St.dnext at h
 cases hc:t.cmd with
 | some c=>rw [hc]at h;cases h
 | none=>
   rw[hc]at h
   cases hcs:t.cs with
   | cons c l=>
     rw[hcs]at h
     simp[St.complete,hcs]at h
   | nil=>
     rw[hcs]at h
     simp only at h
     split at h
     ·rename_i hw;exact⟨rfl,rfl,hw⟩
     ·cases h
structure DStep(n:Nat)(t:St)(n':Nat)(t':St):Prop where
 ok:t'.Ok
 soon:t'.Soon
 mu:t'.mu<t.mu
 last:t'.last=t.last
 depth:t'.depth=t.depth
 held:t'.held=t.held
 now:t.now<=t'.now/\t'.now<=t.now+1
 cnt:n<=n'/\n'<=n+1
theorem dnext_step{f:Nat->Bool}{n:Nat}{t:St}{n':Nat}{t':St}(hk:t.Ok)(hs:t.Soon)(h:t.dnext f n=some (n',t')):DStep n t n' t':=by
 rcases dnext_cases h with ⟨c,hc,rfl,rfl⟩ |⟨hc,hcs,rfl,hco⟩ |⟨hc,hcs,hw,rfl,rfl⟩
 ·exact⟨ok_sent hk hc,sent_soon hs c,sent_mu hk hc,rfl,rfl,rfl,⟨Int.le_refl _,by show t.now<=t.now+1;omega⟩,by omega⟩
 ·obtain⟨a1,a2,a3⟩:=complete_same hco
  refine⟨ok_complete hk hco,complete_soon hs hco,complete_mu hk hco,a1,?_,a3,by omega,by omega⟩
  unfold St.complete at hco
  split at hco
  ·cases hco
  ·simp only[Option.some.injEq]at hco
   rw[<-hco]
   exact (lands_same (f n) _ _).1
 ·exact⟨ok_tick hk,tick_soon hs,tick_mu hk hc hcs hw,rfl,rfl,rfl,by simp only[St.tick];omega,by omega⟩
def St.driveN(f:Nat->Bool):Nat->Nat->St->Nat×St
 | 0,n,t=>(n,t)
 | k+1,n,t=>match t.dnext f n with
   | none=>(n,t)
   | some (n',t')=>St.driveN f k n' t'
theorem driveN_more{f:Nat->Bool}:∀ (k:Nat) (n:Nat) (t:St),t.Ok->t.Soon->t.mu<k->∀ j,k<=j->St.driveN f j n t=St.driveN f k n t
 | 0,_,_,_,_,h,_,_=>absurd h (Nat.not_lt_zero _)
 | k+1,n,t,hk,hs,h,j,hj=>by
   cases j with
   | zero=>omega
   | succ j=>
     unfold St.driveN
     cases hd:t.dnext f n with
     | none=>rfl
     | some x=>
       obtain⟨n',t'⟩:=x
       have hst:=dnext_step hk hs hd
       simp only
       have:=hst.mu
       exact driveN_more k n' t' hst.ok hst.soon (by omega) j (by omega)
def St.drive(f:Nat->Bool)(n:Nat)(t:St):Nat×St:=St.driveN f (t.mu+1) n t
theorem drive_end{f:Nat->Bool}{n:Nat}{t:St}(h:t.dnext f n=none):t.drive f n=(n,t):=by
 unfold St.drive St.driveN
 rw[h]
theorem drive_step{f:Nat->Bool}{n:Nat}{t:St}{n':Nat}{t':St}(hk:t.Ok)(hs:t.Soon)(h:t.dnext f n=some (n',t')):t.drive f n=t'.drive f n':=by
 have hst:=dnext_step hk hs h
 have:=hst.mu
 unfold St.drive
 conv=>lhs;unfold St.driveN
 rw[h]
 simp only
 exact driveN_more (t'.mu+1) n' t' hst.ok hst.soon (by omega) t.mu (by omega)
theorem drive_ind(P:Nat->St->Prop){f:Nat->Bool}(hP:∀ n t n' t',t.Ok->t.Soon->t.dnext f n=some (n',t')->P n t->P n' t'):∀ (k:Nat) (n:Nat) (t:St),t.mu<k->t.Ok->t.Soon->P n t->P (t.drive f n).1 (t.drive f n).2/\(t.drive f n).2.dnext f (t.drive f n).1=none/\(t.drive f n).2.Ok/\(t.drive f n).2.Soon
 | 0,_,_,h,_,_,_=>absurd h (Nat.not_lt_zero _)
 | k+1,n,t,h,hk,hs,hp=>by
   cases hd:t.dnext f n with
   | none=>rw [drive_end hd];exact⟨hp,hd,hk,hs⟩
   | some x=>
     obtain⟨n',t'⟩:=x
     have hst:=dnext_step hk hs hd
     have:=hst.mu
     rw[drive_step hk hs hd]
     exact drive_ind P hP k n' t' (by omega) hst.ok hst.soon (hP n t n' t' hk hs hd hp)
structure DriveEnd(t t':St):Prop where
 ok:t'.Ok
 soon:t'.Soon
 cmd:t'.cmd=none
 cs:t'.cs=[]
 waiting:t'.waiting=[]
 last:t'.last=t.last
 depth:t'.depth=t.depth
 held:t'.held=t.held
 now:t.now<=t'.now/\t'.now<=t.now+t.mu
theorem drive_spec{f:Nat->Bool}{n:Nat}{t:St}(hk:t.Ok)(hs:t.Soon):DriveEnd t (t.drive f n).2/\n<=(t.drive f n).1/\(t.drive f n).1<=n+t.mu:=by
 obtain⟨⟨h1,h2,h3,h4,h5,h6,h7⟩,hd,hok,hso⟩:=drive_ind (f:=f) (fun n' t'=>t'.last=t.last/\t'.depth=t.depth/\t'.held=t.held/\t.now<=t'.now/\t'.now+t'.mu<=t.now+t.mu/\n<=n'/\n'+t'.mu<=n+t.mu)
  (fun n1 t1 n2 t2 hk1 hs1 hd ⟨a1,a2,a3,a4,a5,a6,a7⟩=>by
    have hst:=dnext_step hk1 hs1 hd
    have b1:=hst.last;have b2:=hst.depth;have b3:=hst.held;have b4:=hst.now;have b5:=hst.cnt;have b6:=hst.mu
    refine⟨by omega,by omega,by omega,by omega,by omega,by omega,by omega⟩)
  (t.mu+1) n t (by omega) hk hs ⟨rfl,rfl,rfl,Int.le_refl _,Int.le_refl _,Nat.le_refl _,Nat.le_refl _⟩
 obtain⟨e1,e2,e3⟩:=dnext_none hd
 exact⟨⟨hok,hso,e1,e2,e3,h1,h2,h3,by omega⟩,h6,by omega⟩
end
section
open Go.RowKit Go.Shelf Go.Lib
set_option maxRecDepth 100000
set_option maxHeartbeats 8000000
theorem complete_no_r(w:World){q:Nat}{t:St}{G:Nat->Prop}(h:RT w q t G)(k:Int)(fault:Bool)(hk:k<0\/(t.cs.length:Int)<=k):
  Calls Tryx.prog 55 #[ptr q,.int .i64 k,.bool fault] w fun y w'=>y=.returned (.bool false)/\w=w':=by
 obtain⟨l,told,fs,rv,tv,fv,dv,h1,h2,h3⟩:=h
 obtain⟨fa,fc,rfl⟩:=own_slice h1.fls.row
 have c3:=h1.c3
 have hfl:fs.length=t.cs.length:=by rw[<-h1.fcs,List.length_map]
 obtain⟨nf,hnf⟩:∃ nf,fs.length=nf:=⟨_,rfl⟩
 rw[hnf]at c3 hfl
 clear h1 h2 h3 hnf
 by_cases h0:k<0
 ·go_enter Tryx.func55,Tryz.ntmps55
  go_wp2_with fail
  go_ret
  exact⟨rfl,rfl⟩
 ·have h4:k>=(nf:Int):=by omega
  go_enter Tryx.func55,Tryz.ntmps55
  go_wp2_with fail
  go_ret
  exact⟨rfl,rfl⟩
theorem foldl_take_succ{α β:Type}(f:β->α->β)(b:β){l:List α}{j:Nat}{a:α}(h:l[j]?=some a):(l.take (j+1)).foldl f b=f ((l.take j).foldl f b) a:=by
 obtain⟨hl,e⟩:=List.getElem?_eq_some_iff.1 h
 rw[List.take_succ_eq_append_getElem hl,List.foldl_append,e];rfl
theorem okA_take{t:St}(fault:Bool){ns air:List Int}(h:t.OkA (ns ++ air)){j:Nat}{n:Int}(hj:ns[j]?=some n):∃ air',((ns.take j).foldl (St.land fault) t).OkA (n :: air'):=by
 obtain⟨hl,e⟩:=List.getElem?_eq_some_iff.1 hj
 have:ns ++ air=ns.take j ++ (n :: (ns.drop (j+1) ++ air)):=by
  conv=>lhs;rw[<-List.take_append_drop j ns,List.drop_eq_getElem_cons hl,e]
  simp
 rw[this]at h
 exact⟨_,okA_lands fault _ _ _ h⟩
theorem rlen_okA{t:St}{air:List Int}(h:t.OkA air){l:List RR}{told:List Int}(h2:RRel l told t)(hl:t.last<900000):l.length<=1000000/\told.length<=1000000:=by
 have h1:=nums_len (last:=t.last) 0 h.rs.nums (fun r hr=>by have:=h.rs.num r hr;omega) h.last
 have h3:=h2.len
 have h4:=h2.told.len h.rs.nums
 have h5:=List.length_filter_le (fun r:Req=>r.told) t.rs
 omega
theorem erase_pairwise{α:Type}{R:α->α->Prop}{l:List α}(h:l.Pairwise R)(k:Nat):(l.eraseIdx k).Pairwise R:=h.sublist (List.eraseIdx_sublist l k)
theorem erase_apart{l:List (Cmd×Value)}(h:l.Pairwise fun a b=>∀ k,a.2.ownBlock=some k->b.2.ownBlock≠some k){k:Nat}{c:Cmd×Value}(hk:l[k]?=some c):∀ x∈l.eraseIdx k,∀ g,c.2.ownBlock=some g->x.2.ownBlock≠some g:=by
 obtain⟨hl,e⟩:=List.getElem?_eq_some_iff.1 hk
 rw[<-List.take_append_drop k l,List.drop_eq_getElem_cons hl,e,List.pairwise_append,List.pairwise_cons]at h
 intro x hx g hg
 rw[List.eraseIdx_eq_take_drop_succ]at hx
 rcases List.mem_append.1 hx with hx | hx
 ·exact fun hg2=>h.2.2 x hx c (by simp) g hg2 hg
 ·exact h.2.1.1 x hx g hg
theorem complete_r(w:World){q:Nat}{t:St}{G:Nat->Prop}(h:RT w q t G)(hk:t.Ok)(hsm:t.Small)(k:Nat)(fault:Bool)(t':St)(hc:t.complete k fault=some t'):
  Calls Tryx.prog 55 #[ptr q,.int .i64 k,.bool fault] w fun y w'=>∃ G',y=.returned (.bool true)/\RT w' q t' G'/\(∀ k,G' k->G k\/w.heap.size<=k)/\Chg G w w':=by
 obtain⟨l,told,fs,rv,tv,fv,dv,h1,h2,h3⟩:=h
 have hcs:∃ c cv,t.cs[k]?=some c/\fs[k]?=some (c,cv)/\t'=c.nums.foldl (St.land fault) {t with cs:=t.cs.eraseIdx k}:=by
  unfold St.complete at hc
  cases hck:t.cs[k]? with
  | none=>rw [hck]at hc;cases hc
  | some c=>
    rw[hck]at hc
    simp only[Option.some.injEq]at hc
    rw[<-h1.fcs,List.getElem?_map]at hck
    obtain⟨⟨c',cv⟩,e1,e2⟩:=Option.map_eq_some_iff.1 hck
    obtain rfl:c'=c:=e2
    exact⟨c',cv,rfl,e1,hc.symm⟩
 obtain⟨c,cv,hck,hfk,rfl⟩:=hcs
 clear hc
 have hokA:=okA_cut hk hck
 obtain⟨t1,ht1⟩:∃ t1:St,{t with cs:=t.cs.eraseIdx k}=t1:=⟨_,rfl⟩
 have hla:=hsm.last
 have hnw:=hsm.now
 have hcl:t.cs.length<=4:=by have:=hk.len;have:=hk.a.depth;omega
 have hfl:fs.length=t.cs.length:=by rw[<-h1.fcs,List.length_map]
 have hr2:RRel l told t1:=rrel_same h2 (by rw[<-ht1])
 rw[ht1]at hokA ⊢
 have hcv:w.ownsRow 0 3 1 cv c.nums.length (c.nums.map fun n=>Value.int .i64 n):=h1.fls.rows _ (List.mem_of_getElem? hfk)
 obtain⟨N,hN⟩:∃ N,c.nums.length=N:=⟨_,rfl⟩
 have hN6:N<=1000000:=by
  have hnd:c.nums.Nodup:=by
   have:=hokA.rs.nodup
   rw[List.nodup_append]at this
   exact this.1
  have h5:(c.nums.length:Nat)<=(t1.rs.map (·.num)).length:=len_sub c.nums hnd _ fun a ha=>by
   obtain⟨r,hr,hrn,_⟩:=hokA.rs.fly a (by simp[ha])
   rw[<-hrn]
   exact List.mem_map_of_mem hr
  rw[List.length_map,<-hr2.len]at h5
  have:=rlen_okA hokA hr2 (by rw[<-ht1];exact hla)
  omega
 obtain⟨nf,hnf⟩:∃ nf,fs.length=nf:=⟨_,rfl⟩
 have hkf:k<nf:=by have:=(List.getElem?_eq_some_iff.1 hfk).1;omega
 have hnf4:nf<=4:=by omega
 have hkI:(k:Int)<(nf:Int):=by omega
 have hk0:(0:Int)<=(k:Int):=by omega
 have hkn:¬(k:Int)<0:=by omega
 have hkg:¬(k:Int)>=(nf:Int):=by omega
 obtain⟨fa,fc,rfl⟩:=own_slice h1.fls.row
 obtain⟨gf,capf,ef,_,hglf,hcellf⟩:=cmd_cells h1.fls.row hfk
 obtain⟨va,vc,rfl⟩:=own_slice hcv
 simp only[Value.slice.injEq]at ef
 obtain⟨rfl,hdrop,rfl⟩:=ef
 clear hdrop
 have c3:=h1.c3
 rw[hnf]at c3
 have a0:w.cell? ⟨gf,k*4,none⟩=some (.bool c.write):=hcellf 0 _ rfl
 have a1:w.cell? ⟨gf,k*4+1,none⟩=some (.int .i64 c.page):=hcellf 1 _ rfl
 have a2:w.cell? ⟨gf,k*4+2,none⟩=some (.int .i64 c.count):=hcellf 2 _ rfl
 have a3:w.cell? ⟨gf,k*4+3,none⟩=some (.slice va c.nums.length vc):=hcellf 3 _ rfl
 rw[hN]at a3 hcv
 have hql:=lt_of_heap h1.que
 obtain⟨W2,hW2⟩:∃ W2,w.alloc (.cells #[.bool c.write,.int .i64 c.page,.int .i64 c.count,.slice va N vc] 48)=W2:=⟨_,rfl⟩
 have hcb:W2.heap[w.heap.size]?=some (.cells #[.bool c.write,.int .i64 c.page,.int .i64 c.count,.slice va N vc] 48 (0,0)):=by rw[<-hW2];exact World.alloc_heap_new _ _
 have hb2:Below w.heap.size w W2:=by rw[<-hW2];exact (Below.refl _ _).alloc (Nat.le_refl _) _
 have HR:=Lib.hid h1
 have H2:=Lib.hid hr2
 have H3:=Lib.hid h3
 have HOK:=Lib.hid hokA
 have HT1:=Lib.hid ht1
 have HFK:=Lib.hid hfk
 have HCV:=Lib.hid hcv
 have HNL:=Lib.hid hN
 have HNF:=Lib.hid hnf
 have HW2:=Lib.hid hW2
 have HCB:=Lib.hid hcb
 have HB2:=Lib.hid hb2
 have HCK:=Lib.hid hck
 obtain⟨i4,hi4,hz40,hz41,hz42⟩:=info_parts Tryz.infoC
 clear h1 h2 h3 hk hsm hck hfk hokA ht1 hr2 hcv hN hnf hfl hcl hW2 hcb hb2 hcellf
 go_enter Tryx.func55,Tryz.ntmps55
 go_wp2_with fail
 rw[HW2.out]
 go_loopg [8,9] nf (fun kk out i wx=>∃ j,kk=nf - j/\j<=nf/\i=.int .i64 j/\wx.ownsRow W2.heap.size 48 4 out ((fs.take j).eraseIdx k).length (((fs.take j).eraseIdx k).flatMap cmdCells)/\Below W2.heap.size W2 wx)
 case atStart=>exact ⟨0,by simp,by omega,rfl,by simpa using World.ownsRow_nil _ _ _ _,Below.refl _ _⟩
 case round=>
  obtain⟨j,rfl,hj,rfl,hrow,hBj⟩:=hrel
  have hBw:=HB2.out.trans (hBj.mono HB2.out.size)
  have hR:=HR.out.below hBw
  have d3:=hR.c3
  rw[HNF.out]at d3
  by_cases hlt:j<nf
  ·have hltI:(j:Int)<(nf:Int):=by omega
   have hj0:(0:Int)<=(j:Int):=by omega
   by_cases hjk:j=k
   ·subst hjk
    have HRW:=Lib.hid hrow
    clear hR hrow
    go_wp2_with fail
    go_roundg (nf - (j+1))
    case measure=>omega
    case rel=>exact ⟨j+1,rfl,by omega,by go_num,by rw[erase_take_eq];exact HRW.out,hBj⟩
   ·have hjkI:¬(j:Int)=(k:Int):=by omega
    obtain⟨⟨y,yv⟩,hy⟩:∃ y,fs[j]?=some y:=⟨_,List.getElem?_eq_getElem (by have:=HNF.out;omega)⟩
    have hyv:wr.ownsRow 0 3 1 yv y.nums.length (y.nums.map fun n=>Value.int .i64 n):=hR.fls.rows _ (List.mem_of_getElem? hy)
    obtain⟨ya,yc,rfl⟩:=own_slice hyv
    obtain⟨g2,cap2,e2,_,_,hcell⟩:=cmd_cells hR.fls.row hy
    simp only[Value.slice.injEq,Option.some.injEq,Addr.mk.injEq]at e2
    obtain⟨⟨rfl,_⟩,hdrop,rfl⟩:=e2
    clear hdrop
    obtain⟨Ny,hNy⟩:∃ Ny,y.nums.length=Ny:=⟨_,rfl⟩
    have p0:wr.cell? ⟨gf,j*4,none⟩=some (.bool y.write):=hcell 0 _ rfl
    have p1:wr.cell? ⟨gf,j*4+1,none⟩=some (.int .i64 y.page):=hcell 1 _ rfl
    have p2:wr.cell? ⟨gf,j*4+2,none⟩=some (.int .i64 y.count):=hcell 2 _ rfl
    have p3:wr.cell? ⟨gf,j*4+3,none⟩=some (.slice ya y.nums.length yc):=hcell 3 _ rfl
    rw[hNy]at p3
    have hel:=erase_take_len fs k j
    obtain⟨mm,hmm⟩:∃ mm,((fs.take j).eraseIdx k).length=mm:=⟨_,rfl⟩
    rw[hmm]at hrow hel
    have HMM:=Lib.hid hmm
    have HY:=Lib.hid hy
    have HNY:=Lib.hid hNy
    have hsz:=hBj.size
    clear hR hcell hmm hy hyv hNy
    go_wp2_with (at_builtin;refine wpList_append_own _ rfl _ _ 55 rfl W2.heap.size 48 i4 _ 4 48 Tryx.underlying55 hi4 hz40 hz41 hz42 rfl (by decide) _ _ _ rfl (hrow.alloc _) ⟨wr.heap.size,0,none⟩ 1 1 [.bool y.write,.int .i64 y.page,.int .i64 y.count,.slice ya Ny yc] rfl rfl (World.news_of_block (World.alloc_heap_new wr _)) (by simp[Value.oneCell']) ?_ ?_ ?_ ?_)
    ·unfold maxLen;omega
    ·omega
    ·first | omega | (simp;omega)
    intro v' w3 hown' hgrow _
    have hB3:Below W2.heap.size W2 w3:=(hBj.alloc hBj.size _).grown hgrow (by simp;omega) (fun k ek=>(hrow.lt k ek).1)
    have HO:=Lib.hid hown'
    clear hown' hgrow hrow
    go_wp2
    go_roundg (nf - (j+1))
    case measure=>omega
    case rel=>exact ⟨j+1,rfl,by omega,by go_num,by rw[erase_take_ne HY.out hjk,List.length_append,List.flatMap_append,HMM.out];have:=HO.out;rw[<-HNY.out]at this;exact this,hB3⟩
  ·obtain rfl:j=nf:=by omega
   have hall:fs.take j=fs:=List.take_of_length_le (by have:=HNF.out;omega)
   rw[hall]at hrow
   obtain⟨oa,oc,rfl⟩:=own_slice hrow
   obtain⟨Wa,rfl⟩:∃ z,z=wr:=⟨_,rfl⟩
   have hfq:=hR.free
   have hB0:=hBw
   have hcm:CmdsAt Wa 0 (.slice oa (fs.eraseIdx k).length oc) (fs.eraseIdx k):=⟨ownsRow_lowS hrow (Nat.zero_le _),fun x hx=>hR.fls.rows x (List.mem_of_mem_eraseIdx hx),erase_pairwise hR.fls.apart k⟩
   obtain⟨f1,f2⟩:=HR.out.setF (W:=Wa) (v':=.slice oa (fs.eraseIdx k).length oc) (chgB hBw _) hcm (fun k' hk'=>.inr (Nat.le_trans HB2.out.size (hrow.lt k' hk').1)) (fun x hx=>.inl (List.mem_of_mem_eraseIdx hx)) (t':=t1) (by rw[<-HT1.out,map_erase,HR.out.fcs]) (by rw[<-HT1.out]) (by rw[<-HT1.out]) (by rw[<-HT1.out]) (by rw[<-HT1.out]) (by rw[<-HT1.out])
   have hcbA:=(hBj.block _ (lt_of_heap HCB.out)).trans HCB.out
   have hvA:=ownsRow_chg HCV.out (chgB hBw fun _=>False) fun _ _ z=>z
   have hcs3:Chg (fun k=>k=q) Wa (Wa.setCell ⟨q,3,none⟩ (.slice oa (fs.eraseIdx k).length oc)):=Chg.setCell (S:=fun k=>k=q) (p:=⟨q,3,none⟩) (Chg.refl _ Wa) (.inl rfl) _
   have hcbL:=(hcs3.block _ (lt_of_heap hcbA) (fun e=>by omega)).trans hcbA
   have hneC:=fun g (hg:(Value.slice va c.nums.length vc).ownBlock=some g)=>HR.out.ne_cv (List.mem_of_getElem? HFK.out) hg
   have hvL:=ownsRow_chg hvA hcs3 fun k' hk' e=>(hneC _ (by rw[HNL.out];exact hk')).1 e
   obtain⟨WL,hWL⟩:∃ WL,Wa.setCell ⟨q,3,none⟩ (.slice oa (fs.eraseIdx k).length oc)=WL:=⟨_,rfl⟩
   have hvnew:∀ g,(Value.slice oa (fs.eraseIdx k).length oc).ownBlock=some g->W2.heap.size<=g:=fun g hg=>(hrow.lt g hg).1
   have hszw:W2.heap.size=w.heap.size+1:=by rw[<-HW2.out];simp
   have hnoc:∀ g,((Value.slice va N vc).ownBlock=some g\/g=w.heap.size)->¬RFoot q rv tv (.slice oa (fs.eraseIdx k).length oc) dv (fs.eraseIdx k) g:=fun g hg hf=>by
    have hap:=erase_apart HR.out.fls.apart HFK.out
    rcases hg with hg | rfl
    ·obtain⟨b1,b2,b3,b4,b5⟩:=hneC g (by rw[HNL.out];exact hg)
     rcases hf with e | e | e | e | e |⟨x,hx,e⟩
     ·exact b1 e
     ·exact b2 e
     ·exact b3 e
     ·have h7:=hvnew g e
      obtain⟨cur,hcur⟩:=own_heap HCV.out hg
      have:=lt_of_heap hcur;omega
     ·exact b5 e
     ·exact hap x hx g (by rw[HNL.out];exact hg) e
    ·have hlt2:∀ k',RFoot q rv tv (.slice (some ⟨gf,0,none⟩) fs.length fc) dv fs k'->k'<w.heap.size:=fun k' hk'=>HR.out.lt hk'
     rcases hf with e | e | e | e | e |⟨x,hx,e⟩
     ·have:=hlt2 _ (.inl e);omega
     ·have:=hlt2 _ (.inr (.inl e));omega
     ·have:=hlt2 _ (.inr (.inr (.inl e)));omega
     ·have:=hvnew _ e;omega
     ·have:=hlt2 _ (.inr (.inr (.inr (.inr (.inl e)))));omega
     ·have:=hlt2 _ (.inr (.inr (.inr (.inr (.inr ⟨x,List.mem_of_mem_eraseIdx hx,e⟩)))));omega
   rw[hWL]at f1 f2 hcbL hvL
   have F1:=Lib.hid f1
   have F2:=Lib.hid f2
   have HCBL:=Lib.hid hcbL
   have HVL:=Lib.hid hvL
   have HNOC:=Lib.hid hnoc
   have HVN:=Lib.hid hvnew
   have HWL:=Lib.hid hWL
   have hbwl:=Nat.le_trans HB2.out.size (Nat.le_trans hBj.size hcs3.size)
   rw[hWL]at hbwl
   have hsame:∀ ns:List Int,(ns.foldl (St.land fault) t1).now=t1.now/\(ns.foldl (St.land fault) t1).last=t1.last:=fun ns=>⟨(lands_same fault ns t1).2.2.2.1,(lands_same fault ns t1).2.2.2.2.1⟩
   have HSM:=Lib.hid hsame
   have hnw1:t1.now<2 ^ 59:=by rw[<-HT1.out];exact hnw
   have hla1:t1.last<900000:=by rw[<-HT1.out];exact hla
   clear hR hrow hall hcm f1 f2 hcbA hvA hcs3 hcbL hneC hvL hvnew hnoc hWL hsame hB0
   go_wp2_with fail
   rw[HWL.out]
   go_loopg [10] N (fun kk i wx=>∃ (j:Nat) (l':List RR) (told':List Int) (rv' tv':Value),kk=N - j/\j<=N/\i=.int .i64 j/\RB wx q ((c.nums.take j).foldl (St.land fault) t1) l' told' (fs.eraseIdx k) rv' tv' (.slice oa (fs.eraseIdx k).length oc) dv/\Hid (RRel l' told' ((c.nums.take j).foldl (St.land fault) t1))/\Hid (∀ k',RFoot q rv' tv' (.slice oa (fs.eraseIdx k).length oc) dv (fs.eraseIdx k) k'->RFoot q rv tv (.slice oa (fs.eraseIdx k).length oc) dv (fs.eraseIdx k) k'\/WL.heap.size<=k')/\Chg (RFoot q rv tv (.slice oa (fs.eraseIdx k).length oc) dv (fs.eraseIdx k)) WL wx)
   case atStart=>exact ⟨0,l,told,rv,tv,by simp,by omega,rfl,F1.out,H2,Lib.hid (fun k' hk'=>.inl hk'),Chg.refl _ _⟩
   case round=>
    obtain⟨j2,l',told',rv',tv',rfl,hj2,rfl,hR',hRR',hF',hC'⟩:=hrel
    have hcb':=(hC'.block _ (lt_of_heap HCBL.out) (HNOC.out _ (.inr rfl))).trans HCBL.out
    have hv':=ownsRow_chg HVL.out hC' fun k' hk' e=>HNOC.out _ (.inl hk') e
    have b3:wr.cell? ⟨w.heap.size,3,none⟩=some (.slice va N vc):=cell_of hcb' rfl
    by_cases hlt2:j2<N
    ·have hltI2:(j2:Int)<(N:Int):=by omega
     have hj20:(0:Int)<=(j2:Int):=by omega
     obtain⟨n,hn⟩:∃ n,c.nums[j2]?=some n:=⟨_,List.getElem?_eq_getElem (by have:=HNL.out;omega)⟩
     obtain⟨gv,rfl,_,_,hcvj⟩:=row_at hv' (j:=j2) (x:=.int .i64 n) (by rw[List.getElem?_map,hn];rfl) (by rw[List.length_map,HNL.out])
     obtain⟨air',hok'⟩:=okA_take fault HOK.out hn
     obtain⟨s1,s2⟩:=HSM.out (c.nums.take j2)
     have hll':=rlen_okA hok' hRR'.out (by rw[s2];exact hla1)
     have HTR:=Lib.hid (tried_r n fault wr hR' hRR'.out hok' (by rw[s1];exact hnw1) hll'.1 hll'.2)
     have HN2:=Lib.hid hn
     have HR':=Lib.hid hR'
     clear hcb' hv' hn hok' s1 s2 hll' hR'
     go_wp2_with fail
     refine HTR.out.mono ?_
     rintro yy w9 ⟨l2,told2,rv2,tv2,rfl,hR2,hRR2,hF2,hC2⟩
     have HL:=Lib.hid (And.intro hR2 (And.intro hRR2 (And.intro hF2 hC2)))
     clear hR2 hRR2 hF2 hC2
     go_wp2_with fail
     go_roundg (N - (j2+1))
     case measure=>omega
     case rel=>
      obtain⟨hR2,hRR2,hF2,hC2⟩:=HL.out
      refine⟨j2+1,l2,told2,rv2,tv2,rfl,by omega,by go_num,by rw[foldl_take_succ _ _ HN2.out];exact hR2,Lib.hid (by rw[foldl_take_succ _ _ HN2.out];exact hRR2),Lib.hid fun k' hk'=>?_,hC'.trans (hC2.mono fun k' _ hk'=>hF'.out k' hk')⟩
      rcases hF2 k' hk' with e | e
      ·exact hF'.out k' e
      ·exact .inr (Nat.le_trans hC'.size e)
    ·obtain rfl:j2=N:=by omega
     have hall2:c.nums.take j2=c.nums:=List.take_of_length_le (Nat.le_of_eq HNL.out)
     rw[hall2]at hR' hRR'
     have HR':=Lib.hid hR'
     clear hR' hcb' hv' hall2
     go_wp2_with fail
     go_ret
     have hb0:∀ k',RFoot q rv tv (.slice oa (fs.eraseIdx k).length oc) dv (fs.eraseIdx k) k'->G k'\/w.heap.size<=k':=fun k' hf=>by
      rcases hf with e | e | e | e | e |⟨x,hx,e⟩
      ·exact .inl (H3.out _ (.inl e))
      ·exact .inl (H3.out _ (.inr (.inl e)))
      ·exact .inl (H3.out _ (.inr (.inr (.inl e))))
      ·exact .inr (by have:=HVN.out _ e;omega)
      ·exact .inl (H3.out _ (.inr (.inr (.inr (.inr (.inl e))))))
      ·exact .inl (H3.out _ (.inr (.inr (.inr (.inr (.inr ⟨x,List.mem_of_mem_eraseIdx hx,e⟩))))))
     refine⟨fun k'=>G k'\/w.heap.size<=k',rfl,⟨l',told',_,rv',tv',_,dv,HR'.out,hRR'.out,fun k' hk'=>?_⟩,fun k' hk'=>hk',?_⟩
     ·rcases hF'.out k' hk' with e | e
      ·exact hb0 k' e
      ·exact .inr (Nat.le_trans hbwl e)
     ·exact (F2.out.mono fun k' _ hk'=>H3.out k' (hk'.elim (fun e=>.inl e) fun e=>.inr (.inr (.inr (.inl e))))).trans (hC'.mono fun k' _ hk'=>hb0 k' hk')
end
section
open Go.RowKit Go.Shelf Go.Lib
end
section
open Go.RowKit Go.Shelf Go.Lib
set_option maxRecDepth 100000
set_option maxHeartbeats 8000000
theorem first_r(w:World){q:Nat}{t:St}{l:List RR}{told:List Int}{fs:List (Cmd×Value)}{rv tv fv dv:Value}(h:RB w q t l told fs rv tv fv dv)(hl:l.map (·.r)=t.rs)(hs:t.rs.Pairwise (·.num < ·.num))(hlen:l.length<=1000000)(p:Nat):
  Calls Tryx.prog 125 #[ptr q,.int .i64 p] w fun y w'=>((∃ (k:Nat) (r:Req),y=.returned (.int .i64 k)/\t.rs[k]?=some r/\∃ m,t.rs.filter (readyP t.now t.rs p)=r :: m)\/(y=.returned (.int .i64 (-1))/\t.rs.filter (readyP t.now t.rs p)=[]))/\Below w.heap.size w w':=by
 obtain⟨ra,rc,rfl⟩:=own_slice h.reqs
 obtain⟨m,hm⟩:∃ m,l.length=m:=⟨_,rfl⟩
 rw[hm]at h hlen
 have HR:=Lib.hid h
 obtain⟨P,hP⟩:∃ P,readyP t.now t.rs p=P:=⟨_,rfl⟩
 rw[hP]
 have HPP:=Lib.hid hP
 clear h hP
 go_enter Tryx.func125,Tryz.ntmps125
 go_wp2_with fail
 go_loopg [5] m (fun kk i wx=>∃ j,kk=m - j/\j<=m/\i=.int .i64 j/\Hid ((t.rs.take j).filter P=[])/\Below w.heap.size w wx)
 case atStart=>exact ⟨0,by simp,by omega,rfl,Lib.hid (by simp),Below.refl _ _⟩
 case round=>
  obtain⟨j,rfl,hj,rfl,hno,hB⟩:=hrel
  have hR:=HR.out.below hB
  have d1:=hR.c1
  by_cases hlt:j<m
  ·have hltI:(j:Int)<(m:Int):=by omega
   have hj0:(0:Int)<=(j:Int):=by omega
   obtain⟨y,hy⟩:∃ y,l[j]?=some y:=⟨_,List.getElem?_eq_getElem (by omega)⟩
   have hyr:t.rs[j]?=some y.r:=by rw[<-hl,List.getElem?_map,hy];rfl
   have HC:=Lib.hid (ready_r wr hR hl hs (by omega) hy)
   obtain⟨br,hbr⟩:∃ br,isReadyR t.now t.rs y.r=br:=⟨_,rfl⟩
   have hPy:P y.r=(br && (y.r.page == (p:Int))):=by rw[<-HPP.out];unfold readyP;rw[hbr]
   have HBR:=Lib.hid hbr
   have HYR:=Lib.hid hyr
   clear hbr hyr
   go_wp2_with fail
   refine HC.out.mono ?_
   rintro z w2 ⟨rfl,hB2⟩
   rw[HBR.out]
   have hBw:=hB.trans (hB2.mono hB.size)
   have hR2:=HR.out.below hBw
   have d2:=hR2.c1
   obtain⟨g,cap,e,_,_,hcell⟩:=hR2.req hy
   simp only[Value.slice.injEq]at e
   obtain⟨rfl,hdrop,rfl⟩:=e
   clear hdrop
   have r2:w2.cell? ⟨g,j*10+2,none⟩=some (.int .i64 y.r.page):=hcell 2 _ rfl
   obtain⟨yp,hyp⟩:∃ z,y.r.page=z:=⟨_,rfl⟩
   rw[hyp]at r2 hPy
   have HPY:=Lib.hid hPy
   clear hR hR2 hcell hy hyp hPy hB2
   cases br with
   | false=>
     go_wp2_with fail
     go_roundg (m - (j+1))
     case measure=>omega
     case rel=>exact ⟨j+1,rfl,by omega,by go_num,Lib.hid (by rw[take_filter_no HYR.out (by rw[HPY.out];rfl)];exact hno.out),hBw⟩
   | true=>
     by_cases hpe:yp=(p:Int)
     ·subst hpe
      go_wp2_with fail
      go_ret
      exact⟨.inl ⟨j,y.r,rfl,HYR.out,filter_first hno.out HYR.out (by rw[HPY.out];simp)⟩,hBw⟩
     ·go_wp2_with fail
      go_roundg (m - (j+1))
      case measure=>omega
      case rel=>exact ⟨j+1,rfl,by omega,by go_num,Lib.hid (by rw[take_filter_no HYR.out (by rw[HPY.out];simp[hpe])];exact hno.out),hBw⟩
  ·obtain rfl:j=m:=by omega
   have hall:t.rs.take j=t.rs:=List.take_of_length_le (by rw[<-hl,List.length_map];omega)
   have hn:=hno.out
   rw[hall]at hn
   clear hR hno hall
   go_wp2_with fail
   go_ret
   exact⟨.inr ⟨rfl,hn⟩,hB⟩
theorem page_r(w:World){q:Nat}{t:St}{l:List RR}{told:List Int}{fs:List (Cmd×Value)}{rv tv fv dv:Value}(h:RB w q t l told fs rv tv fv dv)(hl:l.map (·.r)=t.rs)(hs:t.rs.Pairwise (·.num < ·.num))(hlen:l.length<=1000000)(hh:t.head<=16):
  Calls Tryx.prog 124 #[ptr q] w fun y w'=>((∃ (p:Nat),y=.returned (.int .i64 p)/\p<16/\beginE (neR t) t.head=some p)\/(y=.returned (.int .i64 (-1))/\beginE (neR t) t.head=none))/\Below w.heap.size w w':=by
 have HR:=Lib.hid h
 obtain⟨hd,hhd⟩:∃ hd,t.head=hd:=⟨_,rfl⟩
 have c5:=h.c5
 rw[hhd]at hh c5 ⊢
 have hHD:=Lib.hid hhd
 clear h hhd
 go_enter Tryx.func124,Tryz.ntmps124
 go_wp2_with fail
 go_loopg [3] 32 (fun kk i wx=>∃ j,kk=32 - j/\j<=32/\i=.int .i64 j/\Hid (∀ j',j'<j->neR t (wrapAt hd j')=false)/\Below w.heap.size w wx)
 case atStart=>exact ⟨0,by simp,by omega,rfl,Lib.hid (fun _ h=>by omega),Below.refl _ _⟩
 case round=>
  obtain⟨j,rfl,hj,rfl,hno,hB⟩:=hrel
  have hR:=HR.out.below hB
  have d5:=hR.c5
  rw[hHD.out]at d5
  by_cases hlt:j<32
  ·have hltI:(j:Int)<32:=by omega
   obtain⟨p,hp⟩:∃ p,wrapAt hd j=p:=⟨_,rfl⟩
   have hp2:p=if 16<=hd+j then hd+j - 16 else hd+j:=by rw[<-hp];rfl
   by_cases hov:16<=hd+j
   ·rw[if_pos hov]at hp2
    have hw1:IntKind.i64.wrap ((hd:Int)+j)=(hd:Int)+j:=by rw[IntKind.wrap_i64];omega
    have hw2:IntKind.i64.wrap (16 - (hd:Int))=16 - (hd:Int):=by rw[IntKind.wrap_i64];omega
    have hw3:IntKind.i64.wrap ((j:Int) - (16 - (hd:Int)))=(p:Int):=by rw[IntKind.wrap_i64];omega
    have hovI:(hd:Int)+j>=16:=by omega
    by_cases hp16:p<16
    ·have hpI:¬(p:Int)>=16:=by omega
     have HC:=Lib.hid (first_r wr hR hl hs hlen p)
     have HP:=Lib.hid hp
     clear hp2 hR hp
     go_wp2_with fail
     refine HC.out.mono ?_
     rintro z w2 ⟨⟨k,r,rfl,hk,mm,hf⟩ |⟨rfl,hf⟩,hB2⟩
     ·have hB2':=hB.trans (hB2.mono hB.size)
      have hne:neR t p=true:=by unfold neR;rw[pageR_ready t.now t.rs hp16,hf];simp
      have HF:=Lib.hid (begin_found hno.out (by rw[HP.out];exact hp16) (by rw[HP.out];exact hne))
      clear hk hf hB2 hne
      have hk0:(k:Int)>=0:=by omega
      go_wp2_with fail
      go_ret
      exact⟨.inl ⟨p,rfl,hp16,by rw[HF.out,HP.out]⟩,hB2'⟩
     ·have hB2':=hB.trans (hB2.mono hB.size)
      have hne:neR t p=false:=by unfold neR;rw[pageR_ready t.now t.rs hp16,hf];simp
      have HNE:=Lib.hid hne
      clear hf hB2 hne
      go_wp2_with fail
      go_roundg (32 - (j+1))
      case measure=>omega
      case rel=>exact ⟨j+1,rfl,by omega,by go_num,Lib.hid (fun j' hj'=>by
       rcases Nat.lt_or_ge j' j with h | h
       ·exact hno.out j' h
       ·rw[show j'=j from by omega,HP.out];exact HNE.out),hB2'⟩
    ·have hpI:(p:Int)>=16:=by omega
     have HF:=Lib.hid (begin_over hh hno.out (.inl (by rw[hp];omega)))
     clear hp2 hR hp
     go_wp2_with fail
     go_ret
     exact⟨.inr ⟨rfl,HF.out⟩,hB⟩
   ·rw[if_neg hov]at hp2
    have hw1:IntKind.i64.wrap ((hd:Int)+j)=(p:Int):=by rw[IntKind.wrap_i64];omega
    have hp16:p<16:=by omega
    have hpI:¬(p:Int)>=16:=by omega
    have HC:=Lib.hid (first_r wr hR hl hs hlen p)
    have HP:=Lib.hid hp
    clear hp2 hR hp
    go_wp2_with fail
    refine HC.out.mono ?_
    rintro z w2 ⟨⟨k,r,rfl,hk,mm,hf⟩ |⟨rfl,hf⟩,hB2⟩
    ·have hB2':=hB.trans (hB2.mono hB.size)
     have hne:neR t p=true:=by unfold neR;rw[pageR_ready t.now t.rs hp16,hf];simp
     have HF:=Lib.hid (begin_found hno.out (by rw[HP.out];exact hp16) (by rw[HP.out];exact hne))
     clear hk hf hB2 hne
     have hk0:(k:Int)>=0:=by omega
     go_wp2_with fail
     go_ret
     exact⟨.inl ⟨p,rfl,hp16,by rw[HF.out,HP.out]⟩,hB2'⟩
    ·have hB2':=hB.trans (hB2.mono hB.size)
     have hne:neR t p=false:=by unfold neR;rw[pageR_ready t.now t.rs hp16,hf];simp
     have HNE:=Lib.hid hne
     clear hf hB2 hne
     go_wp2_with fail
     go_roundg (32 - (j+1))
     case measure=>omega
     case rel=>exact ⟨j+1,rfl,by omega,by go_num,Lib.hid (fun j' hj'=>by
      rcases Nat.lt_or_ge j' j with h | h
      ·exact hno.out j' h
      ·rw[show j'=j from by omega,HP.out];exact HNE.out),hB2'⟩
  ·obtain rfl:j=32:=by omega
   have HF:=Lib.hid (begin_over hh hno.out (.inr (by omega)))
   clear hR
   go_wp2_with fail
   go_ret
   exact⟨.inr ⟨rfl,HF.out⟩,hB⟩
def numsOf(P:Req->Bool)(rs:List Req):List Int:=(rs.filter P).map (·.num)
theorem numsOf_yes{P:Req->Bool}{rs:List Req}{j:Nat}{r:Req}(h:rs[j]?=some r)(hP:P r=true):numsOf P (rs.take (j+1))=numsOf P (rs.take j) ++ [r.num]:=by
 unfold numsOf;rw[take_filter_yes h hP,List.map_append];rfl
theorem numsOf_no{P:Req->Bool}{rs:List Req}{j:Nat}{r:Req}(h:rs[j]?=some r)(hP:P r=false):numsOf P (rs.take (j+1))=numsOf P (rs.take j):=by
 unfold numsOf;rw[take_filter_no h hP]
theorem numsOf_len(P:Req->Bool)(rs:List Req)(j:Nat):(numsOf P (rs.take j)).length<=j:=by
 unfold numsOf
 rw[List.length_map]
 refine Nat.le_trans (List.length_filter_le _ _) ?_
 rw[List.length_take]
 exact Nat.min_le_left _ _
theorem group_r(w:World){q:Nat}{t:St}{l:List RR}{told:List Int}{fs:List (Cmd×Value)}{rv tv fv dv:Value}(h:RB w q t l told fs rv tv fv dv)(hl:l.map (·.r)=t.rs)(hs:t.rs.Pairwise (·.num < ·.num))(hlen:l.length<=1000000)(p:Nat)(wt:Bool):
  Calls Tryx.prog 126 #[ptr q,.int .i64 p,.bool wt] w fun y w'=>∃ v,y=.returned v/\w'.ownsRow w.heap.size 3 1 v (numsOf (readyK t.now t.rs wt p) t.rs).length ((numsOf (readyK t.now t.rs wt p) t.rs).map fun n=>Value.int .i64 n)/\Below w.heap.size w w':=by
 obtain⟨ra,rc,rfl⟩:=own_slice h.reqs
 obtain⟨m,hm⟩:∃ m,l.length=m:=⟨_,rfl⟩
 rw[hm]at h hlen
 have HR:=Lib.hid h
 obtain⟨P,hP⟩:∃ P,readyK t.now t.rs wt p=P:=⟨_,rfl⟩
 rw[hP]
 have HPP:=Lib.hid hP
 obtain⟨i0,hi,hz0,hz1,hz2⟩:=info_parts Tryz.infoI2
 clear h hP
 go_enter Tryx.func126,Tryz.ntmps126
 go_wp2_with fail
 go_loopg [7,8] m (fun kk out i wx=>∃ j,kk=m - j/\j<=m/\i=.int .i64 j/\wx.ownsRow w.heap.size 3 1 out (numsOf P (t.rs.take j)).length ((numsOf P (t.rs.take j)).map fun n=>Value.int .i64 n)/\Below w.heap.size w wx)
 case atStart=>exact ⟨0,by simp,by omega,rfl,by simpa[numsOf]using World.ownsRow_nil _ _ _ _,Below.refl _ _⟩
 case round=>
  obtain⟨j,rfl,hj,rfl,hrow,hB⟩:=hrel
  have hR:=HR.out.below hB
  have d1:=hR.c1
  by_cases hlt:j<m
  ·have hltI:(j:Int)<(m:Int):=by omega
   have hj0:(0:Int)<=(j:Int):=by omega
   obtain⟨y,hy⟩:∃ y,l[j]?=some y:=⟨_,List.getElem?_eq_getElem (by omega)⟩
   have hyr:t.rs[j]?=some y.r:=by rw[<-hl,List.getElem?_map,hy];rfl
   have HC:=Lib.hid (ready_r wr hR hl hs (by omega) hy)
   obtain⟨br,hbr⟩:∃ br,isReadyR t.now t.rs y.r=br:=⟨_,rfl⟩
   have hPy:P y.r=((br && (y.r.page == (p:Int))) && ((y.r.write == wt) && !y.r.alone)):=by rw[<-HPP.out];unfold readyK readyP isKindR;rw[hbr]
   have HBR:=Lib.hid hbr
   have HYR:=Lib.hid hyr
   have HROW:=Lib.hid hrow
   clear hbr hyr hrow
   go_wp2_with fail
   refine HC.out.mono ?_
   rintro z w2 ⟨rfl,hB2⟩
   rw[HBR.out]
   have hBw:=hB.trans (hB2.mono hB.size)
   have hR2:=HR.out.below hBw
   have d2:=hR2.c1
   have hrow2:=ownsRow_chg HROW.out (chgB hB2 fun _=>False) fun _ _ z=>z
   obtain⟨g,cap,e,_,_,hcell⟩:=hR2.req hy
   simp only[Value.slice.injEq]at e
   obtain⟨rfl,hdrop,rfl⟩:=e
   clear hdrop
   have r0:w2.cell? ⟨g,j*10,none⟩=some (.int .i64 y.r.num):=hcell 0 _ rfl
   have r1:w2.cell? ⟨g,j*10+1,none⟩=some (.bool y.r.write):=hcell 1 _ rfl
   have r2:w2.cell? ⟨g,j*10+2,none⟩=some (.int .i64 y.r.page):=hcell 2 _ rfl
   have r7:w2.cell? ⟨g,j*10+7,none⟩=some (.bool y.r.alone):=hcell 7 _ rfl
   obtain⟨yp,hyp⟩:∃ z,y.r.page=z:=⟨_,rfl⟩
   obtain⟨yw,hyw⟩:∃ z,y.r.write=z:=⟨_,rfl⟩
   obtain⟨ya,hya⟩:∃ z,y.r.alone=z:=⟨_,rfl⟩
   rw[hyp]at r2 hPy
   rw[hyw]at r1 hPy
   rw[hya]at r7 hPy
   have HPY:=Lib.hid hPy
   have hwl:=numsOf_len P t.rs j
   have HR2:=Lib.hid hrow2
   clear hR hR2 hcell hy hyp hyw hya hPy hB2 hrow2 d1
   by_cases hyes:P y.r=true
   ·have hyes2:=hyes
    rw[HPY.out]at hyes2
    simp only[Bool.and_eq_true,beq_iff_eq,Bool.not_eq_true']at hyes2
    obtain⟨⟨rfl,rfl⟩,rfl,rfl⟩:=hyes2
    obtain⟨mm,hmm⟩:∃ mm,(numsOf P (t.rs.take j)).length=mm:=⟨_,rfl⟩
    have hrow3:=HR2.out
    rw[hmm]at hrow3 hwl
    have HM:=Lib.hid hmm
    have HY:=Lib.hid hyes
    have hsz:=hBw.size
    have hgl:=lt_of_cell r0
    have hww:(yw == yw)=true:=by simp
    clear hmm hyes
    go_wp2_with (at_builtin;refine wpList_append_own _ rfl _ _ 24 rfl w.heap.size 3 i0 (.int .i64 0) 1 8 Tryx.underlying24 hi hz0 hz1 hz2 rfl (by decide) _ _ _ rfl (hrow3.alloc _) ⟨w2.heap.size,0,none⟩ 1 1 [.int .i64 y.r.num] rfl rfl (World.news_of_block (World.alloc_heap_new w2 _)) (by simp[Value.oneCell']) ?_ ?_ ?_ ?_)
    ·unfold maxLen;omega
    ·omega
    ·simp;omega
    intro v' w3 hown' hgrow _
    have hB3:Below w.heap.size w w3:=(hBw.alloc hBw.size _).grown hgrow (by simp;omega) (fun k ek=>(hrow3.lt k ek).1)
    have HO:=Lib.hid hown'
    clear hown' hgrow hrow3
    go_wp2
    go_roundg (m - (j+1))
    case measure=>omega
    case rel=>exact ⟨j+1,rfl,by omega,by go_num,by rw[numsOf_yes HYR.out HY.out,List.length_append,List.map_append,HM.out];exact HO.out,hB3⟩
   ·have hno:P y.r=false:=by simpa using hyes
    have HNO:=Lib.hid hno
    rw[HPY.out]at hno
    clear hyes
    by_cases hpe:yp=(p:Int)
    ·cases br
     all_goals cases yw
     all_goals cases wt
     all_goals cases ya
     all_goals
      first
      | (exfalso;simp[hpe]at hno;done)
      | (clear hno
         go_wp2_with fail
         go_roundg (m - (j+1))
         case measure=>omega
         case rel=>exact ⟨j+1,rfl,by omega,by go_num,by rw[numsOf_no HYR.out HNO.out];exact HR2.out,hBw⟩)
    ·cases br
     all_goals
      clear hno
      go_wp2_with fail
      go_roundg (m - (j+1))
      case measure=>omega
      case rel=>exact ⟨j+1,rfl,by omega,by go_num,by rw[numsOf_no HYR.out HNO.out];exact HR2.out,hBw⟩
  ·obtain rfl:j=m:=by omega
   have hall:t.rs.take j=t.rs:=List.take_of_length_le (by rw[<-hl,List.length_map];omega)
   rw[hall]at hrow
   have HO:=Lib.hid hrow
   clear hR hrow hall
   go_wp2_with fail
   go_ret
   exact⟨_,rfl,HO.out,hB⟩
end
end Go.Proofs.YticobikhndlejaaGreatDoor
