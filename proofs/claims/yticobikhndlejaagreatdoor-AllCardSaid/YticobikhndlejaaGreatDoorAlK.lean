/- Part 11 of the proof (see the last part). -/
import Derived.Test.YticobikhndlejaaGreatDoorAlJ
namespace Go.Proofs.YticobikhndlejaaGreatDoor
section
open Go.RowKit Go.Shelf Go.Lib
set_option maxRecDepth 100000
set_option maxHeartbeats 8000000
theorem land_wn(q tb mb clock pg:Nat)(fv:Value)(s:Sta)(w:World)(e:Ent)(d0 d1 d2 d3:Int)(h:QB w q tb mb clock fv s)(he:e∈s.es)(hL:LandB w q tb fv s e pg d0 d1 d2 d3)(_ht:0<=e.r.tries/\e.r.tries<=3)(_hn:0<=s.now/\s.now<2 ^ 60)(hw:e.r.write=true)(hs:e.r.state≠1):
  Calls Tryx.prog 72 #[ptr q,ptr e.p,.bool false] w fun x w'=>x=.returned (.tuple #[])/\
   QB w' q tb mb clock fv {s with es:=landE (updE s.es e.r.num fun _=>St.landR s.now s.disk false e.r) ⟨St.landR s.now s.disk false e.r,e.p,e.born⟩,disk:=St.landD s.disk false e.r}/\Chg (fun k=>k=q\/k=mb\/k=e.p) w w':=by
 have hw8:IntKind.i64.wrap (e.r.tries+1)=e.r.tries+1:=by rw[IntKind.wrap_i64];omega
 have hrf:St.landR s.now s.disk false e.r={e.r with tries:=e.r.tries+1,inAir:=false,data:=e.r.data,state:=e.r.state,alone:=e.r.alone,after:=e.r.after}:=by
  simp[St.landR,hw,hs]
 have hdf:St.landD s.disk false e.r=dput s.disk pg e.r.data:=by simp[St.landD,hw,hL.page]
 rw[hrf,hdf]
 clear hrf hdf
 have c1:=h.c1
 have hR:=hL.req
 have a1:=hR.at.c1
 have a2:=hR.at.c2
 have a3:=hR.at.c3
 have a4:=hR.at.c4
 have a5:=hR.at.c5
 have a6:=hR.at.c6
 have a7:=hR.at.c7
 have a8:=hR.at.c8
 have a9:=hR.at.c9
 have a10:=hR.at.c10
 have a11:=hR.at.c11
 have af:∀ i,w.frozen? ⟨e.p,i,none⟩=false:=fun i=>free_of hR
 have qf:∀ i,w.frozen? ⟨q,i,none⟩=false:=fun i=>free_of hL.que
 obtain⟨k0,k1,k2,k3⟩:=hL.disk
 have hne:=h.ne_qp he
 have hne2:=hne.symm
 have hpg:=hL.p16
 have hp0:(0:Int)<=(pg:Int):=by omega
 have hp1:(pg:Int)<16:=by omega
 rw[hL.page]at a2
 rw[hw]at a1
 have hsb:(e.r.state == 1)=false:=by simpa using hs
 obtain⟨W1,hW1⟩:∃ W1,(w.setCell ⟨e.p,8,none⟩ (.int .i64 (e.r.tries+1))).setCell ⟨e.p,11,none⟩ (.bool false)=W1:=⟨_,rfl⟩
 have hb1:ReqB W1 e.p {e.r with tries:=e.r.tries+1,inAir:=false}:=by rw[<-hW1];exact heap_setCell (i:=11) _ (heap_setCell (i:=8) _ hR)
 have hc1:Chg (fun k=>k=q\/k=e.p) w W1:=by rw[<-hW1];exact ((chg_set _).then (chg_set _)).mono fun k _ hk=>.inr hk
 have hq1:W1.heap[q]?=some (.cells (qCells tb fv s) 89 (0,0)):=by
  rw[<-hW1,heap_setCell_ne _ hne,heap_setCell_ne _ hne];exact h.que
 obtain⟨W2,hW2⟩:∃ W2,((((W1.setCell ⟨q,5+pg*4,none⟩ (.int .u8 e.r.data.a)).setCell ⟨q,5+pg*4+1,none⟩ (.int .u8 e.r.data.b)).setCell ⟨q,5+pg*4+2,none⟩ (.int .u8 e.r.data.c)).setCell ⟨q,5+pg*4+3,none⟩ (.int .u8 e.r.data.d)).drew=W2:=⟨_,rfl⟩
 have hc2:Chg (fun k=>k=q) W1 W2:=by rw[<-hW2];exact ((((chg_set _).then (chg_set _)).then (chg_set _)).then (chg_set _)).drew
 have hq2:W2.heap[q]?=some (.cells (qCells tb fv {s with disk:=dput s.disk pg e.r.data}) 89 (0,0)):=by
  rw[<-hW2,<-qCells_dput]
  exact heap_setCell (i:=5+pg*4+3) _ (heap_setCell (i:=5+pg*4+2) _ (heap_setCell (i:=5+pg*4+1) _ (heap_setCell (i:=5+pg*4) _ hq1)))
 have hb2:ReqB W2 e.p {e.r with tries:=e.r.tries+1,inAir:=false}:=(hc2.block _ (lt_of_heap hb1) hne.symm).trans hb1
 have hcw2:Chg (fun k=>k=q\/k=e.p) w W2:=hc1.then (hc2.mono fun k _ hk=>.inl hk)
 obtain⟨W3,hW3⟩:∃ W3,W2=W3:=⟨_,rfl⟩
 rw[hW3]at hW2
 rw[hW3]at hq2 hb2 hcw2
 have hf:=land_end h he (r':={e.r with tries:=e.r.tries+1,inAir:=false}) (disk':=dput s.disk pg e.r.data) ⟨rfl,rfl⟩ (by simp[dput];exact h.disk) hq2 hb2 hcw2
 have hcw3:=hcw2
 have b1:W1.cell? ⟨e.p,1,none⟩=some (.bool true):=by have:=hb1.at.c1;rw[<-hw];exact this
 have b2:W1.cell? ⟨e.p,2,none⟩=some (.int .i64 pg):=by have:=hb1.at.c2;rw[<-hL.page];exact this
 have b3:W1.cell? ⟨e.p,3,none⟩=some (.int .u8 e.r.data.a):=hb1.at.c3
 have b4:W1.cell? ⟨e.p,3+1,none⟩=some (.int .u8 e.r.data.b):=hb1.at.c4
 have b5:W1.cell? ⟨e.p,3+2,none⟩=some (.int .u8 e.r.data.c):=hb1.at.c5
 have b6:W1.cell? ⟨e.p,3+3,none⟩=some (.int .u8 e.r.data.d):=hb1.at.c6
 have bf:∀ i,W1.frozen? ⟨e.p,i,none⟩=false:=fun i=>free_of hb1
 have df:∀ i,W1.frozen? ⟨q,i,none⟩=false:=fun i=>free_of hq1
 have hq10:W1.heap[q]?=w.heap[q]?:=hq1.trans h.que.symm
 have l0:W1.cell? ⟨q,5+pg*4,none⟩=some (.int .u8 d0):=(World.cell?_of_block (w:=w) (a:=⟨q,5+pg*4,none⟩) hq10).trans k0
 have l1:W1.cell? ⟨q,5+pg*4+1,none⟩=some (.int .u8 d1):=(World.cell?_of_block (w:=w) (a:=⟨q,5+pg*4+1,none⟩) hq10).trans k1
 have l2:W1.cell? ⟨q,5+pg*4+2,none⟩=some (.int .u8 d2):=(World.cell?_of_block (w:=w) (a:=⟨q,5+pg*4+2,none⟩) hq10).trans k2
 have l3:W1.cell? ⟨q,5+pg*4+3,none⟩=some (.int .u8 d3):=(World.cell?_of_block (w:=w) (a:=⟨q,5+pg*4+3,none⟩) hq10).trans k3
 have g7:W3.cell? ⟨e.p,7,none⟩=some (.int .i64 e.r.state):=by have:=hb2.at.c7;exact this
 have g8:W3.cell? ⟨e.p,8,none⟩=some (.int .i64 (e.r.tries+1)):=hb2.at.c8
 have g10:W3.cell? ⟨e.p,10,none⟩=some (.bool e.r.alone):=hb2.at.c10
 have gf:∀ i,W3.frozen? ⟨e.p,i,none⟩=false:=fun i=>free_of hb2
 have m1:W3.cell? ⟨q,1,none⟩=some (ptr tb):=hf.1.c1
 have HF:=Lib.hid hf
 have HCW:=Lib.hid hcw3
 have HW2:=Lib.hid hW2
 clear hW2
 clear h hR hL he hw hs hb1 hc1 hq1 hq2 hb2 hcw2 hcw3 hf k0 k1 k2 k3 hq10 hc2
 go_enter Tryx.func72,Tryz.ntmps72
 go_wp2_with fail
 go_region_held3 (fun w'=>w'.cell? ⟨e.p,2,none⟩=some (.int .i64 pg)/\w'.cell? ⟨e.p,3,none⟩=some (.int .u8 e.r.data.a)/\w'.cell? ⟨e.p,3+1,none⟩=some (.int .u8 e.r.data.b)/\w'.cell? ⟨e.p,3+2,none⟩=some (.int .u8 e.r.data.c)/\w'.cell? ⟨e.p,3+3,none⟩=some (.int .u8 e.r.data.d)) (first | (go_keep;done) | (exact⟨Z1,Z2,Z3,Z4,Z5⟩)) (fail)
 rw[HW2.out]
 go_wp2_with fail
 refine (land_any tb mb clock s.last s.held _ _ HF.out.1.tab _ HF.out.2).mono ?_
 rintro x w' ⟨rfl,hT,hc⟩
 go_wp2_with fail
 go_end0
 exact⟨rfl,land_fin HF.out.1 hT hc,(HCW.out.mono fun k _ hk=>hk.imp id .inr).then (hc.mono fun k _ hk=>.inr (.inl hk))⟩
theorem land_wd(q tb mb clock pg:Nat)(fv:Value)(s:Sta)(w:World)(e:Ent)(d0 d1 d2 d3:Int)(h:QB w q tb mb clock fv s)(he:e∈s.es)(hL:LandB w q tb fv s e pg d0 d1 d2 d3)(_ht:0<=e.r.tries/\e.r.tries<=3)(_hn:0<=s.now/\s.now<2 ^ 60)(hw:e.r.write=true)(hs:e.r.state=1):
  Calls Tryx.prog 72 #[ptr q,ptr e.p,.bool false] w fun x w'=>x=.returned (.tuple #[])/\
   QB w' q tb mb clock fv {s with es:=landE (updE s.es e.r.num fun _=>St.landR s.now s.disk false e.r) ⟨St.landR s.now s.disk false e.r,e.p,e.born⟩,disk:=St.landD s.disk false e.r}/\Chg (fun k=>k=q\/k=mb\/k=e.p) w w':=by
 have hw8:IntKind.i64.wrap (e.r.tries+1)=e.r.tries+1:=by rw[IntKind.wrap_i64];omega
 have hrf:St.landR s.now s.disk false e.r={e.r with tries:=e.r.tries+1,inAir:=false,data:=e.r.data,state:=2,alone:=e.r.alone,after:=e.r.after}:=by
  simp[St.landR,hw,hs]
 have hdf:St.landD s.disk false e.r=dput s.disk pg e.r.data:=by simp[St.landD,hw,hL.page]
 rw[hrf,hdf]
 clear hrf hdf
 have c1:=h.c1
 have hR:=hL.req
 have a1:=hR.at.c1
 have a2:=hR.at.c2
 have a3:=hR.at.c3
 have a4:=hR.at.c4
 have a5:=hR.at.c5
 have a6:=hR.at.c6
 have a7:=hR.at.c7
 have a8:=hR.at.c8
 have a9:=hR.at.c9
 have a10:=hR.at.c10
 have a11:=hR.at.c11
 have af:∀ i,w.frozen? ⟨e.p,i,none⟩=false:=fun i=>free_of hR
 have qf:∀ i,w.frozen? ⟨q,i,none⟩=false:=fun i=>free_of hL.que
 obtain⟨k0,k1,k2,k3⟩:=hL.disk
 have hne:=h.ne_qp he
 have hne2:=hne.symm
 have hpg:=hL.p16
 have hp0:(0:Int)<=(pg:Int):=by omega
 have hp1:(pg:Int)<16:=by omega
 rw[hL.page]at a2
 rw[hs]at a7
 rw[hw]at a1
 obtain⟨W1,hW1⟩:∃ W1,(w.setCell ⟨e.p,8,none⟩ (.int .i64 (e.r.tries+1))).setCell ⟨e.p,11,none⟩ (.bool false)=W1:=⟨_,rfl⟩
 have hb1:ReqB W1 e.p {e.r with tries:=e.r.tries+1,inAir:=false}:=by rw[<-hW1];exact heap_setCell (i:=11) _ (heap_setCell (i:=8) _ hR)
 have hc1:Chg (fun k=>k=q\/k=e.p) w W1:=by rw[<-hW1];exact ((chg_set _).then (chg_set _)).mono fun k _ hk=>.inr hk
 have hq1:W1.heap[q]?=some (.cells (qCells tb fv s) 89 (0,0)):=by
  rw[<-hW1,heap_setCell_ne _ hne,heap_setCell_ne _ hne];exact h.que
 obtain⟨W2,hW2⟩:∃ W2,((((W1.setCell ⟨q,5+pg*4,none⟩ (.int .u8 e.r.data.a)).setCell ⟨q,5+pg*4+1,none⟩ (.int .u8 e.r.data.b)).setCell ⟨q,5+pg*4+2,none⟩ (.int .u8 e.r.data.c)).setCell ⟨q,5+pg*4+3,none⟩ (.int .u8 e.r.data.d)).drew=W2:=⟨_,rfl⟩
 have hc2:Chg (fun k=>k=q) W1 W2:=by rw[<-hW2];exact ((((chg_set _).then (chg_set _)).then (chg_set _)).then (chg_set _)).drew
 have hq2:W2.heap[q]?=some (.cells (qCells tb fv {s with disk:=dput s.disk pg e.r.data}) 89 (0,0)):=by
  rw[<-hW2,<-qCells_dput]
  exact heap_setCell (i:=5+pg*4+3) _ (heap_setCell (i:=5+pg*4+2) _ (heap_setCell (i:=5+pg*4+1) _ (heap_setCell (i:=5+pg*4) _ hq1)))
 have hb2:ReqB W2 e.p {e.r with tries:=e.r.tries+1,inAir:=false}:=(hc2.block _ (lt_of_heap hb1) hne.symm).trans hb1
 have hcw2:Chg (fun k=>k=q\/k=e.p) w W2:=hc1.then (hc2.mono fun k _ hk=>.inl hk)
 obtain⟨W3,hW3⟩:∃ W3,W2.setCell ⟨e.p,7,none⟩ (.int .i64 2)=W3:=⟨_,rfl⟩
 have hc3:Chg (fun k=>k=e.p) W2 W3:=by rw[<-hW3];exact chg_set _
 have hf:=land_end (W:=W3) h he (r':={e.r with tries:=e.r.tries+1,inAir:=false,state:=2}) (disk':=dput s.disk pg e.r.data) ⟨rfl,rfl⟩ (by simp[dput];exact h.disk) ((hc3.block _ (lt_of_heap hq2) hne).trans hq2) (by rw[<-hW3];exact heap_setCell (i:=7) _ hb2) (hcw2.then (hc3.mono fun k _ hk=>.inr hk))
 have hcw3:Chg (fun k=>k=q\/k=e.p) w W3:=hcw2.then (hc3.mono fun k _ hk=>.inr hk)
 have b1:W1.cell? ⟨e.p,1,none⟩=some (.bool true):=by have:=hb1.at.c1;rw[<-hw];exact this
 have b2:W1.cell? ⟨e.p,2,none⟩=some (.int .i64 pg):=by have:=hb1.at.c2;rw[<-hL.page];exact this
 have b3:W1.cell? ⟨e.p,3,none⟩=some (.int .u8 e.r.data.a):=hb1.at.c3
 have b4:W1.cell? ⟨e.p,3+1,none⟩=some (.int .u8 e.r.data.b):=hb1.at.c4
 have b5:W1.cell? ⟨e.p,3+2,none⟩=some (.int .u8 e.r.data.c):=hb1.at.c5
 have b6:W1.cell? ⟨e.p,3+3,none⟩=some (.int .u8 e.r.data.d):=hb1.at.c6
 have bf:∀ i,W1.frozen? ⟨e.p,i,none⟩=false:=fun i=>free_of hb1
 have df:∀ i,W1.frozen? ⟨q,i,none⟩=false:=fun i=>free_of hq1
 have hq10:W1.heap[q]?=w.heap[q]?:=hq1.trans h.que.symm
 have l0:W1.cell? ⟨q,5+pg*4,none⟩=some (.int .u8 d0):=(World.cell?_of_block (w:=w) (a:=⟨q,5+pg*4,none⟩) hq10).trans k0
 have l1:W1.cell? ⟨q,5+pg*4+1,none⟩=some (.int .u8 d1):=(World.cell?_of_block (w:=w) (a:=⟨q,5+pg*4+1,none⟩) hq10).trans k1
 have l2:W1.cell? ⟨q,5+pg*4+2,none⟩=some (.int .u8 d2):=(World.cell?_of_block (w:=w) (a:=⟨q,5+pg*4+2,none⟩) hq10).trans k2
 have l3:W1.cell? ⟨q,5+pg*4+3,none⟩=some (.int .u8 d3):=(World.cell?_of_block (w:=w) (a:=⟨q,5+pg*4+3,none⟩) hq10).trans k3
 have g7:W2.cell? ⟨e.p,7,none⟩=some (.int .i64 1):=by have:=hb2.at.c7;simp only[hs]at this;exact this
 have g8:W2.cell? ⟨e.p,8,none⟩=some (.int .i64 (e.r.tries+1)):=hb2.at.c8
 have g10:W2.cell? ⟨e.p,10,none⟩=some (.bool e.r.alone):=hb2.at.c10
 have gf:∀ i,W2.frozen? ⟨e.p,i,none⟩=false:=fun i=>free_of hb2
 have m1:W3.cell? ⟨q,1,none⟩=some (ptr tb):=hf.1.c1
 have HF:=Lib.hid hf
 have HCW:=Lib.hid hcw3
 have HW2:=Lib.hid hW2
 clear hW2
 clear h hR hL he hw hs hb1 hc1 hq1 hq2 hb2 hcw2 hcw3 hf k0 k1 k2 k3 hq10 hc2 hc3
 go_enter Tryx.func72,Tryz.ntmps72
 go_wp2_with fail
 go_region_held3 (fun w'=>w'.cell? ⟨e.p,2,none⟩=some (.int .i64 pg)/\w'.cell? ⟨e.p,3,none⟩=some (.int .u8 e.r.data.a)/\w'.cell? ⟨e.p,3+1,none⟩=some (.int .u8 e.r.data.b)/\w'.cell? ⟨e.p,3+2,none⟩=some (.int .u8 e.r.data.c)/\w'.cell? ⟨e.p,3+3,none⟩=some (.int .u8 e.r.data.d)) (first | (go_keep;done) | (exact⟨Z1,Z2,Z3,Z4,Z5⟩)) (fail)
 rw[HW2.out]
 go_wp2_with fail
 refine (land_any tb mb clock s.last s.held _ _ HF.out.1.tab _ HF.out.2).mono ?_
 rintro x w' ⟨rfl,hT,hc⟩
 go_wp2_with fail
 go_end0
 exact⟨rfl,land_fin HF.out.1 hT hc,(HCW.out.mono fun k _ hk=>hk.imp id .inr).then (hc.mono fun k _ hk=>.inr (.inl hk))⟩
theorem land_rn(q tb mb clock pg:Nat)(fv:Value)(s:Sta)(w:World)(e:Ent)(d0 d1 d2 d3:Int)(h:QB w q tb mb clock fv s)(he:e∈s.es)(hL:LandB w q tb fv s e pg d0 d1 d2 d3)(_ht:0<=e.r.tries/\e.r.tries<=3)(_hn:0<=s.now/\s.now<2 ^ 60)(hw:e.r.write=false)(hs:e.r.state≠1):
  Calls Tryx.prog 72 #[ptr q,ptr e.p,.bool false] w fun x w'=>x=.returned (.tuple #[])/\
   QB w' q tb mb clock fv {s with es:=landE (updE s.es e.r.num fun _=>St.landR s.now s.disk false e.r) ⟨St.landR s.now s.disk false e.r,e.p,e.born⟩,disk:=St.landD s.disk false e.r}/\Chg (fun k=>k=q\/k=mb\/k=e.p) w w':=by
 have hw8:IntKind.i64.wrap (e.r.tries+1)=e.r.tries+1:=by rw[IntKind.wrap_i64];omega
 have hrf:St.landR s.now s.disk false e.r={e.r with tries:=e.r.tries+1,inAir:=false,data:=⟨d0,d1,d2,d3⟩,state:=e.r.state,alone:=e.r.alone,after:=e.r.after}:=by
  simp[St.landR,hw,hs,hL.dg]
 have hdf:St.landD s.disk false e.r=s.disk:=by simp[St.landD,hw]
 rw[hrf,hdf]
 clear hrf hdf
 have c1:=h.c1
 have hR:=hL.req
 have a1:=hR.at.c1
 have a2:=hR.at.c2
 have a3:=hR.at.c3
 have a4:=hR.at.c4
 have a5:=hR.at.c5
 have a6:=hR.at.c6
 have a7:=hR.at.c7
 have a8:=hR.at.c8
 have a9:=hR.at.c9
 have a10:=hR.at.c10
 have a11:=hR.at.c11
 have af:∀ i,w.frozen? ⟨e.p,i,none⟩=false:=fun i=>free_of hR
 have qf:∀ i,w.frozen? ⟨q,i,none⟩=false:=fun i=>free_of hL.que
 obtain⟨k0,k1,k2,k3⟩:=hL.disk
 have hne:=h.ne_qp he
 have hne2:=hne.symm
 have hpg:=hL.p16
 have hp0:(0:Int)<=(pg:Int):=by omega
 have hp1:(pg:Int)<16:=by omega
 rw[hL.page]at a2
 rw[hw]at a1
 have hsb:(e.r.state == 1)=false:=by simpa using hs
 obtain⟨W1,hW1⟩:∃ W1,(w.setCell ⟨e.p,8,none⟩ (.int .i64 (e.r.tries+1))).setCell ⟨e.p,11,none⟩ (.bool false)=W1:=⟨_,rfl⟩
 have hb1:ReqB W1 e.p {e.r with tries:=e.r.tries+1,inAir:=false}:=by rw[<-hW1];exact heap_setCell (i:=11) _ (heap_setCell (i:=8) _ hR)
 have hc1:Chg (fun k=>k=q\/k=e.p) w W1:=by rw[<-hW1];exact ((chg_set _).then (chg_set _)).mono fun k _ hk=>.inr hk
 have hq1:W1.heap[q]?=some (.cells (qCells tb fv s) 89 (0,0)):=by
  rw[<-hW1,heap_setCell_ne _ hne,heap_setCell_ne _ hne];exact h.que
 obtain⟨W2,hW2⟩:∃ W2,((((W1.setCell ⟨e.p,3,none⟩ (.int .u8 d0)).setCell ⟨e.p,3+1,none⟩ (.int .u8 d1)).setCell ⟨e.p,3+2,none⟩ (.int .u8 d2)).setCell ⟨e.p,3+3,none⟩ (.int .u8 d3)).drew=W2:=⟨_,rfl⟩
 have hc2:Chg (fun k=>k=e.p) W1 W2:=by rw[<-hW2];exact ((((chg_set _).then (chg_set _)).then (chg_set _)).then (chg_set _)).drew
 have hq2:W2.heap[q]?=some (.cells (qCells tb fv s) 89 (0,0)):=(hc2.block _ (lt_of_heap hq1) hne).trans hq1
 have hb2:ReqB W2 e.p {e.r with tries:=e.r.tries+1,inAir:=false,data:=⟨d0,d1,d2,d3⟩}:=by
  rw[<-hW2]
  exact heap_setCell (i:=6) _ (heap_setCell (i:=5) _ (heap_setCell (i:=4) _ (heap_setCell (i:=3) _ hb1)))
 have hcw2:Chg (fun k=>k=q\/k=e.p) w W2:=hc1.then (hc2.mono fun k _ hk=>.inr hk)
 obtain⟨W3,hW3⟩:∃ W3,W2=W3:=⟨_,rfl⟩
 rw[hW3]at hW2
 rw[hW3]at hq2 hb2 hcw2
 have hf:=land_end h he (r':={e.r with tries:=e.r.tries+1,inAir:=false,data:=⟨d0,d1,d2,d3⟩}) (disk':=s.disk) ⟨rfl,rfl⟩ (by exact h.disk) hq2 hb2 hcw2
 have hcw3:=hcw2
 have b1:W1.cell? ⟨e.p,1,none⟩=some (.bool false):=by have:=hb1.at.c1;rw[<-hw];exact this
 have b2:W1.cell? ⟨e.p,2,none⟩=some (.int .i64 pg):=by have:=hb1.at.c2;rw[<-hL.page];exact this
 have b3:W1.cell? ⟨e.p,3,none⟩=some (.int .u8 e.r.data.a):=hb1.at.c3
 have b4:W1.cell? ⟨e.p,3+1,none⟩=some (.int .u8 e.r.data.b):=hb1.at.c4
 have b5:W1.cell? ⟨e.p,3+2,none⟩=some (.int .u8 e.r.data.c):=hb1.at.c5
 have b6:W1.cell? ⟨e.p,3+3,none⟩=some (.int .u8 e.r.data.d):=hb1.at.c6
 have bf:∀ i,W1.frozen? ⟨e.p,i,none⟩=false:=fun i=>free_of hb1
 have df:∀ i,W1.frozen? ⟨q,i,none⟩=false:=fun i=>free_of hq1
 have hq10:W1.heap[q]?=w.heap[q]?:=hq1.trans h.que.symm
 have l0:W1.cell? ⟨q,5+pg*4,none⟩=some (.int .u8 d0):=(World.cell?_of_block (w:=w) (a:=⟨q,5+pg*4,none⟩) hq10).trans k0
 have l1:W1.cell? ⟨q,5+pg*4+1,none⟩=some (.int .u8 d1):=(World.cell?_of_block (w:=w) (a:=⟨q,5+pg*4+1,none⟩) hq10).trans k1
 have l2:W1.cell? ⟨q,5+pg*4+2,none⟩=some (.int .u8 d2):=(World.cell?_of_block (w:=w) (a:=⟨q,5+pg*4+2,none⟩) hq10).trans k2
 have l3:W1.cell? ⟨q,5+pg*4+3,none⟩=some (.int .u8 d3):=(World.cell?_of_block (w:=w) (a:=⟨q,5+pg*4+3,none⟩) hq10).trans k3
 have g7:W3.cell? ⟨e.p,7,none⟩=some (.int .i64 e.r.state):=by have:=hb2.at.c7;exact this
 have g8:W3.cell? ⟨e.p,8,none⟩=some (.int .i64 (e.r.tries+1)):=hb2.at.c8
 have g10:W3.cell? ⟨e.p,10,none⟩=some (.bool e.r.alone):=hb2.at.c10
 have gf:∀ i,W3.frozen? ⟨e.p,i,none⟩=false:=fun i=>free_of hb2
 have m1:W3.cell? ⟨q,1,none⟩=some (ptr tb):=hf.1.c1
 have HF:=Lib.hid hf
 have HCW:=Lib.hid hcw3
 have HZ:Hid (W3.cell? ⟨e.p,2,none⟩=some (.int .i64 pg)/\W3.cell? ⟨q,5+pg*4,none⟩=some (.int .u8 d0)/\W3.cell? ⟨q,5+pg*4+1,none⟩=some (.int .u8 d1)/\W3.cell? ⟨q,5+pg*4+2,none⟩=some (.int .u8 d2)/\W3.cell? ⟨q,5+pg*4+3,none⟩=some (.int .u8 d3)):=Lib.hid (by
  have hqq:W3.heap[q]?=w.heap[q]?:=hq2.trans h.que.symm
  have:=hb2.at.c2
  refine⟨by rw[<-hL.page];exact this,(World.cell?_of_block (w:=w) (a:=⟨q,5+pg*4,none⟩) hqq).trans k0,(World.cell?_of_block (w:=w) (a:=⟨q,5+pg*4+1,none⟩) hqq).trans k1,(World.cell?_of_block (w:=w) (a:=⟨q,5+pg*4+2,none⟩) hqq).trans k2,(World.cell?_of_block (w:=w) (a:=⟨q,5+pg*4+3,none⟩) hqq).trans k3⟩)
 have HW2:=Lib.hid hW2
 clear hW2
 clear h hR hL he hw hs hb1 hc1 hq1 hq2 hb2 hcw2 hcw3 hf k0 k1 k2 k3 hq10 hc2
 go_enter Tryx.func72,Tryz.ntmps72
 go_wp2_with fail
 have Z1:W3.cell? ⟨e.p,2,none⟩=some (.int .i64 pg):=HZ.out.1
 have Z2:=HZ.out.2.1
 have Z3:=HZ.out.2.2.1
 have Z4:=HZ.out.2.2.2.1
 have Z5:=HZ.out.2.2.2.2
 rw[<-HW2.out]at Z1 Z2 Z3 Z4 Z5
 go_region_held3 (fun w'=>w'.cell? ⟨e.p,2,none⟩=some (.int .i64 pg)/\w'.cell? ⟨q,5+pg*4,none⟩=some (.int .u8 d0)/\w'.cell? ⟨q,5+pg*4+1,none⟩=some (.int .u8 d1)/\w'.cell? ⟨q,5+pg*4+2,none⟩=some (.int .u8 d2)/\w'.cell? ⟨q,5+pg*4+3,none⟩=some (.int .u8 d3)) (first | (go_keep;done) | (exact⟨Z1,Z2,Z3,Z4,Z5⟩)) (fail)
 rw[HW2.out]
 go_wp2_with fail
 refine (land_any tb mb clock s.last s.held _ _ HF.out.1.tab _ HF.out.2).mono ?_
 rintro x w' ⟨rfl,hT,hc⟩
 go_wp2_with fail
 go_end0
 exact⟨rfl,land_fin HF.out.1 hT hc,(HCW.out.mono fun k _ hk=>hk.imp id .inr).then (hc.mono fun k _ hk=>.inr (.inl hk))⟩
theorem land_rd(q tb mb clock pg:Nat)(fv:Value)(s:Sta)(w:World)(e:Ent)(d0 d1 d2 d3:Int)(h:QB w q tb mb clock fv s)(he:e∈s.es)(hL:LandB w q tb fv s e pg d0 d1 d2 d3)(_ht:0<=e.r.tries/\e.r.tries<=3)(_hn:0<=s.now/\s.now<2 ^ 60)(hw:e.r.write=false)(hs:e.r.state=1):
  Calls Tryx.prog 72 #[ptr q,ptr e.p,.bool false] w fun x w'=>x=.returned (.tuple #[])/\
   QB w' q tb mb clock fv {s with es:=landE (updE s.es e.r.num fun _=>St.landR s.now s.disk false e.r) ⟨St.landR s.now s.disk false e.r,e.p,e.born⟩,disk:=St.landD s.disk false e.r}/\Chg (fun k=>k=q\/k=mb\/k=e.p) w w':=by
 have hw8:IntKind.i64.wrap (e.r.tries+1)=e.r.tries+1:=by rw[IntKind.wrap_i64];omega
 have hrf:St.landR s.now s.disk false e.r={e.r with tries:=e.r.tries+1,inAir:=false,data:=⟨d0,d1,d2,d3⟩,state:=2,alone:=e.r.alone,after:=e.r.after}:=by
  simp[St.landR,hw,hs,hL.dg]
 have hdf:St.landD s.disk false e.r=s.disk:=by simp[St.landD,hw]
 rw[hrf,hdf]
 clear hrf hdf
 have c1:=h.c1
 have hR:=hL.req
 have a1:=hR.at.c1
 have a2:=hR.at.c2
 have a3:=hR.at.c3
 have a4:=hR.at.c4
 have a5:=hR.at.c5
 have a6:=hR.at.c6
 have a7:=hR.at.c7
 have a8:=hR.at.c8
 have a9:=hR.at.c9
 have a10:=hR.at.c10
 have a11:=hR.at.c11
 have af:∀ i,w.frozen? ⟨e.p,i,none⟩=false:=fun i=>free_of hR
 have qf:∀ i,w.frozen? ⟨q,i,none⟩=false:=fun i=>free_of hL.que
 obtain⟨k0,k1,k2,k3⟩:=hL.disk
 have hne:=h.ne_qp he
 have hne2:=hne.symm
 have hpg:=hL.p16
 have hp0:(0:Int)<=(pg:Int):=by omega
 have hp1:(pg:Int)<16:=by omega
 rw[hL.page]at a2
 rw[hs]at a7
 rw[hw]at a1
 obtain⟨W1,hW1⟩:∃ W1,(w.setCell ⟨e.p,8,none⟩ (.int .i64 (e.r.tries+1))).setCell ⟨e.p,11,none⟩ (.bool false)=W1:=⟨_,rfl⟩
 have hb1:ReqB W1 e.p {e.r with tries:=e.r.tries+1,inAir:=false}:=by rw[<-hW1];exact heap_setCell (i:=11) _ (heap_setCell (i:=8) _ hR)
 have hc1:Chg (fun k=>k=q\/k=e.p) w W1:=by rw[<-hW1];exact ((chg_set _).then (chg_set _)).mono fun k _ hk=>.inr hk
 have hq1:W1.heap[q]?=some (.cells (qCells tb fv s) 89 (0,0)):=by
  rw[<-hW1,heap_setCell_ne _ hne,heap_setCell_ne _ hne];exact h.que
 obtain⟨W2,hW2⟩:∃ W2,((((W1.setCell ⟨e.p,3,none⟩ (.int .u8 d0)).setCell ⟨e.p,3+1,none⟩ (.int .u8 d1)).setCell ⟨e.p,3+2,none⟩ (.int .u8 d2)).setCell ⟨e.p,3+3,none⟩ (.int .u8 d3)).drew=W2:=⟨_,rfl⟩
 have hc2:Chg (fun k=>k=e.p) W1 W2:=by rw[<-hW2];exact ((((chg_set _).then (chg_set _)).then (chg_set _)).then (chg_set _)).drew
 have hq2:W2.heap[q]?=some (.cells (qCells tb fv s) 89 (0,0)):=(hc2.block _ (lt_of_heap hq1) hne).trans hq1
 have hb2:ReqB W2 e.p {e.r with tries:=e.r.tries+1,inAir:=false,data:=⟨d0,d1,d2,d3⟩}:=by
  rw[<-hW2]
  exact heap_setCell (i:=6) _ (heap_setCell (i:=5) _ (heap_setCell (i:=4) _ (heap_setCell (i:=3) _ hb1)))
 have hcw2:Chg (fun k=>k=q\/k=e.p) w W2:=hc1.then (hc2.mono fun k _ hk=>.inr hk)
 obtain⟨W3,hW3⟩:∃ W3,W2.setCell ⟨e.p,7,none⟩ (.int .i64 2)=W3:=⟨_,rfl⟩
 have hc3:Chg (fun k=>k=e.p) W2 W3:=by rw[<-hW3];exact chg_set _
 have hf:=land_end (W:=W3) h he (r':={e.r with tries:=e.r.tries+1,inAir:=false,data:=⟨d0,d1,d2,d3⟩,state:=2}) (disk':=s.disk) ⟨rfl,rfl⟩ (by exact h.disk) ((hc3.block _ (lt_of_heap hq2) hne).trans hq2) (by rw[<-hW3];exact heap_setCell (i:=7) _ hb2) (hcw2.then (hc3.mono fun k _ hk=>.inr hk))
 have hcw3:Chg (fun k=>k=q\/k=e.p) w W3:=hcw2.then (hc3.mono fun k _ hk=>.inr hk)
 have b1:W1.cell? ⟨e.p,1,none⟩=some (.bool false):=by have:=hb1.at.c1;rw[<-hw];exact this
 have b2:W1.cell? ⟨e.p,2,none⟩=some (.int .i64 pg):=by have:=hb1.at.c2;rw[<-hL.page];exact this
 have b3:W1.cell? ⟨e.p,3,none⟩=some (.int .u8 e.r.data.a):=hb1.at.c3
 have b4:W1.cell? ⟨e.p,3+1,none⟩=some (.int .u8 e.r.data.b):=hb1.at.c4
 have b5:W1.cell? ⟨e.p,3+2,none⟩=some (.int .u8 e.r.data.c):=hb1.at.c5
 have b6:W1.cell? ⟨e.p,3+3,none⟩=some (.int .u8 e.r.data.d):=hb1.at.c6
 have bf:∀ i,W1.frozen? ⟨e.p,i,none⟩=false:=fun i=>free_of hb1
 have df:∀ i,W1.frozen? ⟨q,i,none⟩=false:=fun i=>free_of hq1
 have hq10:W1.heap[q]?=w.heap[q]?:=hq1.trans h.que.symm
 have l0:W1.cell? ⟨q,5+pg*4,none⟩=some (.int .u8 d0):=(World.cell?_of_block (w:=w) (a:=⟨q,5+pg*4,none⟩) hq10).trans k0
 have l1:W1.cell? ⟨q,5+pg*4+1,none⟩=some (.int .u8 d1):=(World.cell?_of_block (w:=w) (a:=⟨q,5+pg*4+1,none⟩) hq10).trans k1
 have l2:W1.cell? ⟨q,5+pg*4+2,none⟩=some (.int .u8 d2):=(World.cell?_of_block (w:=w) (a:=⟨q,5+pg*4+2,none⟩) hq10).trans k2
 have l3:W1.cell? ⟨q,5+pg*4+3,none⟩=some (.int .u8 d3):=(World.cell?_of_block (w:=w) (a:=⟨q,5+pg*4+3,none⟩) hq10).trans k3
 have g7:W2.cell? ⟨e.p,7,none⟩=some (.int .i64 1):=by have:=hb2.at.c7;simp only[hs]at this;exact this
 have g8:W2.cell? ⟨e.p,8,none⟩=some (.int .i64 (e.r.tries+1)):=hb2.at.c8
 have g10:W2.cell? ⟨e.p,10,none⟩=some (.bool e.r.alone):=hb2.at.c10
 have gf:∀ i,W2.frozen? ⟨e.p,i,none⟩=false:=fun i=>free_of hb2
 have m1:W3.cell? ⟨q,1,none⟩=some (ptr tb):=hf.1.c1
 have HF:=Lib.hid hf
 have HCW:=Lib.hid hcw3
 have HZ:Hid (W2.cell? ⟨e.p,2,none⟩=some (.int .i64 pg)/\W2.cell? ⟨q,5+pg*4,none⟩=some (.int .u8 d0)/\W2.cell? ⟨q,5+pg*4+1,none⟩=some (.int .u8 d1)/\W2.cell? ⟨q,5+pg*4+2,none⟩=some (.int .u8 d2)/\W2.cell? ⟨q,5+pg*4+3,none⟩=some (.int .u8 d3)):=Lib.hid (by
  have hqq:W2.heap[q]?=w.heap[q]?:=hq2.trans h.que.symm
  have:=hb2.at.c2
  refine⟨by rw[<-hL.page];exact this,(World.cell?_of_block (w:=w) (a:=⟨q,5+pg*4,none⟩) hqq).trans k0,(World.cell?_of_block (w:=w) (a:=⟨q,5+pg*4+1,none⟩) hqq).trans k1,(World.cell?_of_block (w:=w) (a:=⟨q,5+pg*4+2,none⟩) hqq).trans k2,(World.cell?_of_block (w:=w) (a:=⟨q,5+pg*4+3,none⟩) hqq).trans k3⟩)
 have HW2:=Lib.hid hW2
 clear hW2
 clear h hR hL he hw hs hb1 hc1 hq1 hq2 hb2 hcw2 hcw3 hf k0 k1 k2 k3 hq10 hc2 hc3
 go_enter Tryx.func72,Tryz.ntmps72
 go_wp2_with fail
 have Z1:W2.cell? ⟨e.p,2,none⟩=some (.int .i64 pg):=HZ.out.1
 have Z2:=HZ.out.2.1
 have Z3:=HZ.out.2.2.1
 have Z4:=HZ.out.2.2.2.1
 have Z5:=HZ.out.2.2.2.2
 rw[<-HW2.out]at Z1 Z2 Z3 Z4 Z5
 go_region_held3 (fun w'=>w'.cell? ⟨e.p,2,none⟩=some (.int .i64 pg)/\w'.cell? ⟨q,5+pg*4,none⟩=some (.int .u8 d0)/\w'.cell? ⟨q,5+pg*4+1,none⟩=some (.int .u8 d1)/\w'.cell? ⟨q,5+pg*4+2,none⟩=some (.int .u8 d2)/\w'.cell? ⟨q,5+pg*4+3,none⟩=some (.int .u8 d3)) (first | (go_keep;done) | (exact⟨Z1,Z2,Z3,Z4,Z5⟩)) (fail)
 rw[HW2.out]
 go_wp2_with fail
 refine (land_any tb mb clock s.last s.held _ _ HF.out.1.tab _ HF.out.2).mono ?_
 rintro x w' ⟨rfl,hT,hc⟩
 go_wp2_with fail
 go_end0
 exact⟨rfl,land_fin HF.out.1 hT hc,(HCW.out.mono fun k _ hk=>hk.imp id .inr).then (hc.mono fun k _ hk=>.inr (.inl hk))⟩
theorem land_fn(q tb mb clock pg:Nat)(fv:Value)(s:Sta)(w:World)(e:Ent)(d0 d1 d2 d3:Int)(h:QB w q tb mb clock fv s)(he:e∈s.es)(hL:LandB w q tb fv s e pg d0 d1 d2 d3)(_ht:0<=e.r.tries/\e.r.tries<=3)(_hn:0<=s.now/\s.now<2 ^ 60)(hs:e.r.state≠1):
  Calls Tryx.prog 72 #[ptr q,ptr e.p,.bool true] w fun x w'=>x=.returned (.tuple #[])/\
   QB w' q tb mb clock fv {s with es:=landE (updE s.es e.r.num fun _=>St.landR s.now s.disk true e.r) ⟨St.landR s.now s.disk true e.r,e.p,e.born⟩,disk:=St.landD s.disk true e.r}/\Chg (fun k=>k=q\/k=mb\/k=e.p) w w':=by
 have hw8:IntKind.i64.wrap (e.r.tries+1)=e.r.tries+1:=by rw[IntKind.wrap_i64];omega
 have hrf:St.landR s.now s.disk true e.r={e.r with tries:=e.r.tries+1,inAir:=false,data:=e.r.data,state:=e.r.state,alone:=e.r.alone,after:=e.r.after}:=by
  simp[St.landR,hs]
 have hdf:St.landD s.disk true e.r=s.disk:=by simp[St.landD]
 rw[hrf,hdf]
 clear hrf hdf
 have c1:=h.c1
 have hR:=hL.req
 have a1:=hR.at.c1
 have a2:=hR.at.c2
 have a3:=hR.at.c3
 have a4:=hR.at.c4
 have a5:=hR.at.c5
 have a6:=hR.at.c6
 have a7:=hR.at.c7
 have a8:=hR.at.c8
 have a9:=hR.at.c9
 have a10:=hR.at.c10
 have a11:=hR.at.c11
 have af:∀ i,w.frozen? ⟨e.p,i,none⟩=false:=fun i=>free_of hR
 have qf:∀ i,w.frozen? ⟨q,i,none⟩=false:=fun i=>free_of hL.que
 obtain⟨k0,k1,k2,k3⟩:=hL.disk
 have hne:=h.ne_qp he
 have hne2:=hne.symm
 have hpg:=hL.p16
 have hp0:(0:Int)<=(pg:Int):=by omega
 have hp1:(pg:Int)<16:=by omega
 rw[hL.page]at a2
 have hsb:(e.r.state == 1)=false:=by simpa using hs
 obtain⟨W1,hW1⟩:∃ W1,(w.setCell ⟨e.p,8,none⟩ (.int .i64 (e.r.tries+1))).setCell ⟨e.p,11,none⟩ (.bool false)=W1:=⟨_,rfl⟩
 have hb1:ReqB W1 e.p {e.r with tries:=e.r.tries+1,inAir:=false}:=by rw[<-hW1];exact heap_setCell (i:=11) _ (heap_setCell (i:=8) _ hR)
 have hc1:Chg (fun k=>k=q\/k=e.p) w W1:=by rw[<-hW1];exact ((chg_set _).then (chg_set _)).mono fun k _ hk=>.inr hk
 have hq1:W1.heap[q]?=some (.cells (qCells tb fv s) 89 (0,0)):=by
  rw[<-hW1,heap_setCell_ne _ hne,heap_setCell_ne _ hne];exact h.que
 obtain⟨W2,hW2⟩:∃ W2,W1=W2:=⟨_,rfl⟩
 have hq2:W2.heap[q]?=some (.cells (qCells tb fv s) 89 (0,0)):=by rw[<-hW2];exact hq1
 have hb2:ReqB W2 e.p {e.r with tries:=e.r.tries+1,inAir:=false}:=by rw[<-hW2];exact hb1
 have hcw2:Chg (fun k=>k=q\/k=e.p) w W2:=by rw[<-hW2];exact hc1
 rw[hW2]at hW1
 obtain⟨W3,hW3⟩:∃ W3,W2=W3:=⟨_,rfl⟩
 rw[hW3]at hW1
 rw[hW3]at hq2 hb2 hcw2
 have hf:=land_end h he (r':={e.r with tries:=e.r.tries+1,inAir:=false}) (disk':=s.disk) ⟨rfl,rfl⟩ (by exact h.disk) hq2 hb2 hcw2
 have hcw3:=hcw2
 have g7:W3.cell? ⟨e.p,7,none⟩=some (.int .i64 e.r.state):=by have:=hb2.at.c7;exact this
 have g8:W3.cell? ⟨e.p,8,none⟩=some (.int .i64 (e.r.tries+1)):=hb2.at.c8
 have g10:W3.cell? ⟨e.p,10,none⟩=some (.bool e.r.alone):=hb2.at.c10
 have gf:∀ i,W3.frozen? ⟨e.p,i,none⟩=false:=fun i=>free_of hb2
 have m1:W3.cell? ⟨q,1,none⟩=some (ptr tb):=hf.1.c1
 have HF:=Lib.hid hf
 have HCW:=Lib.hid hcw3
 clear h hR hL he hs hb1 hc1 hq1 hq2 hb2 hcw2 hcw3 hf k0 k1 k2 k3
 go_enter Tryx.func72,Tryz.ntmps72
 go_wp2_with fail
 refine (land_any tb mb clock s.last s.held _ _ HF.out.1.tab _ HF.out.2).mono ?_
 rintro x w' ⟨rfl,hT,hc⟩
 go_wp2_with fail
 go_end0
 exact⟨rfl,land_fin HF.out.1 hT hc,(HCW.out.mono fun k _ hk=>hk.imp id .inr).then (hc.mono fun k _ hk=>.inr (.inl hk))⟩
theorem land_ff(q tb mb clock pg:Nat)(fv:Value)(s:Sta)(w:World)(e:Ent)(d0 d1 d2 d3:Int)(h:QB w q tb mb clock fv s)(he:e∈s.es)(hL:LandB w q tb fv s e pg d0 d1 d2 d3)(_ht:0<=e.r.tries/\e.r.tries<=3)(_hn:0<=s.now/\s.now<2 ^ 60)(hs:e.r.state=1)(h4:e.r.tries=3):
  Calls Tryx.prog 72 #[ptr q,ptr e.p,.bool true] w fun x w'=>x=.returned (.tuple #[])/\
   QB w' q tb mb clock fv {s with es:=landE (updE s.es e.r.num fun _=>St.landR s.now s.disk true e.r) ⟨St.landR s.now s.disk true e.r,e.p,e.born⟩,disk:=St.landD s.disk true e.r}/\Chg (fun k=>k=q\/k=mb\/k=e.p) w w':=by
 have hw8:IntKind.i64.wrap (e.r.tries+1)=4:=by rw[IntKind.wrap_i64];omega
 have hrf:St.landR s.now s.disk true e.r={e.r with tries:=4,inAir:=false,data:=e.r.data,state:=3,alone:=e.r.alone,after:=e.r.after}:=by
  simp[St.landR,hs,h4]
 have hdf:St.landD s.disk true e.r=s.disk:=by simp[St.landD]
 rw[hrf,hdf]
 clear hrf hdf
 have c1:=h.c1
 have hR:=hL.req
 have a1:=hR.at.c1
 have a2:=hR.at.c2
 have a3:=hR.at.c3
 have a4:=hR.at.c4
 have a5:=hR.at.c5
 have a6:=hR.at.c6
 have a7:=hR.at.c7
 have a8:=hR.at.c8
 have a9:=hR.at.c9
 have a10:=hR.at.c10
 have a11:=hR.at.c11
 have af:∀ i,w.frozen? ⟨e.p,i,none⟩=false:=fun i=>free_of hR
 have qf:∀ i,w.frozen? ⟨q,i,none⟩=false:=fun i=>free_of hL.que
 obtain⟨k0,k1,k2,k3⟩:=hL.disk
 have hne:=h.ne_qp he
 have hne2:=hne.symm
 have hpg:=hL.p16
 have hp0:(0:Int)<=(pg:Int):=by omega
 have hp1:(pg:Int)<16:=by omega
 rw[hL.page]at a2
 rw[hs]at a7
 obtain⟨W1,hW1⟩:∃ W1,(w.setCell ⟨e.p,8,none⟩ (.int .i64 (4))).setCell ⟨e.p,11,none⟩ (.bool false)=W1:=⟨_,rfl⟩
 have hb1:ReqB W1 e.p {e.r with tries:=4,inAir:=false}:=by rw[<-hW1];exact heap_setCell (i:=11) _ (heap_setCell (i:=8) _ hR)
 have hc1:Chg (fun k=>k=q\/k=e.p) w W1:=by rw[<-hW1];exact ((chg_set _).then (chg_set _)).mono fun k _ hk=>.inr hk
 have hq1:W1.heap[q]?=some (.cells (qCells tb fv s) 89 (0,0)):=by
  rw[<-hW1,heap_setCell_ne _ hne,heap_setCell_ne _ hne];exact h.que
 obtain⟨W2,hW2⟩:∃ W2,W1=W2:=⟨_,rfl⟩
 have hq2:W2.heap[q]?=some (.cells (qCells tb fv s) 89 (0,0)):=by rw[<-hW2];exact hq1
 have hb2:ReqB W2 e.p {e.r with tries:=4,inAir:=false}:=by rw[<-hW2];exact hb1
 have hcw2:Chg (fun k=>k=q\/k=e.p) w W2:=by rw[<-hW2];exact hc1
 rw[hW2]at hW1
 obtain⟨W3,hW3⟩:∃ W3,W2.setCell ⟨e.p,7,none⟩ (.int .i64 3)=W3:=⟨_,rfl⟩
 have hc3:Chg (fun k=>k=e.p) W2 W3:=by rw[<-hW3];exact chg_set _
 have hf:=land_end (W:=W3) h he (r':={e.r with tries:=4,inAir:=false,state:=3}) (disk':=s.disk) ⟨rfl,rfl⟩ (by exact h.disk) ((hc3.block _ (lt_of_heap hq2) hne).trans hq2) (by rw[<-hW3];exact heap_setCell (i:=7) _ hb2) (hcw2.then (hc3.mono fun k _ hk=>.inr hk))
 have hcw3:Chg (fun k=>k=q\/k=e.p) w W3:=hcw2.then (hc3.mono fun k _ hk=>.inr hk)
 have g7:W2.cell? ⟨e.p,7,none⟩=some (.int .i64 1):=by have:=hb2.at.c7;simp only[hs]at this;exact this
 have g8:W2.cell? ⟨e.p,8,none⟩=some (.int .i64 4):=hb2.at.c8
 have g10:W2.cell? ⟨e.p,10,none⟩=some (.bool e.r.alone):=hb2.at.c10
 have gf:∀ i,W2.frozen? ⟨e.p,i,none⟩=false:=fun i=>free_of hb2
 have m1:W3.cell? ⟨q,1,none⟩=some (ptr tb):=hf.1.c1
 have HF:=Lib.hid hf
 have HCW:=Lib.hid hcw3
 clear h hR hL he hs hb1 hc1 hq1 hq2 hb2 hcw2 hcw3 hf k0 k1 k2 k3 hc3 h4
 go_enter Tryx.func72,Tryz.ntmps72
 go_wp2_with fail
 refine (land_any tb mb clock s.last s.held _ _ HF.out.1.tab _ HF.out.2).mono ?_
 rintro x w' ⟨rfl,hT,hc⟩
 go_wp2_with fail
 go_end0
 exact⟨rfl,land_fin HF.out.1 hT hc,(HCW.out.mono fun k _ hk=>hk.imp id .inr).then (hc.mono fun k _ hk=>.inr (.inl hk))⟩
theorem land_f0(q tb mb clock pg:Nat)(fv:Value)(s:Sta)(w:World)(e:Ent)(d0 d1 d2 d3:Int)(h:QB w q tb mb clock fv s)(he:e∈s.es)(hL:LandB w q tb fv s e pg d0 d1 d2 d3)(_ht:0<=e.r.tries/\e.r.tries<=3)(_hn:0<=s.now/\s.now<2 ^ 60)(hs:e.r.state=1)(h4:e.r.tries=0):
  Calls Tryx.prog 72 #[ptr q,ptr e.p,.bool true] w fun x w'=>x=.returned (.tuple #[])/\
   QB w' q tb mb clock fv {s with es:=landE (updE s.es e.r.num fun _=>St.landR s.now s.disk true e.r) ⟨St.landR s.now s.disk true e.r,e.p,e.born⟩,disk:=St.landD s.disk true e.r}/\Chg (fun k=>k=q\/k=mb\/k=e.p) w w':=by
 have hw8:IntKind.i64.wrap (e.r.tries+1)=1:=by rw[IntKind.wrap_i64];omega
 have hrf:St.landR s.now s.disk true e.r={e.r with tries:=1,inAir:=false,data:=e.r.data,state:=0,alone:=true,after:=s.now+1}:=by
  simp[St.landR,hs,h4]
  try decide
 have hdf:St.landD s.disk true e.r=s.disk:=by simp[St.landD]
 rw[hrf,hdf]
 clear hrf hdf
 have c1:=h.c1
 have hR:=hL.req
 have a1:=hR.at.c1
 have a2:=hR.at.c2
 have a3:=hR.at.c3
 have a4:=hR.at.c4
 have a5:=hR.at.c5
 have a6:=hR.at.c6
 have a7:=hR.at.c7
 have a8:=hR.at.c8
 have a9:=hR.at.c9
 have a10:=hR.at.c10
 have a11:=hR.at.c11
 have af:∀ i,w.frozen? ⟨e.p,i,none⟩=false:=fun i=>free_of hR
 have qf:∀ i,w.frozen? ⟨q,i,none⟩=false:=fun i=>free_of hL.que
 obtain⟨k0,k1,k2,k3⟩:=hL.disk
 have hne:=h.ne_qp he
 have hne2:=hne.symm
 have hpg:=hL.p16
 have hp0:(0:Int)<=(pg:Int):=by omega
 have hp1:(pg:Int)<16:=by omega
 rw[hL.page]at a2
 rw[hs]at a7
 obtain⟨W1,hW1⟩:∃ W1,(w.setCell ⟨e.p,8,none⟩ (.int .i64 (1))).setCell ⟨e.p,11,none⟩ (.bool false)=W1:=⟨_,rfl⟩
 have hb1:ReqB W1 e.p {e.r with tries:=1,inAir:=false}:=by rw[<-hW1];exact heap_setCell (i:=11) _ (heap_setCell (i:=8) _ hR)
 have hc1:Chg (fun k=>k=q\/k=e.p) w W1:=by rw[<-hW1];exact ((chg_set _).then (chg_set _)).mono fun k _ hk=>.inr hk
 have hq1:W1.heap[q]?=some (.cells (qCells tb fv s) 89 (0,0)):=by
  rw[<-hW1,heap_setCell_ne _ hne,heap_setCell_ne _ hne];exact h.que
 obtain⟨W2,hW2⟩:∃ W2,W1=W2:=⟨_,rfl⟩
 have hq2:W2.heap[q]?=some (.cells (qCells tb fv s) 89 (0,0)):=by rw[<-hW2];exact hq1
 have hb2:ReqB W2 e.p {e.r with tries:=1,inAir:=false}:=by rw[<-hW2];exact hb1
 have hcw2:Chg (fun k=>k=q\/k=e.p) w W2:=by rw[<-hW2];exact hc1
 rw[hW2]at hW1
 obtain⟨W2b,hW2b⟩:∃ W2b,(W2.setCell ⟨e.p,7,none⟩ (.int .i64 0)).setCell ⟨e.p,10,none⟩ (.bool true)=W2b:=⟨_,rfl⟩
 have hc2b:Chg (fun k=>k=e.p) W2 W2b:=by rw[<-hW2b];exact (chg_set _).then (chg_set _)
 have hb2b:ReqB W2b e.p {e.r with tries:=1,inAir:=false,state:=0,alone:=true}:=by rw[<-hW2b];exact heap_setCell (i:=10) _ (heap_setCell (i:=7) _ hb2)
 have hq2b:W2b.heap[q]?=some (.cells (qCells tb fv s) 89 (0,0)):=(hc2b.block _ (lt_of_heap hq2) hne).trans hq2
 obtain⟨W3,hW3⟩:∃ W3,(W2b.setCell ⟨e.p,9,none⟩ (.int .i64 (s.now+1))).drew=W3:=⟨_,rfl⟩
 have hc3:Chg (fun k=>k=e.p) W2 W3:=by rw[<-hW3];exact (hc2b.then (chg_set _)).drew
 have hwn:IntKind.i64.wrap (s.now+1)=s.now+1:=by rw[IntKind.wrap_i64];omega
 have v3:W2b.cell? ⟨q,3,none⟩=some (.int .i64 s.now):=cell_of hq2b rfl
 have v8:W2b.cell? ⟨e.p,8,none⟩=some (.int .i64 1):=hb2b.at.c8
 have v9:W2b.cell? ⟨e.p,9,none⟩=some (.int .i64 e.r.after):=hb2b.at.c9
 have vf:∀ i,W2b.frozen? ⟨e.p,i,none⟩=false:=fun i=>free_of hb2b
 have hf:=land_end (W:=W3) h he (r':={e.r with tries:=1,inAir:=false,state:=0,alone:=true,after:=s.now+1}) (disk':=s.disk) ⟨rfl,rfl⟩ h.disk ((hc3.block _ (lt_of_heap hq2) hne).trans hq2) (by rw[<-hW3];exact heap_setCell (i:=9) _ hb2b) (hcw2.then (hc3.mono fun k _ hk=>.inr hk))
 have hcw3:Chg (fun k=>k=q\/k=e.p) w W3:=hcw2.then (hc3.mono fun k _ hk=>.inr hk)
 have g7:W2.cell? ⟨e.p,7,none⟩=some (.int .i64 1):=by have:=hb2.at.c7;simp only[hs]at this;exact this
 have g8:W2.cell? ⟨e.p,8,none⟩=some (.int .i64 1):=hb2.at.c8
 have g10:W2.cell? ⟨e.p,10,none⟩=some (.bool e.r.alone):=hb2.at.c10
 have gf:∀ i,W2.frozen? ⟨e.p,i,none⟩=false:=fun i=>free_of hb2
 have m1:W3.cell? ⟨q,1,none⟩=some (ptr tb):=hf.1.c1
 have HF:=Lib.hid hf
 have HCW:=Lib.hid hcw3
 have HW3:=Lib.hid hW3
 clear hW3
 clear h hR hL he hs hb1 hc1 hq1 hq2 hb2 hcw2 hcw3 hf k0 k1 k2 k3 hc3 hc2b hb2b hq2b h4
 go_enter Tryx.func72,Tryz.ntmps72
 go_wp2_with fail
 have hsh:∀ W,(Op.shift BinOp.shl IntKind.i64 1 IntKind.i64 (IntKind.i64.wrap 0)).run Tryx.prog W=.ok (.int .i64 1) W:=fun W=>by kernel_rfl
 have hmin:min (8:Int) 1=1:=by decide
 have Z1:∀ v,(W2b.setCell ⟨e.p,9,none⟩ v).drew.cell? ⟨q,3,none⟩=some (.int .i64 s.now):=fun v=>(World.cell?_setCell_other _ _ _ _ (by simp)).trans v3
 have Z2:∀ v,(W2b.setCell ⟨e.p,9,none⟩ v).drew.cell? ⟨e.p,8,none⟩=some (.int .i64 1):=fun v=>(World.cell?_setCell_other _ _ _ _ (by simp)).trans v8
 go_region_held3 (fun w'=>w'.cell? ⟨q,3,none⟩=some (.int .i64 s.now)/\w'.cell? ⟨e.p,8,none⟩=some (.int .i64 1)) (first | (go_keep;done) | (exact⟨Z1 _,Z2 _⟩)) (fail)
 rw[HW3.out]
 go_wp2_with fail
 refine (land_any tb mb clock s.last s.held _ _ HF.out.1.tab _ HF.out.2).mono ?_
 rintro x w' ⟨rfl,hT,hc⟩
 go_wp2_with fail
 go_end0
 exact⟨rfl,land_fin HF.out.1 hT hc,(HCW.out.mono fun k _ hk=>hk.imp id .inr).then (hc.mono fun k _ hk=>.inr (.inl hk))⟩
theorem land_f1(q tb mb clock pg:Nat)(fv:Value)(s:Sta)(w:World)(e:Ent)(d0 d1 d2 d3:Int)(h:QB w q tb mb clock fv s)(he:e∈s.es)(hL:LandB w q tb fv s e pg d0 d1 d2 d3)(_ht:0<=e.r.tries/\e.r.tries<=3)(_hn:0<=s.now/\s.now<2 ^ 60)(hs:e.r.state=1)(h4:e.r.tries=1):
  Calls Tryx.prog 72 #[ptr q,ptr e.p,.bool true] w fun x w'=>x=.returned (.tuple #[])/\
   QB w' q tb mb clock fv {s with es:=landE (updE s.es e.r.num fun _=>St.landR s.now s.disk true e.r) ⟨St.landR s.now s.disk true e.r,e.p,e.born⟩,disk:=St.landD s.disk true e.r}/\Chg (fun k=>k=q\/k=mb\/k=e.p) w w':=by
 have hw8:IntKind.i64.wrap (e.r.tries+1)=2:=by rw[IntKind.wrap_i64];omega
 have hrf:St.landR s.now s.disk true e.r={e.r with tries:=2,inAir:=false,data:=e.r.data,state:=0,alone:=true,after:=s.now+2}:=by
  simp[St.landR,hs,h4]
  try decide
 have hdf:St.landD s.disk true e.r=s.disk:=by simp[St.landD]
 rw[hrf,hdf]
 clear hrf hdf
 have c1:=h.c1
 have hR:=hL.req
 have a1:=hR.at.c1
 have a2:=hR.at.c2
 have a3:=hR.at.c3
 have a4:=hR.at.c4
 have a5:=hR.at.c5
 have a6:=hR.at.c6
 have a7:=hR.at.c7
 have a8:=hR.at.c8
 have a9:=hR.at.c9
 have a10:=hR.at.c10
 have a11:=hR.at.c11
 have af:∀ i,w.frozen? ⟨e.p,i,none⟩=false:=fun i=>free_of hR
 have qf:∀ i,w.frozen? ⟨q,i,none⟩=false:=fun i=>free_of hL.que
 obtain⟨k0,k1,k2,k3⟩:=hL.disk
 have hne:=h.ne_qp he
 have hne2:=hne.symm
 have hpg:=hL.p16
 have hp0:(0:Int)<=(pg:Int):=by omega
 have hp1:(pg:Int)<16:=by omega
 rw[hL.page]at a2
 rw[hs]at a7
 obtain⟨W1,hW1⟩:∃ W1,(w.setCell ⟨e.p,8,none⟩ (.int .i64 (2))).setCell ⟨e.p,11,none⟩ (.bool false)=W1:=⟨_,rfl⟩
 have hb1:ReqB W1 e.p {e.r with tries:=2,inAir:=false}:=by rw[<-hW1];exact heap_setCell (i:=11) _ (heap_setCell (i:=8) _ hR)
 have hc1:Chg (fun k=>k=q\/k=e.p) w W1:=by rw[<-hW1];exact ((chg_set _).then (chg_set _)).mono fun k _ hk=>.inr hk
 have hq1:W1.heap[q]?=some (.cells (qCells tb fv s) 89 (0,0)):=by
  rw[<-hW1,heap_setCell_ne _ hne,heap_setCell_ne _ hne];exact h.que
 obtain⟨W2,hW2⟩:∃ W2,W1=W2:=⟨_,rfl⟩
 have hq2:W2.heap[q]?=some (.cells (qCells tb fv s) 89 (0,0)):=by rw[<-hW2];exact hq1
 have hb2:ReqB W2 e.p {e.r with tries:=2,inAir:=false}:=by rw[<-hW2];exact hb1
 have hcw2:Chg (fun k=>k=q\/k=e.p) w W2:=by rw[<-hW2];exact hc1
 rw[hW2]at hW1
 obtain⟨W2b,hW2b⟩:∃ W2b,(W2.setCell ⟨e.p,7,none⟩ (.int .i64 0)).setCell ⟨e.p,10,none⟩ (.bool true)=W2b:=⟨_,rfl⟩
 have hc2b:Chg (fun k=>k=e.p) W2 W2b:=by rw[<-hW2b];exact (chg_set _).then (chg_set _)
 have hb2b:ReqB W2b e.p {e.r with tries:=2,inAir:=false,state:=0,alone:=true}:=by rw[<-hW2b];exact heap_setCell (i:=10) _ (heap_setCell (i:=7) _ hb2)
 have hq2b:W2b.heap[q]?=some (.cells (qCells tb fv s) 89 (0,0)):=(hc2b.block _ (lt_of_heap hq2) hne).trans hq2
 obtain⟨W3,hW3⟩:∃ W3,(W2b.setCell ⟨e.p,9,none⟩ (.int .i64 (s.now+2))).drew=W3:=⟨_,rfl⟩
 have hc3:Chg (fun k=>k=e.p) W2 W3:=by rw[<-hW3];exact (hc2b.then (chg_set _)).drew
 have hwn:IntKind.i64.wrap (s.now+2)=s.now+2:=by rw[IntKind.wrap_i64];omega
 have v3:W2b.cell? ⟨q,3,none⟩=some (.int .i64 s.now):=cell_of hq2b rfl
 have v8:W2b.cell? ⟨e.p,8,none⟩=some (.int .i64 2):=hb2b.at.c8
 have v9:W2b.cell? ⟨e.p,9,none⟩=some (.int .i64 e.r.after):=hb2b.at.c9
 have vf:∀ i,W2b.frozen? ⟨e.p,i,none⟩=false:=fun i=>free_of hb2b
 have hf:=land_end (W:=W3) h he (r':={e.r with tries:=2,inAir:=false,state:=0,alone:=true,after:=s.now+2}) (disk':=s.disk) ⟨rfl,rfl⟩ h.disk ((hc3.block _ (lt_of_heap hq2) hne).trans hq2) (by rw[<-hW3];exact heap_setCell (i:=9) _ hb2b) (hcw2.then (hc3.mono fun k _ hk=>.inr hk))
 have hcw3:Chg (fun k=>k=q\/k=e.p) w W3:=hcw2.then (hc3.mono fun k _ hk=>.inr hk)
 have g7:W2.cell? ⟨e.p,7,none⟩=some (.int .i64 1):=by have:=hb2.at.c7;simp only[hs]at this;exact this
 have g8:W2.cell? ⟨e.p,8,none⟩=some (.int .i64 2):=hb2.at.c8
 have g10:W2.cell? ⟨e.p,10,none⟩=some (.bool e.r.alone):=hb2.at.c10
 have gf:∀ i,W2.frozen? ⟨e.p,i,none⟩=false:=fun i=>free_of hb2
 have m1:W3.cell? ⟨q,1,none⟩=some (ptr tb):=hf.1.c1
 have HF:=Lib.hid hf
 have HCW:=Lib.hid hcw3
 have HW3:=Lib.hid hW3
 clear hW3
 clear h hR hL he hs hb1 hc1 hq1 hq2 hb2 hcw2 hcw3 hf k0 k1 k2 k3 hc3 hc2b hb2b hq2b h4
 go_enter Tryx.func72,Tryz.ntmps72
 go_wp2_with fail
 have hsh:∀ W,(Op.shift BinOp.shl IntKind.i64 1 IntKind.i64 (IntKind.i64.wrap 1)).run Tryx.prog W=.ok (.int .i64 2) W:=fun W=>by kernel_rfl
 have hmin:min (8:Int) 2=2:=by decide
 have Z1:∀ v,(W2b.setCell ⟨e.p,9,none⟩ v).drew.cell? ⟨q,3,none⟩=some (.int .i64 s.now):=fun v=>(World.cell?_setCell_other _ _ _ _ (by simp)).trans v3
 have Z2:∀ v,(W2b.setCell ⟨e.p,9,none⟩ v).drew.cell? ⟨e.p,8,none⟩=some (.int .i64 2):=fun v=>(World.cell?_setCell_other _ _ _ _ (by simp)).trans v8
 go_region_held3 (fun w'=>w'.cell? ⟨q,3,none⟩=some (.int .i64 s.now)/\w'.cell? ⟨e.p,8,none⟩=some (.int .i64 2)) (first | (go_keep;done) | (exact⟨Z1 _,Z2 _⟩)) (fail)
 rw[HW3.out]
 go_wp2_with fail
 refine (land_any tb mb clock s.last s.held _ _ HF.out.1.tab _ HF.out.2).mono ?_
 rintro x w' ⟨rfl,hT,hc⟩
 go_wp2_with fail
 go_end0
 exact⟨rfl,land_fin HF.out.1 hT hc,(HCW.out.mono fun k _ hk=>hk.imp id .inr).then (hc.mono fun k _ hk=>.inr (.inl hk))⟩
theorem land_f2(q tb mb clock pg:Nat)(fv:Value)(s:Sta)(w:World)(e:Ent)(d0 d1 d2 d3:Int)(h:QB w q tb mb clock fv s)(he:e∈s.es)(hL:LandB w q tb fv s e pg d0 d1 d2 d3)(_ht:0<=e.r.tries/\e.r.tries<=3)(_hn:0<=s.now/\s.now<2 ^ 60)(hs:e.r.state=1)(h4:e.r.tries=2):
  Calls Tryx.prog 72 #[ptr q,ptr e.p,.bool true] w fun x w'=>x=.returned (.tuple #[])/\
   QB w' q tb mb clock fv {s with es:=landE (updE s.es e.r.num fun _=>St.landR s.now s.disk true e.r) ⟨St.landR s.now s.disk true e.r,e.p,e.born⟩,disk:=St.landD s.disk true e.r}/\Chg (fun k=>k=q\/k=mb\/k=e.p) w w':=by
 have hw8:IntKind.i64.wrap (e.r.tries+1)=3:=by rw[IntKind.wrap_i64];omega
 have hrf:St.landR s.now s.disk true e.r={e.r with tries:=3,inAir:=false,data:=e.r.data,state:=0,alone:=true,after:=s.now+4}:=by
  simp[St.landR,hs,h4]
  try decide
 have hdf:St.landD s.disk true e.r=s.disk:=by simp[St.landD]
 rw[hrf,hdf]
 clear hrf hdf
 have c1:=h.c1
 have hR:=hL.req
 have a1:=hR.at.c1
 have a2:=hR.at.c2
 have a3:=hR.at.c3
 have a4:=hR.at.c4
 have a5:=hR.at.c5
 have a6:=hR.at.c6
 have a7:=hR.at.c7
 have a8:=hR.at.c8
 have a9:=hR.at.c9
 have a10:=hR.at.c10
 have a11:=hR.at.c11
 have af:∀ i,w.frozen? ⟨e.p,i,none⟩=false:=fun i=>free_of hR
 have qf:∀ i,w.frozen? ⟨q,i,none⟩=false:=fun i=>free_of hL.que
 obtain⟨k0,k1,k2,k3⟩:=hL.disk
 have hne:=h.ne_qp he
 have hne2:=hne.symm
 have hpg:=hL.p16
 have hp0:(0:Int)<=(pg:Int):=by omega
 have hp1:(pg:Int)<16:=by omega
 rw[hL.page]at a2
 rw[hs]at a7
 obtain⟨W1,hW1⟩:∃ W1,(w.setCell ⟨e.p,8,none⟩ (.int .i64 (3))).setCell ⟨e.p,11,none⟩ (.bool false)=W1:=⟨_,rfl⟩
 have hb1:ReqB W1 e.p {e.r with tries:=3,inAir:=false}:=by rw[<-hW1];exact heap_setCell (i:=11) _ (heap_setCell (i:=8) _ hR)
 have hc1:Chg (fun k=>k=q\/k=e.p) w W1:=by rw[<-hW1];exact ((chg_set _).then (chg_set _)).mono fun k _ hk=>.inr hk
 have hq1:W1.heap[q]?=some (.cells (qCells tb fv s) 89 (0,0)):=by
  rw[<-hW1,heap_setCell_ne _ hne,heap_setCell_ne _ hne];exact h.que
 obtain⟨W2,hW2⟩:∃ W2,W1=W2:=⟨_,rfl⟩
 have hq2:W2.heap[q]?=some (.cells (qCells tb fv s) 89 (0,0)):=by rw[<-hW2];exact hq1
 have hb2:ReqB W2 e.p {e.r with tries:=3,inAir:=false}:=by rw[<-hW2];exact hb1
 have hcw2:Chg (fun k=>k=q\/k=e.p) w W2:=by rw[<-hW2];exact hc1
 rw[hW2]at hW1
 obtain⟨W2b,hW2b⟩:∃ W2b,(W2.setCell ⟨e.p,7,none⟩ (.int .i64 0)).setCell ⟨e.p,10,none⟩ (.bool true)=W2b:=⟨_,rfl⟩
 have hc2b:Chg (fun k=>k=e.p) W2 W2b:=by rw[<-hW2b];exact (chg_set _).then (chg_set _)
 have hb2b:ReqB W2b e.p {e.r with tries:=3,inAir:=false,state:=0,alone:=true}:=by rw[<-hW2b];exact heap_setCell (i:=10) _ (heap_setCell (i:=7) _ hb2)
 have hq2b:W2b.heap[q]?=some (.cells (qCells tb fv s) 89 (0,0)):=(hc2b.block _ (lt_of_heap hq2) hne).trans hq2
 obtain⟨W3,hW3⟩:∃ W3,(W2b.setCell ⟨e.p,9,none⟩ (.int .i64 (s.now+4))).drew=W3:=⟨_,rfl⟩
 have hc3:Chg (fun k=>k=e.p) W2 W3:=by rw[<-hW3];exact (hc2b.then (chg_set _)).drew
 have hwn:IntKind.i64.wrap (s.now+4)=s.now+4:=by rw[IntKind.wrap_i64];omega
 have v3:W2b.cell? ⟨q,3,none⟩=some (.int .i64 s.now):=cell_of hq2b rfl
 have v8:W2b.cell? ⟨e.p,8,none⟩=some (.int .i64 3):=hb2b.at.c8
 have v9:W2b.cell? ⟨e.p,9,none⟩=some (.int .i64 e.r.after):=hb2b.at.c9
 have vf:∀ i,W2b.frozen? ⟨e.p,i,none⟩=false:=fun i=>free_of hb2b
 have hf:=land_end (W:=W3) h he (r':={e.r with tries:=3,inAir:=false,state:=0,alone:=true,after:=s.now+4}) (disk':=s.disk) ⟨rfl,rfl⟩ h.disk ((hc3.block _ (lt_of_heap hq2) hne).trans hq2) (by rw[<-hW3];exact heap_setCell (i:=9) _ hb2b) (hcw2.then (hc3.mono fun k _ hk=>.inr hk))
 have hcw3:Chg (fun k=>k=q\/k=e.p) w W3:=hcw2.then (hc3.mono fun k _ hk=>.inr hk)
 have g7:W2.cell? ⟨e.p,7,none⟩=some (.int .i64 1):=by have:=hb2.at.c7;simp only[hs]at this;exact this
 have g8:W2.cell? ⟨e.p,8,none⟩=some (.int .i64 3):=hb2.at.c8
 have g10:W2.cell? ⟨e.p,10,none⟩=some (.bool e.r.alone):=hb2.at.c10
 have gf:∀ i,W2.frozen? ⟨e.p,i,none⟩=false:=fun i=>free_of hb2
 have m1:W3.cell? ⟨q,1,none⟩=some (ptr tb):=hf.1.c1
 have HF:=Lib.hid hf
 have HCW:=Lib.hid hcw3
 have HW3:=Lib.hid hW3
 clear hW3
 clear h hR hL he hs hb1 hc1 hq1 hq2 hb2 hcw2 hcw3 hf k0 k1 k2 k3 hc3 hc2b hb2b hq2b h4
 go_enter Tryx.func72,Tryz.ntmps72
 go_wp2_with fail
 have hsh:∀ W,(Op.shift BinOp.shl IntKind.i64 1 IntKind.i64 (IntKind.i64.wrap 2)).run Tryx.prog W=.ok (.int .i64 4) W:=fun W=>by kernel_rfl
 have hmin:min (8:Int) 4=4:=by decide
 have Z1:∀ v,(W2b.setCell ⟨e.p,9,none⟩ v).drew.cell? ⟨q,3,none⟩=some (.int .i64 s.now):=fun v=>(World.cell?_setCell_other _ _ _ _ (by simp)).trans v3
 have Z2:∀ v,(W2b.setCell ⟨e.p,9,none⟩ v).drew.cell? ⟨e.p,8,none⟩=some (.int .i64 3):=fun v=>(World.cell?_setCell_other _ _ _ _ (by simp)).trans v8
 go_region_held3 (fun w'=>w'.cell? ⟨q,3,none⟩=some (.int .i64 s.now)/\w'.cell? ⟨e.p,8,none⟩=some (.int .i64 3)) (first | (go_keep;done) | (exact⟨Z1 _,Z2 _⟩)) (fail)
 rw[HW3.out]
 go_wp2_with fail
 refine (land_any tb mb clock s.last s.held _ _ HF.out.1.tab _ HF.out.2).mono ?_
 rintro x w' ⟨rfl,hT,hc⟩
 go_wp2_with fail
 go_end0
 exact⟨rfl,land_fin HF.out.1 hT hc,(HCW.out.mono fun k _ hk=>hk.imp id .inr).then (hc.mono fun k _ hk=>.inr (.inl hk))⟩
end
section
open Go.RowKit Go.Shelf Go.Lib
theorem setCells_split{b:Nat}{t:TypeId}{f:Nat×Nat}:∀ (vs:List Value) (w:World) (c:Array Value) (pre old post:List Value),w.heap[b]?=some (.cells c t f)->c.toList=pre ++ old ++ post->old.length=vs.length->
  ∃ c',(w.setCells b pre.length vs).heap[b]?=some (.cells c' t f)/\c'.toList=pre ++ vs ++ post/\Chg (fun k=>k=b) w (w.setCells b pre.length vs)
 | [],w,c,pre,old,post,h,hc,hl=>by
   have:old=[]:=List.length_eq_zero_iff.1 (by simpa using hl)
   subst this
   exact⟨c,h,hc,Chg.refl _ _⟩
 | v :: vs,w,c,pre,old,post,h,hc,hl=>by
   match old,hl with
   | o :: old,hl=>
     have h1:=heap_setCell (i:=pre.length) v h
     have hc1:(c.setIfInBounds pre.length v).toList=(pre ++ [v]) ++ old ++ post:=by
      rw[Array.toList_setIfInBounds,hc]
      simp
     obtain⟨c',e1,e2,e3⟩:=setCells_split vs (w.setCell ⟨b,pre.length,none⟩ v) _ (pre ++ [v]) old post h1 hc1 (by simpa using hl)
     rw[show (pre ++ [v]).length=pre.length+1 from by simp]at e1 e3
     refine⟨c',e1,by simpa using e2,(chg_set v).then e3⟩
abbrev zcmd:List Value:=[.bool false,.int .i64 0,.int .i64 0,.slice none 0 0]
theorem run_clear_cmd(w:World)(b o c:Nat)(ty:TypeId)(hc:∀ j,j<4->(w.cell? ⟨b,o+j,none⟩).isSome=true)(hf:∀ j,j<4->w.frozen? ⟨b,o+j,none⟩=false):
  (Builtin.clear_ #[55] ty #[.slice (some ⟨b,o,none⟩) 1 c]).run Tryx.prog w=.ok (.tuple #[]) (w.setCells b o zcmd):=by
 have hv:∀ w,(zeroValue 48).run Tryx.prog w=.ok (Value.agg #[.bool false,.int .i64 0,.int .i64 0,.slice none 0 0]) w:=fun w=>by kernel_rfl
 have hzc:(Builtin.zeroCells (Value.agg #[.bool false,.int .i64 0,.int .i64 0,.slice none 0 0]).cells 1).toList=zcmd:=by kernel_rfl
 have hst:=run_storeCells_cells (P:=Tryx.prog) b o zcmd 0 w (by simpa using hc) (by simpa using hf) (by simp[zcmd,Value.oneCell'])
 simp only[Nat.add_zero]at hst
 simp[Builtin.clear_,run_underlying Tryx.underlying55,hv,hzc,hst]
theorem del_row{w:World}{g n cap k:Nat}{cur:Array Value}{cs:List (Cmd×Value)}(hn:cs.length=n)(hk:k<n)(hb:w.heap[g]?=some (.cells cur 48 (0,0)))(_hcap:n<=cap)(hsz:cur.size=cap*4)(hrow:cur.toList.take (n*4)=cs.flatMap cmdCells):
  ∃ w1 w2,w1=w.setCells g (k*4) ((cs.drop (k+1)).flatMap cmdCells)/\w2=w1.setCells g ((n - 1)*4) zcmd/\Chg (fun i=>i=g) w w2/\Chg (fun i=>i=g) w w1/\
    (∃ cur1,w1.heap[g]?=some (.cells cur1 48 (0,0))/\cur1.size=cap*4)/\
    ∃ cur2,w2.heap[g]?=some (.cells cur2 48 (0,0))/\cur2.size=cap*4/\cur2.toList.take ((n - 1)*4)=(cs.eraseIdx k).flatMap cmdCells:=by
 have hlen:∀ l:List (Cmd×Value),(l.flatMap cmdCells).length=l.length*4:=fun l=>by
  induction l with
  | nil=>rfl
  | cons c l ih=>rw [List.flatMap_cons,List.length_append,ih];simp[cmdCells];omega
 have hsplit:cs=cs.take k ++ cs[k]'(by omega) :: cs.drop (k+1):=by
  conv=>lhs;rw[<-List.take_append_drop k cs,List.drop_eq_getElem_cons (by omega)]
 obtain⟨pre,hpre⟩:∃ pre,(cs.take k).flatMap cmdCells=pre:=⟨_,rfl⟩
 obtain⟨mid,hmid⟩:∃ mid,cmdCells (cs[k]'(by omega))=mid:=⟨_,rfl⟩
 obtain⟨tl,htl⟩:∃ tl,(cs.drop (k+1)).flatMap cmdCells=tl:=⟨_,rfl⟩
 have hpl:pre.length=k*4:=by rw[<-hpre,hlen,List.length_take];congr 1;omega
 have hml:mid.length=4:=by rw[<-hmid];rfl
 have htll:tl.length=(n - 1 - k)*4:=by rw[<-htl,hlen,List.length_drop];congr 1;omega
 have hall:cs.flatMap cmdCells=pre ++ mid ++ tl:=by
  conv=>lhs;rw[hsplit]
  rw[List.flatMap_append,List.flatMap_cons,hpre,hmid,htl,List.append_assoc]
 obtain⟨post,hpost⟩:∃ post,cur.toList.drop (n*4)=post:=⟨_,rfl⟩
 have hcur:cur.toList=pre ++ mid ++ tl ++ post:=by
  rw[<-List.take_append_drop (n*4) cur.toList,hrow,hall,hpost]
 obtain⟨old,rest,hor,hol⟩:∃ old rest,mid ++ tl=old ++ rest/\old.length=tl.length:=⟨(mid ++ tl).take tl.length,(mid ++ tl).drop tl.length,(List.take_append_drop _ _).symm,by simp⟩
 have hrl:rest.length=4:=by
  have:=congrArg List.length hor
  simp at this;omega
 have hc1:cur.toList=pre ++ old ++ (rest ++ post):=by rw[hcur,List.append_assoc,List.append_assoc,<-List.append_assoc mid,hor];simp
 obtain⟨c1,e1,e2,e3⟩:=setCells_split tl w cur pre old (rest ++ post) hb hc1 hol
 rw[hpl]at e1 e3
 have hc2:c1.toList=(pre ++ tl) ++ rest ++ post:=by rw[e2];simp
 obtain⟨c2,f1,f2,f3⟩:=setCells_split zcmd _ c1 (pre ++ tl) rest post e1 hc2 (by rw[hrl];rfl)
 have hpt:(pre ++ tl).length=(n - 1)*4:=by rw[List.length_append,hpl,htll,<-Nat.add_mul];congr 1;omega
 rw[hpt]at f1 f3
 have s1:c1.size=cap*4:=by
  rw[<-hsz,<-Array.length_toList,<-Array.length_toList,e2,hc1];simp[hol]
 have s2:c2.size=cap*4:=by
  rw[<-s1,<-Array.length_toList,<-Array.length_toList,f2,hc2];simp[hrl];omega
 have e4:=e3.then f3
 rw[htl]
 obtain⟨W1,hW1⟩:∃ W1,w.setCells g (k*4) tl=W1:=⟨_,rfl⟩
 rw[hW1]at e1 e3 f1 f3 e4
 obtain⟨W2,hW2⟩:∃ W2,W1.setCells g ((n - 1)*4) zcmd=W2:=⟨_,rfl⟩
 rw[hW2]at f1 e4
 refine⟨W1,W2,hW1.symm,hW2.symm,e4,e3,⟨c1,e1,s1⟩,c2,f1,s2,?_⟩
 have ht:((pre ++ tl) ++ (zcmd ++ post)).take ((n - 1)*4)=pre ++ tl:=by rw[<-hpt];exact List.take_left
 rw[f2,List.append_assoc,ht,List.eraseIdx_eq_take_drop_succ,List.flatMap_append,hpre,htl]
end
section
open Go.RowKit Go.Shelf Go.Lib
set_option maxRecDepth 100000
set_option maxHeartbeats 8000000
theorem setCells_drew(g:Nat):∀ (vs:List Value) (o:Nat) (w:World),w.drew.setCells g o vs=(w.setCells g o vs).drew
 | [],_,_=>rfl
 | _ :: vs,o,w=>setCells_drew g vs (o+1) (w.setCell ⟨g,o,none⟩ _)
theorem del_any(g n cap k j1:Nat)(hj1:k+1=j1)(cur:Array Value)(cs:List (Cmd×Value))(w:World)(hn:cs.length=n)(hk:k<n)(hb:w.heap[g]?=some (.cells cur 48 (0,0)))(hcap:n<=cap)(hsz:cur.size=cap*4)(hrow:cur.toList.take (n*4)=cs.flatMap cmdCells)(h1c:∀ c∈cs,c.2.oneCell'=true):
  Calls Tryx.prog 71 #[.slice (some ⟨g,0,none⟩) n cap,.int .i64 k,.int .i64 j1] w fun x w'=>x=.returned (.slice (some ⟨g,0,none⟩) (n - 1:Nat) cap)/\Chg (fun i=>i=g) w w'/\
   ∃ cur2,w'.heap[g]?=some (.cells cur2 48 (0,0))/\cur2.size=cap*4/\cur2.toList.take ((n - 1)*4)=(cs.eraseIdx k).flatMap cmdCells:=by
 have hR:=del_row hn hk hb hcap hsz hrow
 have hb1:(0:Int)<=(k:Int):=by omega
 have hb2:(k:Int)<=(j1:Int):=by omega
 have hb3:(j1:Int)<=(n:Int):=by omega
 have hb4:(n:Int)<=(cap:Int):=by omega
 have hb5:((k:Int) == (j1:Int))=false:=by simp;omega
 have hb6:(k:Int)<=(cap:Int):=by omega
 have hb7:(0:Int)<=(j1:Int):=by omega
 obtain⟨W1,W2,hW1,hW2,hc2,hc1,⟨cur1,hu1,hu2⟩,hfin⟩:=hR
 obtain⟨tl,htl⟩:∃ tl,(cs.drop (k+1)).flatMap cmdCells=tl:=⟨_,rfl⟩
 have hlen:∀ l:List (Cmd×Value),(l.flatMap cmdCells).length=l.length*4:=fun l=>by
  induction l with
  | nil=>rfl
  | cons c l ih=>rw [List.flatMap_cons,List.length_append,ih];simp[cmdCells];omega
 have htll:tl.length=(n - j1)*4:=by rw[<-htl,hlen,List.length_drop,hn,hj1]
 have hcurl:cur.toList.length=cap*4:=by rw[Array.length_toList];exact hsz
 have hnews:∀ j u,tl[j]?=some u->w.drew.cell? ((⟨g,j1*4,none⟩:Addr).add j)=some u:=fun j u hu=>by
  rw[show (⟨g,j1*4,none⟩:Addr).add j=⟨g,j1*4+j,none⟩ from by unfold Addr.add;split <;> simp_all]
  refine cell_of (w:=w.drew) hb ?_
  have hj:j<tl.length:=(List.getElem?_eq_some_iff.1 hu).1
  have h1:cur.toList[j1*4+j]?=(cs.flatMap cmdCells)[j1*4+j]?:=by
   rw[<-hrow,List.getElem?_take_of_lt (by omega)]
  have h2:cs.flatMap cmdCells=(cs.take j1).flatMap cmdCells ++ tl:=by
   rw[<-htl,hj1,<-List.flatMap_append,List.take_append_drop]
  rw[<-Array.getElem?_toList,h1,h2,List.getElem?_append_right (by rw[hlen,List.length_take];omega),hlen,List.length_take,show j1*4+j - min j1 cs.length*4=j from by omega]
  exact hu
 have hone:∀ u∈tl,u.oneCell'=true:=by
  rw[<-htl]
  intro u hu
  obtain⟨c,_,hc⟩:=List.mem_flatMap.1 hu
  have h1:=h1c c (List.drop_subset _ _ ‹_›)
  simp only[cmdCells,List.mem_cons,List.mem_nil_iff,or_false]at hc
  rcases hc with rfl | rfl | rfl | rfl
  ·rfl
  ·rfl
  ·rfl
  ·exact h1
 have hspare:∀ j,j<tl.length->(w.drew.cell? ⟨g,0+k*4+j,none⟩).isSome=true/\w.drew.frozen? ⟨g,0+k*4+j,none⟩=false:=fun j hj=>by
  refine⟨?_,free_of (w:=w.drew) hb⟩
  have hx:(0+k*4+j)<cur.size:=by omega
  rw[cell_of (w:=w.drew) (i:=0+k*4+j) hb (Array.getElem?_eq_getElem hx)];rfl
 rw[htl]at hW1
 rw[<-show (0+k*4)=k*4 from by omega]at hW1
 have HNW:=Lib.hid hnews
 have HON:=Lib.hid hone
 have HSP:=Lib.hid hspare
 have HW1:=Lib.hid hW1
 have HW2:=Lib.hid hW2
 have HC2:=Lib.hid hc2
 have HF:=Lib.hid hfin
 have HU1:=Lib.hid hu1
 have HU2:=Lib.hid hu2
 have hclr:∀ c,(Builtin.clear_ #[55] 0 #[.slice (some ⟨g,(n - 1)*4,none⟩) 1 c]).run Tryx.prog W1.drew=.ok (.tuple #[]) W2.drew:=fun c=>by
  rw[hW2,<-setCells_drew]
  refine run_clear_cmd W1.drew g ((n - 1)*4) c 0 (fun j hj=>?_) fun j hj=>free_of (w:=W1.drew) hu1
  have hx:(n - 1)*4+j<cur1.size:=by omega
  rw[cell_of (w:=W1.drew) (i:=(n - 1)*4+j) hu1 (Array.getElem?_eq_getElem hx)];rfl
 have hst:w.drew.setCells g (k*4) tl=W1.drew:=by rw[setCells_drew,hW1,show 0+k*4=k*4 from by omega]
 have HCL:=Lib.hid hclr
 have HST:=Lib.hid hst
 clear hclr hst hb hsz hrow hW1 hW2 hc2 hc1 hu1 hu2 hfin hcurl hnews hone hspare htl hlen
 by_cases hce:cap=j1
 ·have hnj:n=j1:=by omega
  subst hnj
  subst hce
  have htn:tl=[]:=List.length_eq_zero_iff.1 (by omega)
  have HNW:Hid (∀ j u,tl[j]?=some u->w.drew.cell? ((⟨g,0,none⟩:Addr).add j)=some u):=Lib.hid (fun j u hu=>by rw[htn]at hu;simp at hu)
  have HTN:=Lib.hid htn
  clear htn
  go_enter Tryx.func71,Tryz.ntmps71
  go_wp2_with fail
  obtain⟨i4,hi4,hz40,hz41,hz42⟩:=info_parts Tryz.infoC
  have hkc:k<=cap:=by omega
  go_region_law (fail)
  rw[show k=cap - 1 from by omega]
  obtain⟨n1,hn1⟩:∃ n1,cap - 1=n1:=⟨_,rfl⟩
  have HN1:=Lib.hid hn1
  rw[hn1]
  have hn2:cap - n1=1:=by omega
  have hn3:(0:Int)<=(n1:Int):=by omega
  have hn4:(n1:Int)<=(cap:Int):=by omega
  have hn5:¬cap=n1:=by omega
  have hcl:=HCL.out
  rw[hn1]at hcl
  have hst2:=HST.out
  rw[HTN.out]at hst2
  have hst3:w.drew=W1.drew:=hst2
  clear hst2
  go_wp2_with fail
  go_ret
  rw[HN1.out]
  refine⟨rfl,HC2.out.drew,?_⟩
  obtain⟨cur2,f1,f2,f3⟩:=HF.out
  rw[HN1.out]at f3
  exact⟨cur2,f1,f2,f3⟩
 ·have hce2:¬cap=j1:=hce
  go_enter Tryx.func71,Tryz.ntmps71
  go_wp2_with fail
  obtain⟨i4,hi4,hz40,hz41,hz42⟩:=info_parts Tryz.infoC
  go_region_law
   (refine step_append_room (by rfl) _ _ 55 (by rfl) 48 i4 4 Tryx.underlying55 hi4 hz41 g 0 k cap (by rfl) ⟨g,j1*4,none⟩ (n - j1) (cap - j1) tl ?hx htll HNW.out HON.out (by omega) HSP.out ?hK;case hx=>simp [Act.eval,Act.put])
  rw[show k+(n - j1)=n - 1 from by omega]
  obtain⟨n1,hn1⟩:∃ n1,n - 1=n1:=⟨_,rfl⟩
  have HN1:=Lib.hid hn1
  rw[hn1]
  have hn2:n - n1=1:=by omega
  have hn3:(0:Int)<=(n1:Int):=by omega
  have hn4:(n1:Int)<=(n:Int):=by omega
  have hn5:¬cap=n1:=by omega
  have hcl:=HCL.out
  rw[hn1]at hcl
  have hst2:=HST.out
  go_wp2_with fail
  go_ret
  rw[HN1.out]
  refine⟨rfl,HC2.out.drew,?_⟩
  obtain⟨cur2,f1,f2,f3⟩:=HF.out
  rw[HN1.out]at f3
  exact⟨cur2,f1,f2,f3⟩
end
section
open Go.RowKit Go.Shelf Go.Lib
set_option maxRecDepth 100000
def landS(fault:Bool)(s:Sta)(n:Int):Sta:=
 match s.es.find? fun e=>e.r.num == n with
 | none=>s
 | some e=>{s with es:=landE (updE s.es e.r.num fun _=>St.landR s.now s.disk fault e.r) ⟨St.landR s.now s.disk fault e.r,e.p,e.born⟩,disk:=St.landD s.disk fault e.r}
theorem landS_some{s:Sta}{e:Ent}{n:Int}(hok:EntsOk s.es)(he:e∈s.es)(hn:e.r.num=n)(fault:Bool):
  landS fault s n={s with es:=landE (updE s.es e.r.num fun _=>St.landR s.now s.disk fault e.r) ⟨St.landR s.now s.disk fault e.r,e.p,e.born⟩,disk:=St.landD s.disk fault e.r}:=by
 have hf:(s.es.find? fun x=>x.r.num == n)=some e:=by
  obtain⟨l1,l2,e1,h1,h2⟩:=hok.split he
  rw[e1,List.find?_append,List.find?_eq_none.2 (fun x hx=>by have:=h1 x hx;simp;omega),List.find?_cons_of_pos (by simp[hn])]
  rfl
 unfold landS
 rw[hf]
theorem landS_same(fault:Bool)(s:Sta)(n:Int):(landS fault s n).depth=s.depth/\(landS fault s n).cs=s.cs/\(landS fault s n).now=s.now/\(landS fault s n).last=s.last/\(landS fault s n).held=s.held/\(landS fault s n).head=s.head:=by
 unfold landS
 split <;> exact⟨rfl,rfl,rfl,rfl,rfl,rfl⟩
theorem landS_p{fault:Bool}{s:Sta}{n:Int}{x:Ent}(hx:x∈(landS fault s n).es):∃ y∈s.es,y.p=x.p:=by
 unfold landS at hx
 split at hx
 ·exact⟨x,hx,rfl⟩
 ·have h1:=mem_landE hx
  obtain⟨y,hy,rfl⟩:=List.mem_map.1 h1
  exact⟨y,hy,by split <;> rfl⟩
def landsS(fault:Bool)(s:Sta)(ns:List Int):Sta:=ns.foldl (landS fault) s
theorem landsS_p{fault:Bool}:∀ {ns:List Int} {s:Sta} {x:Ent},x∈(landsS fault s ns).es->∃ y∈s.es,y.p=x.p
 | [],_,x,hx=>⟨x,hx,rfl⟩
 | n :: ns,s,x,hx=>by
   obtain⟨y,hy,e⟩:=landsS_p (ns:=ns) (s:=landS fault s n) hx
   obtain⟨z,hz,e'⟩:=landS_p hy
   exact⟨z,hz,e'.trans e⟩
theorem landsS_same(fault:Bool):∀ (ns:List Int) (s:Sta),(landsS fault s ns).cs=s.cs/\(landsS fault s ns).now=s.now
 | [],_=>⟨rfl,rfl⟩
 | n :: ns,s=>by
   obtain⟨a,b⟩:=landsS_same fault ns (landS fault s n)
   obtain⟨_,c,d,_⟩:=landS_same fault s n
   exact⟨a.trans c,b.trans d⟩
structure LandOk(s:Sta)(n:Int)(e:Ent):Prop where
 mem:e∈s.es
 num:e.r.num=n
 tries:0<=e.r.tries/\e.r.tries<=3
theorem land_all(q tb mb clock:Nat)(fv:Value)(s:Sta)(w:World)(fault:Bool)(n:Int)(e:Ent)(h:QB w q tb mb clock fv s)(hL:LandOk s n e)(hn:0<=s.now/\s.now<2 ^ 60):
  Calls Tryx.prog 72 #[ptr q,ptr e.p,.bool fault] w fun x w'=>x=.returned (.tuple #[])/\QB w' q tb mb clock fv (landS fault s n)/\Chg (fun k=>k=q\/k=mb\/k=e.p) w w':=by
 rw[landS_some h.tab.ok hL.mem hL.num]
 have hp:=h.tab.ok.page e hL.mem
 have hB:LandB w q tb fv s e e.r.page.toNat (dget s.disk e.r.page).a (dget s.disk e.r.page).b (dget s.disk e.r.page).c (dget s.disk e.r.page).d:=⟨h.que,h.tab.reqs e hL.mem,by omega,by omega,h.disk,rfl⟩
 have ht:=hL.tries
 cases fault with
 | false=>
   by_cases hs:e.r.state=1
   ·cases hw:e.r.write with
    | true=>exact land_wd q tb mb clock _ fv s w e _ _ _ _ h hL.mem hB ht hn hw hs
    | false=>exact land_rd q tb mb clock _ fv s w e _ _ _ _ h hL.mem hB ht hn hw hs
   ·cases hw:e.r.write with
    | true=>exact land_wn q tb mb clock _ fv s w e _ _ _ _ h hL.mem hB ht hn hw hs
    | false=>exact land_rn q tb mb clock _ fv s w e _ _ _ _ h hL.mem hB ht hn hw hs
 | true=>
   by_cases hs:e.r.state=1
   ·have h4:e.r.tries=0\/e.r.tries=1\/e.r.tries=2\/e.r.tries=3:=by omega
    rcases h4 with h4 | h4 | h4 | h4
    ·exact land_f0 q tb mb clock _ fv s w e _ _ _ _ h hL.mem hB ht hn hs h4
    ·exact land_f1 q tb mb clock _ fv s w e _ _ _ _ h hL.mem hB ht hn hs h4
    ·exact land_f2 q tb mb clock _ fv s w e _ _ _ _ h hL.mem hB ht hn hs h4
    ·exact land_ff q tb mb clock _ fv s w e _ _ _ _ h hL.mem hB ht hn hs h4
   ·exact land_fn q tb mb clock _ fv s w e _ _ _ _ h hL.mem hB ht hn hs
theorem QB.dropc{w W W2:World}{q tb mb clock:Nat}{g n cap k:Nat}{s:Sta}(h:QB w q tb mb clock (.slice (some ⟨g,0,none⟩) n cap) s)(hW:Below w.heap.size w W)(hc:Chg (fun i=>i=g) W W2){cur2:Array Value}(hcap:n - 1<=cap)(hcm:cap<=maxLen)(hn:s.cs.length=n)
  (h1:W2.heap[g]?=some (.cells cur2 48 (0,0))) (h2:cur2.size=cap*4) (h3:cur2.toList.take ((n - 1)*4)=(s.cs.eraseIdx k).flatMap cmdCells) (hk:k<n):
  QB (W2.setCell ⟨q,2,none⟩ (.slice (some ⟨g,0,none⟩) (n - 1:Nat) cap)) q tb mb clock (.slice (some ⟨g,0,none⟩) (n - 1:Nat) cap) {s with cs:=s.cs.eraseIdx k}:=by
 have hW2:=(h.kept (chgB hW fun _=>False) fun _ _ x=>x)
 have hqg:q≠g:=hW2.ne_qf rfl
 have hgh:=own_heap hW2.fl (k:=g) rfl
 obtain⟨cur,hcur⟩:=hgh
 have hcc:Chg (fun i=>i=g\/i=q) W (W2.setCell ⟨q,2,none⟩ (.slice (some ⟨g,0,none⟩) (n - 1:Nat) cap)):=(hc.mono fun _ _ h=>.inl h).then ((chg_set _).mono fun _ _ h=>.inr h)
 have hlen:(s.cs.eraseIdx k).length=n - 1:=by rw[List.length_eraseIdx,if_pos (by omega),hn]
 refine⟨?_,hW2.tab.kept hcc ?_ ?_ fun e he=>?_,?_,fun c hcm2=>?_,h.disk⟩
 ·have hq2:W2.heap[q]?=W.heap[q]?:=hc.block q (lt_of_heap hW2.que) hqg
  exact heap_setCell (i:=2) _ (hq2.trans hW2.que)
 ·rintro (e | e)
  ·exact ne_of_heap hW2.tab.tab hcur (by simp) e
  ·exact hW2.ne_qt e.symm
 ·rintro (e | e)
  ·exact ne_of_heap hW2.tab.map hcur (by simp) e
  ·exact hW2.ne_qm e.symm
 ·rintro (e' | e')
  ·exact ne_of_heap (hW2.tab.reqs e he) hcur (by simp) e'
  ·exact hW2.ne_qp he e'.symm
 ·have hlen2:((s.cs.eraseIdx k).flatMap cmdCells).length=(s.cs.eraseIdx k).length*4:=by
   generalize s.cs.eraseIdx k=l
   induction l with
   | nil=>rfl
   | cons c l ih=>rw [List.flatMap_cons,List.length_append,ih];simp[cmdCells];omega
  show (W2.setCell ⟨q,2,none⟩ _).ownsRow 0 _ 4 _ (s.cs.eraseIdx k).length _
  rw[hlen]
  refine⟨by rw[hlen2,hlen],.inr ⟨g,cap,cur2,rfl,Nat.zero_le _,?_,hcap,hcm,h2,h3⟩⟩
  exact (heap_setCell_ne _ hqg.symm).trans h1
 ·have hm:c∈s.cs:=(List.eraseIdx_sublist _ _).subset hcm2
  refine ownsRow_chg (hW2.rows c hm) hcc fun i hi hh=>?_
  obtain⟨cr,hcr⟩:=own_heap (hW2.rows c hm) hi
  rcases hh with e | e
  ·rw[e]at hcr
   rw[hcur]at hcr
   simp at hcr
  ·exact hW2.ne_qr hm hi e.symm
end
section
open Go.RowKit Go.Shelf Go.Lib
set_option maxRecDepth 100000
set_option maxHeartbeats 8000000
theorem complete_no(q:Nat)(s:Sta)(F:Nat->Prop)(w:World)(k:Int)(fault:Bool)(h:QAt w q s F)(hk:k<0\/(s.cs.length:Int)<=k):
  Calls Tryx.prog 40 #[ptr q,.int .i64 k,.bool fault] w fun x w'=>x=.returned (errK 10)/\Below w.heap.size w w':=by
 obtain⟨tb,mb,clock,fv,hq,hF⟩:=h
 have c2:=hq.c2
 obtain⟨fa,fc,rfl⟩:=own_slice hq.fl
 clear hq hF
 by_cases h0:k<0
 ·have d0:decide (k<0)=true:=by simpa using h0
  go_enter Tryx.func40,Tryz.ntmps40
  go_wp2_with fail
  go_ret
  exact⟨rfl,Below.refl _ _⟩
 ·have d0:decide (k<0)=false:=by simpa using h0
  have d1:decide (k>=(s.cs.length:Int))=true:=by simp;omega
  go_enter Tryx.func40,Tryz.ntmps40
  go_wp2_with fail
  go_ret
  exact⟨rfl,Below.refl _ _⟩
theorem complete_any(q:Nat)(s:Sta)(F:Nat->Prop)(w:World)(k:Nat)(fault:Bool)(c:Cmd×Value)(h:QAt w q s F)(hk:s.cs[k]?=some c)(hn:0<=s.now/\s.now<2 ^ 60)(h4:s.cs.length<=4)(hlen:c.1.nums.length<=1000000)
  (hall:∀ j (hj:j<c.1.nums.length),∃ e,LandOk (landsS fault {s with cs:=s.cs.eraseIdx k} (c.1.nums.take j)) (c.1.nums[j]'hj) e):
  Calls Tryx.prog 40 #[ptr q,.int .i64 k,.bool fault] w fun x w'=>x=.returned .nilIface/\QAt w' q (landsS fault {s with cs:=s.cs.eraseIdx k} c.1.nums) F/\Chg F w w':=by
 obtain⟨tb,mb,clock,fv,hq,hF⟩:=h
 have c2:=hq.c2
 obtain⟨hkl,hck⟩:=List.getElem?_eq_some_iff.1 hk
 obtain⟨n,hnn⟩:∃ n,s.cs.length=n:=⟨_,rfl⟩
 obtain⟨g,cap,cur,rfl,_,hg2,hg3,hg4,hg5,hg6⟩:∃ g cap cur,fv=.slice (some ⟨g,0,none⟩) n cap/\0<=g/\w.heap[g]?=some (.cells cur 48 (0,0))/\n<=cap/\cap<=maxLen/\cur.size=cap*4/\cur.toList.take (n*4)=s.cs.flatMap cmdCells:=by
  rcases hq.fl.2 with ⟨_,h0⟩ | h1
  ·omega
  ·rw[hnn]at h1;exact h1
 rw[hnn]at hkl
 have d0:decide ((k:Int)<0)=false:=by simp
 have d1:decide ((k:Int)>=(n:Int))=false:=by simp;omega
 have hki:(k:Int)<(n:Int):=by omega
 have hcell:∀ i v,(cmdCells c)[i]?=some v->w.cell? ⟨g,k*4+i,none⟩=some v:=fun i v hv=>by
  refine cell_of hg2 ?_
  have hi:i<4:=(List.getElem?_eq_some_iff.1 hv).1
  have hfl:∀ (l:List (Cmd×Value)) (k:Nat),l[k]?=some c->(l.flatMap cmdCells)[k*4+i]?=some v:=fun l=>by
   induction l with
   | nil=>intro k hk;simp at hk
   | cons x l ih=>
     intro k hk
     match k,hk with
     | 0,hk=>
       simp at hk;subst hk
       rw[List.flatMap_cons,List.getElem?_append_left (by simp[cmdCells];omega)]
       simpa using hv
     | k+1,hk=>
       rw[List.flatMap_cons,List.getElem?_append_right (by simp[cmdCells];omega)]
       have:=ih k (by simpa using hk)
       rw[show (k+1)*4+i - (cmdCells x).length=k*4+i from by simp[cmdCells];omega]
       exact this
  have h1:=hfl s.cs k hk
  rw[<-hg6,List.getElem?_take_of_lt (by omega)]at h1
  rw[<-Array.getElem?_toList];exact h1
 obtain⟨b,v⟩:=c
 have z0:w.cell? ⟨g,k*4,none⟩=some (.bool b.write):=hcell 0 _ rfl
 have z1:w.cell? ⟨g,k*4+1,none⟩=some (.int .i64 b.page):=hcell 1 _ rfl
 have z2:w.cell? ⟨g,k*4+2,none⟩=some (.int .i64 b.count):=hcell 2 _ rfl
 have z3:w.cell? ⟨g,k*4+3,none⟩=some v:=hcell 3 _ rfl
 have hmem:(b,v)∈s.cs:=by rw[<-hck];exact List.getElem_mem _
 have hrow:w.ownsRow 0 3 1 v b.nums.length (b.nums.map fun n=>Value.int .i64 n):=hq.rows _ hmem
 obtain⟨m,hm⟩:∃ m,b.nums.length=m:=⟨_,rfl⟩
 rw[hm]at hrow
 obtain⟨va,vc,rfl⟩:=own_slice hrow
 have h1c:∀ c∈s.cs,c.2.oneCell'=true:=fun c hc=>by
  obtain⟨a,d,e⟩:=own_slice (hq.rows c hc)
  rw[e];rfl
 obtain⟨W1,hW1⟩:∃ W1,w.alloc (.cells #[.bool b.write,.int .i64 b.page,.int .i64 b.count,.slice va m vc] 48)=W1:=⟨_,rfl⟩
 have hB1:Below w.heap.size w W1:=by rw[<-hW1];exact (Below.refl _ _).alloc (Nat.le_refl _) _
 have hr1:W1.heap[w.heap.size]?=some (.cells #[.bool b.write,.int .i64 b.page,.int .i64 b.count,.slice va m vc] 48 (0,0)):=by rw[<-hW1];exact World.alloc_heap_new w _
 have hs1:W1.heap.size=w.heap.size+1:=by rw[<-hW1];simp
 have c2':W1.cell? ⟨q,2,none⟩=some (.slice (some ⟨g,0,none⟩) n cap):=by rw[<-hnn];exact (hB1.cell (p:=⟨q,2,none⟩) (lt_of_heap hq.que)).trans (by rw[hnn];exact c2)
 have HB1:=Lib.hid hB1
 have HR1:=Lib.hid hr1
 have HQ:=Lib.hid hq
 have HF:=Lib.hid hF
 have HROW:=Lib.hid hrow
 have HM:=Lib.hid hmem
 have H1:=Lib.hid h1c
 have HG2:=Lib.hid hg2
 have HG5:=Lib.hid hg5
 have HG6:=Lib.hid hg6
 have HA:=Lib.hid hall
 have hqlt:=lt_of_heap hq.que
 clear hB1 hr1 hq hF hrow hcell hmem h1c hg2 hg5 hg6 hall hck hk
 go_enter Tryx.func40,Tryz.ntmps40
 go_wp2_with fail
 rw[show (k:Int)+1=((k+1:Nat):Int)from by omega]
 refine (del_any g n cap k (k+1) rfl cur s.cs W1 hnn hkl ((HB1.out.block g (lt_of_heap HG2.out)).trans HG2.out) hg3 HG5.out HG6.out H1.out).mono ?_
 rintro x w2 ⟨rfl,hc2,cur2,e1,e2,e3⟩
 have hgl:=lt_of_heap HG2.out
 have hqg:q≠g:=HQ.out.ne_qf rfl
 have hq2:w2.heap[q]?=some (.cells (qCells tb (.slice (some ⟨g,0,none⟩) n cap) s) 89 (0,0)):=(hc2.block q (by omega) hqg).trans ((HB1.out.block q hqlt).trans HQ.out.que)
 have f2:w2.frozen? ⟨q,2,none⟩=false:=free_of hq2
 have g2:w2.cell? ⟨q,2,none⟩=some (.slice (some ⟨g,0,none⟩) n cap):=cell_of hq2 rfl
 have hQ3:=HQ.out.dropc HB1.out hc2 (by omega) hg4 hnn e1 e2 e3 hkl
 obtain⟨W3,hW3⟩:∃ W3,w2.setCell ⟨q,2,none⟩ (.slice (some ⟨g,0,none⟩) (n - 1:Nat) cap)=W3:=⟨_,rfl⟩
 rw[hW3]at hQ3
 have hc3:Chg (fun i=>i=g\/i=q) w W3:=by
  rw[<-hW3]
  exact ((chgB HB1.out _).then (hc2.mono fun _ _ h=>.inl h)).then ((chg_set _).mono fun _ _ h=>.inr h)
 have hr3:W3.heap[w.heap.size]?=some (.cells #[.bool b.write,.int .i64 b.page,.int .i64 b.count,.slice va m vc] 48 (0,0)):=by
  rw[<-hW3]
  refine (heap_setCell_ne _ (by show w.heap.size≠q;omega)).trans ((hc2.block _ (by omega) (by omega)).trans HR1.out)
 have y3:W3.cell? ⟨w.heap.size,3,none⟩=some (.slice va m vc):=cell_of hr3 rfl
 have HQ3:=Lib.hid hQ3
 have HC3:=Lib.hid hc3
 clear hc2 e1 e2 e3 hq2 hQ3 hc3 hr3
 go_wp2_with fail
 have hrow3:W3.ownsRow 0 3 1 (.slice va m vc) m (b.nums.map fun n=>Value.int .i64 n):=ownsRow_chg HROW.out HC3.out fun i hi hh=>by
  obtain⟨cr,hcr⟩:=own_heap HROW.out hi
  rcases hh with e | e
  ·rw[e,HG2.out]at hcr;simp at hcr
  ·exact HQ.out.ne_qr HM.out (k:=i) hi e.symm
 have HR3:=Lib.hid hrow3
 have hmN:m=b.nums.length:=hm.symm
 have HMN:=Lib.hid hmN
 clear hrow3 hm hmN
 go_loopg [43] m (fun kk i wr=>∃ j:Nat,kk=m - j/\j<=m/\i=.int .i64 j/\QB wr q tb mb clock (.slice (some ⟨g,0,none⟩) (n - 1:Nat) cap) (landsS fault {s with cs:=s.cs.eraseIdx k} (b.nums.take j))/\Chg (fun k=>k=q\/k=mb\/∃ e∈s.es,k=e.p) W3 wr)
 case atStart=>exact ⟨0,by simp,Nat.zero_le _,rfl,HQ3.out,Chg.refl _ _⟩
 case round=>
  obtain⟨j,rfl,hj,rfl,hQr,hCr⟩:=hrel
  by_cases hlt:j<m
  ·have hjb:j<b.nums.length:=by have:=HMN.out;omega
   obtain⟨e,hLe⟩:=HA.out j hjb
   obtain⟨sj,hsj⟩:∃ sj,landsS fault {s with cs:=s.cs.eraseIdx k} (b.nums.take j)=sj:=⟨_,rfl⟩
   simp only[hsj]at hLe
   rw[hsj]at hQr
   obtain⟨num,hnum⟩:∃ num,b.nums[j]'hjb=num:=⟨_,rfl⟩
   rw[hnum]at hLe
   have hnow:sj.now=s.now:=by rw[<-hsj];exact (landsS_same _ _ _).2
   have hnx:landsS fault {s with cs:=s.cs.eraseIdx k} (b.nums.take (j+1))=landS fault sj num:=by
    rw[<-hsj,<-hnum]
    unfold landsS
    rw[List.take_succ_eq_append_getElem hjb,List.foldl_append];rfl
   have hpe:∃ y∈s.es,y.p=e.p:=by
    have:=hLe.mem
    rw[<-hsj]at this
    exact landsS_p (s:={s with cs:=s.cs.eraseIdx k}) this
   obtain⟨gr,ca,cr,hva,hgr2,hgr6⟩:∃ gr ca cr,(Value.slice va m vc)=.slice (some ⟨gr,0,none⟩) m ca/\W3.heap[gr]?=some (.cells cr 3 (0,0))/\cr.toList.take (m*1)=b.nums.map fun n=>Value.int .i64 n:=by
    rcases HR3.out.2 with ⟨_,h0⟩ |⟨g,c,cur,x1,x2,x3,x4,x5,x6,x7⟩
    ·omega
    ·exact⟨g,c,cur,x1,x3,x7⟩
   obtain⟨rfl,rfl⟩:va=some ⟨gr,0,none⟩/\vc=ca:=by injection hva with a1 a2 a3;exact⟨a1,a3⟩
   have hngr:¬(gr=q\/gr=mb\/∃ e∈s.es,gr=e.p):=by
    rintro (e | e |⟨x,hx,e⟩)
    ·exact ne_of_heap hgr2 HQ3.out.que (by simp) e
    ·exact ne_of_heap hgr2 HQ3.out.tab.map (by simp) e
    ·exact ne_of_heap hgr2 (HQ3.out.tab.reqs x hx) (by simp) e
   have hcn:wr.cell? ⟨gr,j,none⟩=some (.int .i64 num):=by
    rw[<-hnum]
    exact (hCr.cell (p:=⟨gr,j,none⟩) (lt_of_heap hgr2) hngr).trans (row_int hgr2 hgr6 HMN.out j hjb)
   have hltI:(j:Int)<(m:Int):=by omega
   have hc1r:=hQr.c1
   have HQr:=Lib.hid hQr
   have HCr:=Lib.hid hCr
   have HLe:=Lib.hid hLe
   have HNX:=Lib.hid hnx
   have HPE:=Lib.hid hpe
   have HNW:=Lib.hid hnow
   clear hQr hCr hLe hnx hpe hnow hsj hnum hgr6 hva hngr hgr2
   go_wp2_with fail
   have hget:=get_yes tb mb clock sj.last sj.held sj.es wr HQr.out.tab e HLe.out.mem
   rw[HLe.out.num]at hget
   refine hget.mono ?_
   rintro x w5 ⟨rfl,rfl⟩
   go_wp2_with fail
   refine (land_all q tb mb clock _ sj w5 fault num e HQr.out HLe.out (by rw[HNW.out];exact hn)).mono ?_
   rintro x w6 ⟨rfl,hQ6,hC6⟩
   have HQ6:=Lib.hid hQ6
   have HC6:=Lib.hid hC6
   clear hQ6 hC6
   go_wp2_with fail
   go_roundg (m - (j+1))
   case measure=>omega
   case rel=>
    refine⟨j+1,rfl,by omega,by go_num,by rw[HNX.out];exact HQ6.out,HCr.out.then (HC6.out.mono fun i _ hi=>?_)⟩
    rcases hi with h | h | h
    ·exact .inl h
    ·exact .inr (.inl h)
    ·obtain⟨y,hy,hyp⟩:=HPE.out
     exact .inr (.inr ⟨y,hy,h.trans hyp.symm⟩)
  ·obtain rfl:j=m:=by omega
   have HQr:=Lib.hid hQr
   have HCr:=Lib.hid hCr
   clear hQr hCr
   go_wp2_with fail
   go_ret
   have htk:b.nums.take j=b.nums:=by rw[HMN.out];exact List.take_length
   have hfin:=HQr.out
   rw[htk]at hfin
   refine⟨rfl,⟨tb,mb,clock,_,hfin,fun i hi=>HF.out i ?_⟩,?_⟩
   ·rcases hi with h | h | h | h |⟨x,hx,h⟩ |⟨c,hc,h⟩
    ·exact .inl h
    ·exact .inr (.inl h)
    ·exact .inr (.inr (.inl h))
    ·exact .inr (.inr (.inr (.inl h)))
    ·obtain⟨y,hy,hyp⟩:=landsS_p (s:={s with cs:=s.cs.eraseIdx k}) hx
     exact .inr (.inr (.inr (.inr (.inl ⟨y,hy,h.trans hyp.symm⟩))))
    ·rw[(landsS_same _ _ _).1]at hc
     exact .inr (.inr (.inr (.inr (.inr ⟨c,(List.eraseIdx_sublist _ _).subset hc,h⟩))))
   ·refine (HC3.out.mono fun i _ hi=>HF.out i ?_).then (HCr.out.mono fun i _ hi=>HF.out i ?_)
    ·rcases hi with h | h
     ·exact .inr (.inr (.inr (.inl (by rw[h];rfl))))
     ·exact .inl h
    ·rcases hi with h | h |⟨x,hx,h⟩
     ·exact .inl h
     ·exact .inr (.inr (.inl h))
     ·exact .inr (.inr (.inr (.inr (.inl ⟨x,hx,h⟩))))
end
section
open Go.RowKit Go.Shelf Go.Lib
set_option maxRecDepth 100000
theorem take4{α:Type}(l:List α)(d:α)(hl:l.length=64){j:Nat}(hj:j<16):l.take (4*(j+1))=l.take (4*j) ++ [l.getD (4*j) d,l.getD (4*j+1) d,l.getD (4*j+2) d,l.getD (4*j+3) d]:=by
 have g:∀ k,k<64->l[k]?=some (l.getD k d):=fun k hk=>by
  rw[List.getD_eq_getElem?_getD,List.getElem?_eq_getElem (show k<l.length by omega)];rfl
 have e:∀ k (hk:k<l.length),l[k]=l.getD k d:=fun k hk=>by
  have:=g k (by omega)
  rw[List.getElem?_eq_getElem hk]at this
  exact Option.some.inj this
 rw[show 4*(j+1)=4*j+1+1+1+1 from by omega,List.take_succ_eq_append_getElem (by omega),List.take_succ_eq_append_getElem (by omega),List.take_succ_eq_append_getElem (by omega),List.take_succ_eq_append_getElem (by omega)]
 rw[e,e,e,e]
 simp[List.append_assoc]
theorem disk_any(q:Nat)(s:Sta)(F:Nat->Prop)(w:World)(h:QAt w q s F):
  Calls Tryx.prog 23 #[ptr q] w fun x w'=>∃ v,x=.returned v/\w'.ownsRow w.heap.size 5 1 v 64 (s.disk.map fun b=>Value.int .u8 b)/\Below w.heap.size w w':=by
 obtain⟨tb,mb,clock,fv,hq,hF⟩:=h
 obtain⟨l,hl⟩:∃ l,(s.disk.map fun b=>Value.int .u8 b)=l:=⟨_,rfl⟩
 have hll:l.length=64:=by rw[<-hl,List.length_map];exact hq.disk
 have hcell:∀ j v,l.toArray.toList[j]?=some v->w.cell? ⟨q,5+j,none⟩=some v:=fun j v hv=>hq.disk_cell j v (by rw[hl];simpa using hv)
 obtain⟨i0,hi,hz0,hz1,hz2⟩:=info_parts Tryz.infoB
 rw[hl]
 have hx:∀ k,k<64->∃ x,l.getD k undef=.int .u8 x:=fun k hk=>by
  rw[<-hl,List.getD_eq_getElem?_getD,List.getElem?_map,List.getElem?_eq_getElem (show k<s.disk.length by rw[hq.disk];exact hk)]
  exact⟨_,rfl⟩
 have HX:=Lib.hid hx
 have HL:=Lib.hid hll
 have HC:=Lib.hid hcell
 clear hq hF hll hl hcell hx
 go_enter Tryx.func23,Tryz.ntmps23
 go_wp2_with (refine wpList_load_at rfl 87 _ rfl q 5 rfl l.toArray _ HC.out Tryx.underlying87 rfl (by simp only[List.size_toArray,HL.out];kernel_rfl) ?_)
 go_loopg [3,10] 16 (fun k out i wr=>∃ j:Nat,k=16 - j/\j<=16/\i=.int .i64 j/\wr.ownsRow w.heap.size 5 1 out (4*j) (l.take (4*j))/\Below w.heap.size w wr)
 case atStart=>exact ⟨0,by simp,by omega,rfl,World.ownsRow_nil _ _ _ _,Below.refl _ _⟩
 case round=>
  obtain⟨j,rfl,hj,rfl,hrow,hB⟩:=hrel
  by_cases hlt:j<16
  ·have hix:=index_disk l HL.out j hlt
   have hT:=take4 l undef HL.out hlt
   obtain⟨b0,hb0⟩:=HX.out (4*j) (by omega)
   obtain⟨b1,hb1⟩:=HX.out (4*j+1) (by omega)
   obtain⟨b2,hb2⟩:=HX.out (4*j+2) (by omega)
   obtain⟨b3,hb3⟩:=HX.out (4*j+3) (by omega)
   rw[hb0,hb1,hb2,hb3]at hix hT
   have HT:=Lib.hid hT
   clear hT
   have hsz:=hB.size
   have hltI:(j:Int)<16:=by omega
   obtain⟨W0,hW0⟩:∃ W0,wr.alloc (.cells #[.int .u8 b0,.int .u8 b1,.int .u8 b2,.int .u8 b3] 86)=W0:=⟨_,rfl⟩
   have hb0':Below w.heap.size w W0:=by rw[<-hW0];exact hB.alloc hsz _
   have hr0:W0.heap[wr.heap.size]?=some (.cells #[.int .u8 b0,.int .u8 b1,.int .u8 b2,.int .u8 b3] 86 (0,0)):=by rw[<-hW0];exact World.alloc_heap_new wr _
   have hrow0:W0.ownsRow w.heap.size 5 1 u3 (4*j) (l.take (4*j)):=by rw[<-hW0];exact hrow.alloc _
   clear hb0 hb1 hb2 hb3 hrow
   have hs0:W0.heap.size=wr.heap.size+1:=by rw[<-hW0];simp
   have HN:=Lib.hid (World.news_of_block hr0)
   go_wp2_with (at_builtin;refine wpList_append_own _ rfl _ _ 41 rfl w.heap.size 5 i0 (.int .u8 0) 1 1 Tryx.underlying41 hi hz0 hz1 hz2 rfl (by decide) _ _ _ rfl hrow0 ⟨wr.heap.size,0,none⟩ 4 4 [.int .u8 b0,.int .u8 b1,.int .u8 b2,.int .u8 b3] rfl rfl HN.out (by simp[Value.oneCell']) ?_ ?_ ?_ ?_)
   ·unfold maxLen;omega
   ·omega
   ·omega
   intro v' w2 hown' hgrow _
   have hB2:Below w.heap.size w w2:=hb0'.grown hgrow (by omega) (fun k ek=>(hrow0.lt k ek).1)
   have hown2:w2.ownsRow w.heap.size 5 1 v' (4*(j+1)) (l.take (4*(j+1))):=by
    rw[HT.out];exact hown'
   have HO2:=Lib.hid hown2
   clear hown' hgrow hown2 hrow0
   go_wp2
   go_roundg (16 - (j+1))
   case measure=>omega
   case rel=>exact ⟨j+1,rfl,by omega,by go_num,HO2.out,hB2⟩
  ·obtain rfl:j=16:=by omega
   have HR:=Lib.hid hrow
   clear hrow
   go_wp2
   go_ret
   have h1:=HR.out
   rw[show 4*16=l.length from by rw[HL.out],List.take_length,HL.out]at h1
   exact⟨_,rfl,h1,hB⟩
end
end Go.Proofs.YticobikhndlejaaGreatDoor
