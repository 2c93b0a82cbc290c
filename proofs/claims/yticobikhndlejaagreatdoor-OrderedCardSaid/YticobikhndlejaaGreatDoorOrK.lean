/- Part 11 of the proof (see the last part). -/
import Derived.Test.YticobikhndlejaaGreatDoorOrJ
namespace Go.Proofs.YticobikhndlejaaGreatDoor
section
open Go.RowKit Go.Shelf Go.Lib
set_option maxRecDepth 100000
set_option maxHeartbeats 8000000
theorem land_wn(q tb mb clock pg:Nat)(fv:Value)(s:Sta)(w:World)(e:Ent)(d0 d1 d2 d3:Int)(h:QB w q tb mb clock fv s)(he:e∈s.es)(hL:LandB w q tb fv s e pg d0 d1 d2 d3)(_ht:0<=e.r.tries/\e.r.tries<=3)(_hn:0<=s.now/\s.now<2 ^ 60)(hw:e.r.write=true)(hs:e.r.state≠1):
  Calls Tryx.prog 72 #[ptr q,ptr e.p,.bool false] w fun x w'=>x=.returned (.tuple #[])/\
   QB w' q tb mb clock fv {s with es:=landE (updE s.es e.r.num fun _=>St.landR s.now s.disk false e.r) ⟨St.landR s.now s.disk false e.r,e.p,e.born⟩,disk:=St.landD s.disk false e.r}/\Chg (fun k=>k=q\/k=mb\/k=e.p) w w':=by
 have hw8:IntKind.i64.wrap (e.r.tries+1)=e.r.tries+1:=by rw[IntKind.wrap_i64];omega
 have hrf:St.landR s.now s.disk false e.r={e.r with tries:=e.r.tries+1,inAir:=false,data:=e.r.data,state:=e.r.state,alone:=e.r.alone,after:=e.r.after}:=by
  simp[St.landR,hw,hs]
 have hdf:St.landD s.disk false e.r=dput s.disk pg e.r.data:=by simp[St.landD,hw,hL.page]
 rw[hrf,hdf]
 clear hrf hdf
 have c1:=h.c1
 have hR:=hL.req
 have a1:=hR.at.c1
 have a2:=hR.at.c2
 have a3:=hR.at.c3
 have a4:=hR.at.c4
 have a5:=hR.at.c5
 have a6:=hR.at.c6
 have a7:=hR.at.c7
 have a8:=hR.at.c8
 have a9:=hR.at.c9
 have a10:=hR.at.c10
 have a11:=hR.at.c11
 have af:∀ i,w.frozen? ⟨e.p,i,none⟩=false:=fun i=>free_of hR
 have qf:∀ i,w.frozen? ⟨q,i,none⟩=false:=fun i=>free_of hL.que
 obtain⟨k0,k1,k2,k3⟩:=hL.disk
 have hne:=h.ne_qp he
 have hne2:=hne.symm
 have hpg:=hL.p16
 have hp0:(0:Int)<=(pg:Int):=by omega
 have hp1:(pg:Int)<16:=by omega
 rw[hL.page]at a2
 rw[hw]at a1
 have hsb:(e.r.state == 1)=false:=by simpa using hs
 obtain⟨W1,hW1⟩:∃ W1,(w.setCell ⟨e.p,8,none⟩ (.int .i64 (e.r.tries+1))).setCell ⟨e.p,11,none⟩ (.bool false)=W1:=⟨_,rfl⟩
 have hb1:ReqB W1 e.p {e.r with tries:=e.r.tries+1,inAir:=false}:=by rw[<-hW1];exact heap_setCell (i:=11) _ (heap_setCell (i:=8) _ hR)
 have hc1:Chg (fun k=>k=q\/k=e.p) w W1:=by rw[<-hW1];exact ((chg_set _).then (chg_set _)).mono fun k _ hk=>.inr hk
 have hq1:W1.heap[q]?=some (.cells (qCells tb fv s) 89 (0,0)):=by
  rw[<-hW1,heap_setCell_ne _ hne,heap_setCell_ne _ hne];exact h.que
 obtain⟨W2,hW2⟩:∃ W2,((((W1.setCell ⟨q,5+pg*4,none⟩ (.int .u8 e.r.data.a)).setCell ⟨q,5+pg*4+1,none⟩ (.int .u8 e.r.data.b)).setCell ⟨q,5+pg*4+2,none⟩ (.int .u8 e.r.data.c)).setCell ⟨q,5+pg*4+3,none⟩ (.int .u8 e.r.data.d)).drew=W2:=⟨_,rfl⟩
 have hc2:Chg (fun k=>k=q) W1 W2:=by rw[<-hW2];exact ((((chg_set _).then (chg_set _)).then (chg_set _)).then (chg_set _)).drew
 have hq2:W2.heap[q]?=some (.cells (qCells tb fv {s with disk:=dput s.disk pg e.r.data}) 89 (0,0)):=by
  rw[<-hW2,<-qCells_dput]
  exact heap_setCell (i:=5+pg*4+3) _ (heap_setCell (i:=5+pg*4+2) _ (heap_setCell (i:=5+pg*4+1) _ (heap_setCell (i:=5+pg*4) _ hq1)))
 have hb2:ReqB W2 e.p {e.r with tries:=e.r.tries+1,inAir:=false}:=(hc2.block _ (lt_of_heap hb1) hne.symm).trans hb1
 have hcw2:Chg (fun k=>k=q\/k=e.p) w W2:=hc1.then (hc2.mono fun k _ hk=>.inl hk)
 obtain⟨W3,hW3⟩:∃ W3,W2=W3:=⟨_,rfl⟩
 rw[hW3]at hW2
 rw[hW3]at hq2 hb2 hcw2
 have hf:=land_end h he (r':={e.r with tries:=e.r.tries+1,inAir:=false}) (disk':=dput s.disk pg e.r.data) ⟨rfl,rfl⟩ (by simp[dput];exact h.disk) hq2 hb2 hcw2
 have hcw3:=hcw2
 have b1:W1.cell? ⟨e.p,1,none⟩=some (.bool true):=by have:=hb1.at.c1;rw[<-hw];exact this
 have b2:W1.cell? ⟨e.p,2,none⟩=some (.int .i64 pg):=by have:=hb1.at.c2;rw[<-hL.page];exact this
 have b3:W1.cell? ⟨e.p,3,none⟩=some (.int .u8 e.r.data.a):=hb1.at.c3
 have b4:W1.cell? ⟨e.p,3+1,none⟩=some (.int .u8 e.r.data.b):=hb1.at.c4
 have b5:W1.cell? ⟨e.p,3+2,none⟩=some (.int .u8 e.r.data.c):=hb1.at.c5
 have b6:W1.cell? ⟨e.p,3+3,none⟩=some (.int .u8 e.r.data.d):=hb1.at.c6
 have bf:∀ i,W1.frozen? ⟨e.p,i,none⟩=false:=fun i=>free_of hb1
 have df:∀ i,W1.frozen? ⟨q,i,none⟩=false:=fun i=>free_of hq1
 have hq10:W1.heap[q]?=w.heap[q]?:=hq1.trans h.que.symm
 have l0:W1.cell? ⟨q,5+pg*4,none⟩=some (.int .u8 d0):=(World.cell?_of_block (w:=w) (a:=⟨q,5+pg*4,none⟩) hq10).trans k0
 have l1:W1.cell? ⟨q,5+pg*4+1,none⟩=some (.int .u8 d1):=(World.cell?_of_block (w:=w) (a:=⟨q,5+pg*4+1,none⟩) hq10).trans k1
 have l2:W1.cell? ⟨q,5+pg*4+2,none⟩=some (.int .u8 d2):=(World.cell?_of_block (w:=w) (a:=⟨q,5+pg*4+2,none⟩) hq10).trans k2
 have l3:W1.cell? ⟨q,5+pg*4+3,none⟩=some (.int .u8 d3):=(World.cell?_of_block (w:=w) (a:=⟨q,5+pg*4+3,none⟩) hq10).trans k3
 have g7:W3.cell? ⟨e.p,7,none⟩=some (.int .i64 e.r.state):=by have:=hb2.at.c7;exact this
 have g8:W3.cell? ⟨e.p,8,none⟩=some (.int .i64 (e.r.tries+1)):=hb2.at.c8
 have g10:W3.cell? ⟨e.p,10,none⟩=some (.bool e.r.alone):=hb2.at.c10
 have gf:∀ i,W3.frozen? ⟨e.p,i,none⟩=false:=fun i=>free_of hb2
 have m1:W3.cell? ⟨q,1,none⟩=some (ptr tb):=hf.1.c1
 have HF:=Lib.hid hf
 have HCW:=Lib.hid hcw3
 have HW2:=Lib.hid hW2
 clear hW2
 clear h hR hL he hw hs hb1 hc1 hq1 hq2 hb2 hcw2 hcw3 hf k0 k1 k2 k3 hq10 hc2
 go_enter Tryx.func72,Tryz.ntmps72
 go_wp2_with fail
 go_region_held3 (fun w'=>w'.cell? ⟨e.p,2,none⟩=some (.int .i64 pg)/\w'.cell? ⟨e.p,3,none⟩=some (.int .u8 e.r.data.a)/\w'.cell? ⟨e.p,3+1,none⟩=some (.int .u8 e.r.data.b)/\w'.cell? ⟨e.p,3+2,none⟩=some (.int .u8 e.r.data.c)/\w'.cell? ⟨e.p,3+3,none⟩=some (.int .u8 e.r.data.d)) (first | (go_keep;done) | (exact⟨Z1,Z2,Z3,Z4,Z5⟩)) (fail)
 rw[HW2.out]
 go_wp2_with fail
 refine (land_any tb mb clock s.last s.held _ _ HF.out.1.tab _ HF.out.2).mono ?_
 rintro x w' ⟨rfl,hT,hc⟩
 go_wp2_with fail
 go_end0
 exact⟨rfl,land_fin HF.out.1 hT hc,(HCW.out.mono fun k _ hk=>hk.imp id .inr).then (hc.mono fun k _ hk=>.inr (.inl hk))⟩
theorem land_wd(q tb mb clock pg:Nat)(fv:Value)(s:Sta)(w:World)(e:Ent)(d0 d1 d2 d3:Int)(h:QB w q tb mb clock fv s)(he:e∈s.es)(hL:LandB w q tb fv s e pg d0 d1 d2 d3)(_ht:0<=e.r.tries/\e.r.tries<=3)(_hn:0<=s.now/\s.now<2 ^ 60)(hw:e.r.write=true)(hs:e.r.state=1):
  Calls Tryx.prog 72 #[ptr q,ptr e.p,.bool false] w fun x w'=>x=.returned (.tuple #[])/\
   QB w' q tb mb clock fv {s with es:=landE (updE s.es e.r.num fun _=>St.landR s.now s.disk false e.r) ⟨St.landR s.now s.disk false e.r,e.p,e.born⟩,disk:=St.landD s.disk false e.r}/\Chg (fun k=>k=q\/k=mb\/k=e.p) w w':=by
 have hw8:IntKind.i64.wrap (e.r.tries+1)=e.r.tries+1:=by rw[IntKind.wrap_i64];omega
 have hrf:St.landR s.now s.disk false e.r={e.r with tries:=e.r.tries+1,inAir:=false,data:=e.r.data,state:=2,alone:=e.r.alone,after:=e.r.after}:=by
  simp[St.landR,hw,hs]
 have hdf:St.landD s.disk false e.r=dput s.disk pg e.r.data:=by simp[St.landD,hw,hL.page]
 rw[hrf,hdf]
 clear hrf hdf
 have c1:=h.c1
 have hR:=hL.req
 have a1:=hR.at.c1
 have a2:=hR.at.c2
 have a3:=hR.at.c3
 have a4:=hR.at.c4
 have a5:=hR.at.c5
 have a6:=hR.at.c6
 have a7:=hR.at.c7
 have a8:=hR.at.c8
 have a9:=hR.at.c9
 have a10:=hR.at.c10
 have a11:=hR.at.c11
 have af:∀ i,w.frozen? ⟨e.p,i,none⟩=false:=fun i=>free_of hR
 have qf:∀ i,w.frozen? ⟨q,i,none⟩=false:=fun i=>free_of hL.que
 obtain⟨k0,k1,k2,k3⟩:=hL.disk
 have hne:=h.ne_qp he
 have hne2:=hne.symm
 have hpg:=hL.p16
 have hp0:(0:Int)<=(pg:Int):=by omega
 have hp1:(pg:Int)<16:=by omega
 rw[hL.page]at a2
 rw[hs]at a7
 rw[hw]at a1
 obtain⟨W1,hW1⟩:∃ W1,(w.setCell ⟨e.p,8,none⟩ (.int .i64 (e.r.tries+1))).setCell ⟨e.p,11,none⟩ (.bool false)=W1:=⟨_,rfl⟩
 have hb1:ReqB W1 e.p {e.r with tries:=e.r.tries+1,inAir:=false}:=by rw[<-hW1];exact heap_setCell (i:=11) _ (heap_setCell (i:=8) _ hR)
 have hc1:Chg (fun k=>k=q\/k=e.p) w W1:=by rw[<-hW1];exact ((chg_set _).then (chg_set _)).mono fun k _ hk=>.inr hk
 have hq1:W1.heap[q]?=some (.cells (qCells tb fv s) 89 (0,0)):=by
  rw[<-hW1,heap_setCell_ne _ hne,heap_setCell_ne _ hne];exact h.que
 obtain⟨W2,hW2⟩:∃ W2,((((W1.setCell ⟨q,5+pg*4,none⟩ (.int .u8 e.r.data.a)).setCell ⟨q,5+pg*4+1,none⟩ (.int .u8 e.r.data.b)).setCell ⟨q,5+pg*4+2,none⟩ (.int .u8 e.r.data.c)).setCell ⟨q,5+pg*4+3,none⟩ (.int .u8 e.r.data.d)).drew=W2:=⟨_,rfl⟩
 have hc2:Chg (fun k=>k=q) W1 W2:=by rw[<-hW2];exact ((((chg_set _).then (chg_set _)).then (chg_set _)).then (chg_set _)).drew
 have hq2:W2.heap[q]?=some (.cells (qCells tb fv {s with disk:=dput s.disk pg e.r.data}) 89 (0,0)):=by
  rw[<-hW2,<-qCells_dput]
  exact heap_setCell (i:=5+pg*4+3) _ (heap_setCell (i:=5+pg*4+2) _ (heap_setCell (i:=5+pg*4+1) _ (heap_setCell (i:=5+pg*4) _ hq1)))
 have hb2:ReqB W2 e.p {e.r with tries:=e.r.tries+1,inAir:=false}:=(hc2.block _ (lt_of_heap hb1) hne.symm).trans hb1
 have hcw2:Chg (fun k=>k=q\/k=e.p) w W2:=hc1.then (hc2.mono fun k _ hk=>.inl hk)
 obtain⟨W3,hW3⟩:∃ W3,W2.setCell ⟨e.p,7,none⟩ (.int .i64 2)=W3:=⟨_,rfl⟩
 have hc3:Chg (fun k=>k=e.p) W2 W3:=by rw[<-hW3];exact chg_set _
 have hf:=land_end (W:=W3) h he (r':={e.r with tries:=e.r.tries+1,inAir:=false,state:=2}) (disk':=dput s.disk pg e.r.data) ⟨rfl,rfl⟩ (by simp[dput];exact h.disk) ((hc3.block _ (lt_of_heap hq2) hne).trans hq2) (by rw[<-hW3];exact heap_setCell (i:=7) _ hb2) (hcw2.then (hc3.mono fun k _ hk=>.inr hk))
 have hcw3:Chg (fun k=>k=q\/k=e.p) w W3:=hcw2.then (hc3.mono fun k _ hk=>.inr hk)
 have b1:W1.cell? ⟨e.p,1,none⟩=some (.bool true):=by have:=hb1.at.c1;rw[<-hw];exact this
 have b2:W1.cell? ⟨e.p,2,none⟩=some (.int .i64 pg):=by have:=hb1.at.c2;rw[<-hL.page];exact this
 have b3:W1.cell? ⟨e.p,3,none⟩=some (.int .u8 e.r.data.a):=hb1.at.c3
 have b4:W1.cell? ⟨e.p,3+1,none⟩=some (.int .u8 e.r.data.b):=hb1.at.c4
 have b5:W1.cell? ⟨e.p,3+2,none⟩=some (.int .u8 e.r.data.c):=hb1.at.c5
 have b6:W1.cell? ⟨e.p,3+3,none⟩=some (.int .u8 e.r.data.d):=hb1.at.c6
 have bf:∀ i,W1.frozen? ⟨e.p,i,none⟩=false:=fun i=>free_of hb1
 have df:∀ i,W1.frozen? ⟨q,i,none⟩=false:=fun i=>free_of hq1
 have hq10:W1.heap[q]?=w.heap[q]?:=hq1.trans h.que.symm
 have l0:W1.cell? ⟨q,5+pg*4,none⟩=some (.int .u8 d0):=(World.cell?_of_block (w:=w) (a:=⟨q,5+pg*4,none⟩) hq10).trans k0
 have l1:W1.cell? ⟨q,5+pg*4+1,none⟩=some (.int .u8 d1):=(World.cell?_of_block (w:=w) (a:=⟨q,5+pg*4+1,none⟩) hq10).trans k1
 have l2:W1.cell? ⟨q,5+pg*4+2,none⟩=some (.int .u8 d2):=(World.cell?_of_block (w:=w) (a:=⟨q,5+pg*4+2,none⟩) hq10).trans k2
 have l3:W1.cell? ⟨q,5+pg*4+3,none⟩=some (.int .u8 d3):=(World.cell?_of_block (w:=w) (a:=⟨q,5+pg*4+3,none⟩) hq10).trans k3
 have g7:W2.cell? ⟨e.p,7,none⟩=some (.int .i64 1):=by have:=hb2.at.c7;simp only[hs]at this;exact this
 have g8:W2.cell? ⟨e.p,8,none⟩=some (.int .i64 (e.r.tries+1)):=hb2.at.c8
 have g10:W2.cell? ⟨e.p,10,none⟩=some (.bool e.r.alone):=hb2.at.c10
 have gf:∀ i,W2.frozen? ⟨e.p,i,none⟩=false:=fun i=>free_of hb2
 have m1:W3.cell? ⟨q,1,none⟩=some (ptr tb):=hf.1.c1
 have HF:=Lib.hid hf
 have HCW:=Lib.hid hcw3
 have HW2:=Lib.hid hW2
 clear hW2
 clear h hR hL he hw hs hb1 hc1 hq1 hq2 hb2 hcw2 hcw3 hf k0 k1 k2 k3 hq10 hc2 hc3
 go_enter Tryx.func72,Tryz.ntmps72
 go_wp2_with fail
 go_region_held3 (fun w'=>w'.cell? ⟨e.p,2,none⟩=some (.int .i64 pg)/\w'.cell? ⟨e.p,3,none⟩=some (.int .u8 e.r.data.a)/\w'.cell? ⟨e.p,3+1,none⟩=some (.int .u8 e.r.data.b)/\w'.cell? ⟨e.p,3+2,none⟩=some (.int .u8 e.r.data.c)/\w'.cell? ⟨e.p,3+3,none⟩=some (.int .u8 e.r.data.d)) (first | (go_keep;done) | (exact⟨Z1,Z2,Z3,Z4,Z5⟩)) (fail)
 rw[HW2.out]
 go_wp2_with fail
 refine (land_any tb mb clock s.last s.held _ _ HF.out.1.tab _ HF.out.2).mono ?_
 rintro x w' ⟨rfl,hT,hc⟩
 go_wp2_with fail
 go_end0
 exact⟨rfl,land_fin HF.out.1 hT hc,(HCW.out.mono fun k _ hk=>hk.imp id .inr).then (hc.mono fun k _ hk=>.inr (.inl hk))⟩
theorem land_rn(q tb mb clock pg:Nat)(fv:Value)(s:Sta)(w:World)(e:Ent)(d0 d1 d2 d3:Int)(h:QB w q tb mb clock fv s)(he:e∈s.es)(hL:LandB w q tb fv s e pg d0 d1 d2 d3)(_ht:0<=e.r.tries/\e.r.tries<=3)(_hn:0<=s.now/\s.now<2 ^ 60)(hw:e.r.write=false)(hs:e.r.state≠1):
  Calls Tryx.prog 72 #[ptr q,ptr e.p,.bool false] w fun x w'=>x=.returned (.tuple #[])/\
   QB w' q tb mb clock fv {s with es:=landE (updE s.es e.r.num fun _=>St.landR s.now s.disk false e.r) ⟨St.landR s.now s.disk false e.r,e.p,e.born⟩,disk:=St.landD s.disk false e.r}/\Chg (fun k=>k=q\/k=mb\/k=e.p) w w':=by
 have hw8:IntKind.i64.wrap (e.r.tries+1)=e.r.tries+1:=by rw[IntKind.wrap_i64];omega
 have hrf:St.landR s.now s.disk false e.r={e.r with tries:=e.r.tries+1,inAir:=false,data:=⟨d0,d1,d2,d3⟩,state:=e.r.state,alone:=e.r.alone,after:=e.r.after}:=by
  simp[St.landR,hw,hs,hL.dg]
 have hdf:St.landD s.disk false e.r=s.disk:=by simp[St.landD,hw]
 rw[hrf,hdf]
 clear hrf hdf
 have c1:=h.c1
 have hR:=hL.req
 have a1:=hR.at.c1
 have a2:=hR.at.c2
 have a3:=hR.at.c3
 have a4:=hR.at.c4
 have a5:=hR.at.c5
 have a6:=hR.at.c6
 have a7:=hR.at.c7
 have a8:=hR.at.c8
 have a9:=hR.at.c9
 have a10:=hR.at.c10
 have a11:=hR.at.c11
 have af:∀ i,w.frozen? ⟨e.p,i,none⟩=false:=fun i=>free_of hR
 have qf:∀ i,w.frozen? ⟨q,i,none⟩=false:=fun i=>free_of hL.que
 obtain⟨k0,k1,k2,k3⟩:=hL.disk
 have hne:=h.ne_qp he
 have hne2:=hne.symm
 have hpg:=hL.p16
 have hp0:(0:Int)<=(pg:Int):=by omega
 have hp1:(pg:Int)<16:=by omega
 rw[hL.page]at a2
 rw[hw]at a1
 have hsb:(e.r.state == 1)=false:=by simpa using hs
 obtain⟨W1,hW1⟩:∃ W1,(w.setCell ⟨e.p,8,none⟩ (.int .i64 (e.r.tries+1))).setCell ⟨e.p,11,none⟩ (.bool false)=W1:=⟨_,rfl⟩
 have hb1:ReqB W1 e.p {e.r with tries:=e.r.tries+1,inAir:=false}:=by rw[<-hW1];exact heap_setCell (i:=11) _ (heap_setCell (i:=8) _ hR)
 have hc1:Chg (fun k=>k=q\/k=e.p) w W1:=by rw[<-hW1];exact ((chg_set _).then (chg_set _)).mono fun k _ hk=>.inr hk
 have hq1:W1.heap[q]?=some (.cells (qCells tb fv s) 89 (0,0)):=by
  rw[<-hW1,heap_setCell_ne _ hne,heap_setCell_ne _ hne];exact h.que
 obtain⟨W2,hW2⟩:∃ W2,((((W1.setCell ⟨e.p,3,none⟩ (.int .u8 d0)).setCell ⟨e.p,3+1,none⟩ (.int .u8 d1)).setCell ⟨e.p,3+2,none⟩ (.int .u8 d2)).setCell ⟨e.p,3+3,none⟩ (.int .u8 d3)).drew=W2:=⟨_,rfl⟩
 have hc2:Chg (fun k=>k=e.p) W1 W2:=by rw[<-hW2];exact ((((chg_set _).then (chg_set _)).then (chg_set _)).then (chg_set _)).drew
 have hq2:W2.heap[q]?=some (.cells (qCells tb fv s) 89 (0,0)):=(hc2.block _ (lt_of_heap hq1) hne).trans hq1
 have hb2:ReqB W2 e.p {e.r with tries:=e.r.tries+1,inAir:=false,data:=⟨d0,d1,d2,d3⟩}:=by
  rw[<-hW2]
  exact heap_setCell (i:=6) _ (heap_setCell (i:=5) _ (heap_setCell (i:=4) _ (heap_setCell (i:=3) _ hb1)))
 have hcw2:Chg (fun k=>k=q\/k=e.p) w W2:=hc1.then (hc2.mono fun k _ hk=>.inr hk)
 obtain⟨W3,hW3⟩:∃ W3,W2=W3:=⟨_,rfl⟩
 rw[hW3]at hW2
 rw[hW3]at hq2 hb2 hcw2
 have hf:=land_end h he (r':={e.r with tries:=e.r.tries+1,inAir:=false,data:=⟨d0,d1,d2,d3⟩}) (disk':=s.disk) ⟨rfl,rfl⟩ (by exact h.disk) hq2 hb2 hcw2
 have hcw3:=hcw2
 have b1:W1.cell? ⟨e.p,1,none⟩=some (.bool false):=by have:=hb1.at.c1;rw[<-hw];exact this
 have b2:W1.cell? ⟨e.p,2,none⟩=some (.int .i64 pg):=by have:=hb1.at.c2;rw[<-hL.page];exact this
 have b3:W1.cell? ⟨e.p,3,none⟩=some (.int .u8 e.r.data.a):=hb1.at.c3
 have b4:W1.cell? ⟨e.p,3+1,none⟩=some (.int .u8 e.r.data.b):=hb1.at.c4
 have b5:W1.cell? ⟨e.p,3+2,none⟩=some (.int .u8 e.r.data.c):=hb1.at.c5
 have b6:W1.cell? ⟨e.p,3+3,none⟩=some (.int .u8 e.r.data.d):=hb1.at.c6
 have bf:∀ i,W1.frozen? ⟨e.p,i,none⟩=false:=fun i=>free_of hb1
 have df:∀ i,W1.frozen? ⟨q,i,none⟩=false:=fun i=>free_of hq1
 have hq10:W1.heap[q]?=w.heap[q]?:=hq1.trans h.que.symm
 have l0:W1.cell? ⟨q,5+pg*4,none⟩=some (.int .u8 d0):=(World.cell?_of_block (w:=w) (a:=⟨q,5+pg*4,none⟩) hq10).trans k0
 have l1:W1.cell? ⟨q,5+pg*4+1,none⟩=some (.int .u8 d1):=(World.cell?_of_block (w:=w) (a:=⟨q,5+pg*4+1,none⟩) hq10).trans k1
 have l2:W1.cell? ⟨q,5+pg*4+2,none⟩=some (.int .u8 d2):=(World.cell?_of_block (w:=w) (a:=⟨q,5+pg*4+2,none⟩) hq10).trans k2
 have l3:W1.cell? ⟨q,5+pg*4+3,none⟩=some (.int .u8 d3):=(World.cell?_of_block (w:=w) (a:=⟨q,5+pg*4+3,none⟩) hq10).trans k3
 have g7:W3.cell? ⟨e.p,7,none⟩=some (.int .i64 e.r.state):=by have:=hb2.at.c7;exact this
 have g8:W3.cell? ⟨e.p,8,none⟩=some (.int .i64 (e.r.tries+1)):=hb2.at.c8
 have g10:W3.cell? ⟨e.p,10,none⟩=some (.bool e.r.alone):=hb2.at.c10
 have gf:∀ i,W3.frozen? ⟨e.p,i,none⟩=false:=fun i=>free_of hb2
 have m1:W3.cell? ⟨q,1,none⟩=some (ptr tb):=hf.1.c1
 have HF:=Lib.hid hf
 have HCW:=Lib.hid hcw3
 have HZ:Hid (W3.cell? ⟨e.p,2,none⟩=some (.int .i64 pg)/\W3.cell? ⟨q,5+pg*4,none⟩=some (.int .u8 d0)/\W3.cell? ⟨q,5+pg*4+1,none⟩=some (.int .u8 d1)/\W3.cell? ⟨q,5+pg*4+2,none⟩=some (.int .u8 d2)/\W3.cell? ⟨q,5+pg*4+3,none⟩=some (.int .u8 d3)):=Lib.hid (by
  have hqq:W3.heap[q]?=w.heap[q]?:=hq2.trans h.que.symm
  have:=hb2.at.c2
  refine⟨by rw[<-hL.page];exact this,(World.cell?_of_block (w:=w) (a:=⟨q,5+pg*4,none⟩) hqq).trans k0,(World.cell?_of_block (w:=w) (a:=⟨q,5+pg*4+1,none⟩) hqq).trans k1,(World.cell?_of_block (w:=w) (a:=⟨q,5+pg*4+2,none⟩) hqq).trans k2,(World.cell?_of_block (w:=w) (a:=⟨q,5+pg*4+3,none⟩) hqq).trans k3⟩)
 have HW2:=Lib.hid hW2
 clear hW2
 clear h hR hL he hw hs hb1 hc1 hq1 hq2 hb2 hcw2 hcw3 hf k0 k1 k2 k3 hq10 hc2
 go_enter Tryx.func72,Tryz.ntmps72
 go_wp2_with fail
 have Z1:W3.cell? ⟨e.p,2,none⟩=some (.int .i64 pg):=HZ.out.1
 have Z2:=HZ.out.2.1
 have Z3:=HZ.out.2.2.1
 have Z4:=HZ.out.2.2.2.1
 have Z5:=HZ.out.2.2.2.2
 rw[<-HW2.out]at Z1 Z2 Z3 Z4 Z5
 go_region_held3 (fun w'=>w'.cell? ⟨e.p,2,none⟩=some (.int .i64 pg)/\w'.cell? ⟨q,5+pg*4,none⟩=some (.int .u8 d0)/\w'.cell? ⟨q,5+pg*4+1,none⟩=some (.int .u8 d1)/\w'.cell? ⟨q,5+pg*4+2,none⟩=some (.int .u8 d2)/\w'.cell? ⟨q,5+pg*4+3,none⟩=some (.int .u8 d3)) (first | (go_keep;done) | (exact⟨Z1,Z2,Z3,Z4,Z5⟩)) (fail)
 rw[HW2.out]
 go_wp2_with fail
 refine (land_any tb mb clock s.last s.held _ _ HF.out.1.tab _ HF.out.2).mono ?_
 rintro x w' ⟨rfl,hT,hc⟩
 go_wp2_with fail
 go_end0
 exact⟨rfl,land_fin HF.out.1 hT hc,(HCW.out.mono fun k _ hk=>hk.imp id .inr).then (hc.mono fun k _ hk=>.inr (.inl hk))⟩
theorem land_rd(q tb mb clock pg:Nat)(fv:Value)(s:Sta)(w:World)(e:Ent)(d0 d1 d2 d3:Int)(h:QB w q tb mb clock fv s)(he:e∈s.es)(hL:LandB w q tb fv s e pg d0 d1 d2 d3)(_ht:0<=e.r.tries/\e.r.tries<=3)(_hn:0<=s.now/\s.now<2 ^ 60)(hw:e.r.write=false)(hs:e.r.state=1):
  Calls Tryx.prog 72 #[ptr q,ptr e.p,.bool false] w fun x w'=>x=.returned (.tuple #[])/\
   QB w' q tb mb clock fv {s with es:=landE (updE s.es e.r.num fun _=>St.landR s.now s.disk false e.r) ⟨St.landR s.now s.disk false e.r,e.p,e.born⟩,disk:=St.landD s.disk false e.r}/\Chg (fun k=>k=q\/k=mb\/k=e.p) w w':=by
 have hw8:IntKind.i64.wrap (e.r.tries+1)=e.r.tries+1:=by rw[IntKind.wrap_i64];omega
 have hrf:St.landR s.now s.disk false e.r={e.r with tries:=e.r.tries+1,inAir:=false,data:=⟨d0,d1,d2,d3⟩,state:=2,alone:=e.r.alone,after:=e.r.after}:=by
  simp[St.landR,hw,hs,hL.dg]
 have hdf:St.landD s.disk false e.r=s.disk:=by simp[St.landD,hw]
 rw[hrf,hdf]
 clear hrf hdf
 have c1:=h.c1
 have hR:=hL.req
 have a1:=hR.at.c1
 have a2:=hR.at.c2
 have a3:=hR.at.c3
 have a4:=hR.at.c4
 have a5:=hR.at.c5
 have a6:=hR.at.c6
 have a7:=hR.at.c7
 have a8:=hR.at.c8
 have a9:=hR.at.c9
 have a10:=hR.at.c10
 have a11:=hR.at.c11
 have af:∀ i,w.frozen? ⟨e.p,i,none⟩=false:=fun i=>free_of hR
 have qf:∀ i,w.frozen? ⟨q,i,none⟩=false:=fun i=>free_of hL.que
 obtain⟨k0,k1,k2,k3⟩:=hL.disk
 have hne:=h.ne_qp he
 have hne2:=hne.symm
 have hpg:=hL.p16
 have hp0:(0:Int)<=(pg:Int):=by omega
 have hp1:(pg:Int)<16:=by omega
 rw[hL.page]at a2
 rw[hs]at a7
 rw[hw]at a1
 obtain⟨W1,hW1⟩:∃ W1,(w.setCell ⟨e.p,8,none⟩ (.int .i64 (e.r.tries+1))).setCell ⟨e.p,11,none⟩ (.bool false)=W1:=⟨_,rfl⟩
 have hb1:ReqB W1 e.p {e.r with tries:=e.r.tries+1,inAir:=false}:=by rw[<-hW1];exact heap_setCell (i:=11) _ (heap_setCell (i:=8) _ hR)
 have hc1:Chg (fun k=>k=q\/k=e.p) w W1:=by rw[<-hW1];exact ((chg_set _).then (chg_set _)).mono fun k _ hk=>.inr hk
 have hq1:W1.heap[q]?=some (.cells (qCells tb fv s) 89 (0,0)):=by
  rw[<-hW1,heap_setCell_ne _ hne,heap_setCell_ne _ hne];exact h.que
 obtain⟨W2,hW2⟩:∃ W2,((((W1.setCell ⟨e.p,3,none⟩ (.int .u8 d0)).setCell ⟨e.p,3+1,none⟩ (.int .u8 d1)).setCell ⟨e.p,3+2,none⟩ (.int .u8 d2)).setCell ⟨e.p,3+3,none⟩ (.int .u8 d3)).drew=W2:=⟨_,rfl⟩
 have hc2:Chg (fun k=>k=e.p) W1 W2:=by rw[<-hW2];exact ((((chg_set _).then (chg_set _)).then (chg_set _)).then (chg_set _)).drew
 have hq2:W2.heap[q]?=some (.cells (qCells tb fv s) 89 (0,0)):=(hc2.block _ (lt_of_heap hq1) hne).trans hq1
 have hb2:ReqB W2 e.p {e.r with tries:=e.r.tries+1,inAir:=false,data:=⟨d0,d1,d2,d3⟩}:=by
  rw[<-hW2]
  exact heap_setCell (i:=6) _ (heap_setCell (i:=5) _ (heap_setCell (i:=4) _ (heap_setCell (i:=3) _ hb1)))
 have hcw2:Chg (fun k=>k=q\/k=e.p) w W2:=hc1.then (hc2.mono fun k _ hk=>.inr hk)
 obtain⟨W3,hW3⟩:∃ W3,W2.setCell ⟨e.p,7,none⟩ (.int .i64 2)=W3:=⟨_,rfl⟩
 have hc3:Chg (fun k=>k=e.p) W2 W3:=by rw[<-hW3];exact chg_set _
 have hf:=land_end (W:=W3) h he (r':={e.r with tries:=e.r.tries+1,inAir:=false,data:=⟨d0,d1,d2,d3⟩,state:=2}) (disk':=s.disk) ⟨rfl,rfl⟩ (by exact h.disk) ((hc3.block _ (lt_of_heap hq2) hne).trans hq2) (by rw[<-hW3];exact heap_setCell (i:=7) _ hb2) (hcw2.then (hc3.mono fun k _ hk=>.inr hk))
 have hcw3:Chg (fun k=>k=q\/k=e.p) w W3:=hcw2.then (hc3.mono fun k _ hk=>.inr hk)
 have b1:W1.cell? ⟨e.p,1,none⟩=some (.bool false):=by have:=hb1.at.c1;rw[<-hw];exact this
 have b2:W1.cell? ⟨e.p,2,none⟩=some (.int .i64 pg):=by have:=hb1.at.c2;rw[<-hL.page];exact this
 have b3:W1.cell? ⟨e.p,3,none⟩=some (.int .u8 e.r.data.a):=hb1.at.c3
 have b4:W1.cell? ⟨e.p,3+1,none⟩=some (.int .u8 e.r.data.b):=hb1.at.c4
 have b5:W1.cell? ⟨e.p,3+2,none⟩=some (.int .u8 e.r.data.c):=hb1.at.c5
 have b6:W1.cell? ⟨e.p,3+3,none⟩=some (.int .u8 e.r.data.d):=hb1.at.c6
 have bf:∀ i,W1.frozen? ⟨e.p,i,none⟩=false:=fun i=>free_of hb1
 have df:∀ i,W1.frozen? ⟨q,i,none⟩=false:=fun i=>free_of hq1
 have hq10:W1.heap[q]?=w.heap[q]?:=hq1.trans h.que.symm
 have l0:W1.cell? ⟨q,5+pg*4,none⟩=some (.int .u8 d0):=(World.cell?_of_block (w:=w) (a:=⟨q,5+pg*4,none⟩) hq10).trans k0
 have l1:W1.cell? ⟨q,5+pg*4+1,none⟩=some (.int .u8 d1):=(World.cell?_of_block (w:=w) (a:=⟨q,5+pg*4+1,none⟩) hq10).trans k1
 have l2:W1.cell? ⟨q,5+pg*4+2,none⟩=some (.int .u8 d2):=(World.cell?_of_block (w:=w) (a:=⟨q,5+pg*4+2,none⟩) hq10).trans k2
 have l3:W1.cell? ⟨q,5+pg*4+3,none⟩=some (.int .u8 d3):=(World.cell?_of_block (w:=w) (a:=⟨q,5+pg*4+3,none⟩) hq10).trans k3
 have g7:W2.cell? ⟨e.p,7,none⟩=some (.int .i64 1):=by have:=hb2.at.c7;simp only[hs]at this;exact this
 have g8:W2.cell? ⟨e.p,8,none⟩=some (.int .i64 (e.r.tries+1)):=hb2.at.c8
 have g10:W2.cell? ⟨e.p,10,none⟩=some (.bool e.r.alone):=hb2.at.c10
 have gf:∀ i,W2.frozen? ⟨e.p,i,none⟩=false:=fun i=>free_of hb2
 have m1:W3.cell? ⟨q,1,none⟩=some (ptr tb):=hf.1.c1
 have HF:=Lib.hid hf
 have HCW:=Lib.hid hcw3
 have HZ:Hid (W2.cell? ⟨e.p,2,none⟩=some (.int .i64 pg)/\W2.cell? ⟨q,5+pg*4,none⟩=some (.int .u8 d0)/\W2.cell? ⟨q,5+pg*4+1,none⟩=some (.int .u8 d1)/\W2.cell? ⟨q,5+pg*4+2,none⟩=some (.int .u8 d2)/\W2.cell? ⟨q,5+pg*4+3,none⟩=some (.int .u8 d3)):=Lib.hid (by
  have hqq:W2.heap[q]?=w.heap[q]?:=hq2.trans h.que.symm
  have:=hb2.at.c2
  refine⟨by rw[<-hL.page];exact this,(World.cell?_of_block (w:=w) (a:=⟨q,5+pg*4,none⟩) hqq).trans k0,(World.cell?_of_block (w:=w) (a:=⟨q,5+pg*4+1,none⟩) hqq).trans k1,(World.cell?_of_block (w:=w) (a:=⟨q,5+pg*4+2,none⟩) hqq).trans k2,(World.cell?_of_block (w:=w) (a:=⟨q,5+pg*4+3,none⟩) hqq).trans k3⟩)
 have HW2:=Lib.hid hW2
 clear hW2
 clear h hR hL he hw hs hb1 hc1 hq1 hq2 hb2 hcw2 hcw3 hf k0 k1 k2 k3 hq10 hc2 hc3
 go_enter Tryx.func72,Tryz.ntmps72
 go_wp2_with fail
 have Z1:W2.cell? ⟨e.p,2,none⟩=some (.int .i64 pg):=HZ.out.1
 have Z2:=HZ.out.2.1
 have Z3:=HZ.out.2.2.1
 have Z4:=HZ.out.2.2.2.1
 have Z5:=HZ.out.2.2.2.2
 rw[<-HW2.out]at Z1 Z2 Z3 Z4 Z5
 go_region_held3 (fun w'=>w'.cell? ⟨e.p,2,none⟩=some (.int .i64 pg)/\w'.cell? ⟨q,5+pg*4,none⟩=some (.int .u8 d0)/\w'.cell? ⟨q,5+pg*4+1,none⟩=some (.int .u8 d1)/\w'.cell? ⟨q,5+pg*4+2,none⟩=some (.int .u8 d2)/\w'.cell? ⟨q,5+pg*4+3,none⟩=some (.int .u8 d3)) (first | (go_keep;done) | (exact⟨Z1,Z2,Z3,Z4,Z5⟩)) (fail)
 rw[HW2.out]
 go_wp2_with fail
 refine (land_any tb mb clock s.last s.held _ _ HF.out.1.tab _ HF.out.2).mono ?_
 rintro x w' ⟨rfl,hT,hc⟩
 go_wp2_with fail
 go_end0
 exact⟨rfl,land_fin HF.out.1 hT hc,(HCW.out.mono fun k _ hk=>hk.imp id .inr).then (hc.mono fun k _ hk=>.inr (.inl hk))⟩
theorem land_fn(q tb mb clock pg:Nat)(fv:Value)(s:Sta)(w:World)(e:Ent)(d0 d1 d2 d3:Int)(h:QB w q tb mb clock fv s)(he:e∈s.es)(hL:LandB w q tb fv s e pg d0 d1 d2 d3)(_ht:0<=e.r.tries/\e.r.tries<=3)(_hn:0<=s.now/\s.now<2 ^ 60)(hs:e.r.state≠1):
  Calls Tryx.prog 72 #[ptr q,ptr e.p,.bool true] w fun x w'=>x=.returned (.tuple #[])/\
   QB w' q tb mb clock fv {s with es:=landE (updE s.es e.r.num fun _=>St.landR s.now s.disk true e.r) ⟨St.landR s.now s.disk true e.r,e.p,e.born⟩,disk:=St.landD s.disk true e.r}/\Chg (fun k=>k=q\/k=mb\/k=e.p) w w':=by
 have hw8:IntKind.i64.wrap (e.r.tries+1)=e.r.tries+1:=by rw[IntKind.wrap_i64];omega
 have hrf:St.landR s.now s.disk true e.r={e.r with tries:=e.r.tries+1,inAir:=false,data:=e.r.data,state:=e.r.state,alone:=e.r.alone,after:=e.r.after}:=by
  simp[St.landR,hs]
 have hdf:St.landD s.disk true e.r=s.disk:=by simp[St.landD]
 rw[hrf,hdf]
 clear hrf hdf
 have c1:=h.c1
 have hR:=hL.req
 have a1:=hR.at.c1
 have a2:=hR.at.c2
 have a3:=hR.at.c3
 have a4:=hR.at.c4
 have a5:=hR.at.c5
 have a6:=hR.at.c6
 have a7:=hR.at.c7
 have a8:=hR.at.c8
 have a9:=hR.at.c9
 have a10:=hR.at.c10
 have a11:=hR.at.c11
 have af:∀ i,w.frozen? ⟨e.p,i,none⟩=false:=fun i=>free_of hR
 have qf:∀ i,w.frozen? ⟨q,i,none⟩=false:=fun i=>free_of hL.que
 obtain⟨k0,k1,k2,k3⟩:=hL.disk
 have hne:=h.ne_qp he
 have hne2:=hne.symm
 have hpg:=hL.p16
 have hp0:(0:Int)<=(pg:Int):=by omega
 have hp1:(pg:Int)<16:=by omega
 rw[hL.page]at a2
 have hsb:(e.r.state == 1)=false:=by simpa using hs
 obtain⟨W1,hW1⟩:∃ W1,(w.setCell ⟨e.p,8,none⟩ (.int .i64 (e.r.tries+1))).setCell ⟨e.p,11,none⟩ (.bool false)=W1:=⟨_,rfl⟩
 have hb1:ReqB W1 e.p {e.r with tries:=e.r.tries+1,inAir:=false}:=by rw[<-hW1];exact heap_setCell (i:=11) _ (heap_setCell (i:=8) _ hR)
 have hc1:Chg (fun k=>k=q\/k=e.p) w W1:=by rw[<-hW1];exact ((chg_set _).then (chg_set _)).mono fun k _ hk=>.inr hk
 have hq1:W1.heap[q]?=some (.cells (qCells tb fv s) 89 (0,0)):=by
  rw[<-hW1,heap_setCell_ne _ hne,heap_setCell_ne _ hne];exact h.que
 obtain⟨W2,hW2⟩:∃ W2,W1=W2:=⟨_,rfl⟩
 have hq2:W2.heap[q]?=some (.cells (qCells tb fv s) 89 (0,0)):=by rw[<-hW2];exact hq1
 have hb2:ReqB W2 e.p {e.r with tries:=e.r.tries+1,inAir:=false}:=by rw[<-hW2];exact hb1
 have hcw2:Chg (fun k=>k=q\/k=e.p) w W2:=by rw[<-hW2];exact hc1
 rw[hW2]at hW1
 obtain⟨W3,hW3⟩:∃ W3,W2=W3:=⟨_,rfl⟩
 rw[hW3]at hW1
 rw[hW3]at hq2 hb2 hcw2
 have hf:=land_end h he (r':={e.r with tries:=e.r.tries+1,inAir:=false}) (disk':=s.disk) ⟨rfl,rfl⟩ (by exact h.disk) hq2 hb2 hcw2
 have hcw3:=hcw2
 have g7:W3.cell? ⟨e.p,7,none⟩=some (.int .i64 e.r.state):=by have:=hb2.at.c7;exact this
 have g8:W3.cell? ⟨e.p,8,none⟩=some (.int .i64 (e.r.tries+1)):=hb2.at.c8
 have g10:W3.cell? ⟨e.p,10,none⟩=some (.bool e.r.alone):=hb2.at.c10
 have gf:∀ i,W3.frozen? ⟨e.p,i,none⟩=false:=fun i=>free_of hb2
 have m1:W3.cell? ⟨q,1,none⟩=some (ptr tb):=hf.1.c1
 have HF:=Lib.hid hf
 have HCW:=Lib.hid hcw3
 clear h hR hL he hs hb1 hc1 hq1 hq2 hb2 hcw2 hcw3 hf k0 k1 k2 k3
 go_enter Tryx.func72,Tryz.ntmps72
 go_wp2_with fail
 refine (land_any tb mb clock s.last s.held _ _ HF.out.1.tab _ HF.out.2).mono ?_
 rintro x w' ⟨rfl,hT,hc⟩
 go_wp2_with fail
 go_end0
 exact⟨rfl,land_fin HF.out.1 hT hc,(HCW.out.mono fun k _ hk=>hk.imp id .inr).then (hc.mono fun k _ hk=>.inr (.inl hk))⟩
theorem land_ff(q tb mb clock pg:Nat)(fv:Value)(s:Sta)(w:World)(e:Ent)(d0 d1 d2 d3:Int)(h:QB w q tb mb clock fv s)(he:e∈s.es)(hL:LandB w q tb fv s e pg d0 d1 d2 d3)(_ht:0<=e.r.tries/\e.r.tries<=3)(_hn:0<=s.now/\s.now<2 ^ 60)(hs:e.r.state=1)(h4:e.r.tries=3):
  Calls Tryx.prog 72 #[ptr q,ptr e.p,.bool true] w fun x w'=>x=.returned (.tuple #[])/\
   QB w' q tb mb clock fv {s with es:=landE (updE s.es e.r.num fun _=>St.landR s.now s.disk true e.r) ⟨St.landR s.now s.disk true e.r,e.p,e.born⟩,disk:=St.landD s.disk true e.r}/\Chg (fun k=>k=q\/k=mb\/k=e.p) w w':=by
 have hw8:IntKind.i64.wrap (e.r.tries+1)=4:=by rw[IntKind.wrap_i64];omega
 have hrf:St.landR s.now s.disk true e.r={e.r with tries:=4,inAir:=false,data:=e.r.data,state:=3,alone:=e.r.alone,after:=e.r.after}:=by
  simp[St.landR,hs,h4]
 have hdf:St.landD s.disk true e.r=s.disk:=by simp[St.landD]
 rw[hrf,hdf]
 clear hrf hdf
 have c1:=h.c1
 have hR:=hL.req
 have a1:=hR.at.c1
 have a2:=hR.at.c2
 have a3:=hR.at.c3
 have a4:=hR.at.c4
 have a5:=hR.at.c5
 have a6:=hR.at.c6
 have a7:=hR.at.c7
 have a8:=hR.at.c8
 have a9:=hR.at.c9
 have a10:=hR.at.c10
 have a11:=hR.at.c11
 have af:∀ i,w.frozen? ⟨e.p,i,none⟩=false:=fun i=>free_of hR
 have qf:∀ i,w.frozen? ⟨q,i,none⟩=false:=fun i=>free_of hL.que
 obtain⟨k0,k1,k2,k3⟩:=hL.disk
 have hne:=h.ne_qp he
 have hne2:=hne.symm
 have hpg:=hL.p16
 have hp0:(0:Int)<=(pg:Int):=by omega
 have hp1:(pg:Int)<16:=by omega
 rw[hL.page]at a2
 rw[hs]at a7
 obtain⟨W1,hW1⟩:∃ W1,(w.setCell ⟨e.p,8,none⟩ (.int .i64 (4))).setCell ⟨e.p,11,none⟩ (.bool false)=W1:=⟨_,rfl⟩
 have hb1:ReqB W1 e.p {e.r with tries:=4,inAir:=false}:=by rw[<-hW1];exact heap_setCell (i:=11) _ (heap_setCell (i:=8) _ hR)
 have hc1:Chg (fun k=>k=q\/k=e.p) w W1:=by rw[<-hW1];exact ((chg_set _).then (chg_set _)).mono fun k _ hk=>.inr hk
 have hq1:W1.heap[q]?=some (.cells (qCells tb fv s) 89 (0,0)):=by
  rw[<-hW1,heap_setCell_ne _ hne,heap_setCell_ne _ hne];exact h.que
 obtain⟨W2,hW2⟩:∃ W2,W1=W2:=⟨_,rfl⟩
 have hq2:W2.heap[q]?=some (.cells (qCells tb fv s) 89 (0,0)):=by rw[<-hW2];exact hq1
 have hb2:ReqB W2 e.p {e.r with tries:=4,inAir:=false}:=by rw[<-hW2];exact hb1
 have hcw2:Chg (fun k=>k=q\/k=e.p) w W2:=by rw[<-hW2];exact hc1
 rw[hW2]at hW1
 obtain⟨W3,hW3⟩:∃ W3,W2.setCell ⟨e.p,7,none⟩ (.int .i64 3)=W3:=⟨_,rfl⟩
 have hc3:Chg (fun k=>k=e.p) W2 W3:=by rw[<-hW3];exact chg_set _
 have hf:=land_end (W:=W3) h he (r':={e.r with tries:=4,inAir:=false,state:=3}) (disk':=s.disk) ⟨rfl,rfl⟩ (by exact h.disk) ((hc3.block _ (lt_of_heap hq2) hne).trans hq2) (by rw[<-hW3];exact heap_setCell (i:=7) _ hb2) (hcw2.then (hc3.mono fun k _ hk=>.inr hk))
 have hcw3:Chg (fun k=>k=q\/k=e.p) w W3:=hcw2.then (hc3.mono fun k _ hk=>.inr hk)
 have g7:W2.cell? ⟨e.p,7,none⟩=some (.int .i64 1):=by have:=hb2.at.c7;simp only[hs]at this;exact this
 have g8:W2.cell? ⟨e.p,8,none⟩=some (.int .i64 4):=hb2.at.c8
 have g10:W2.cell? ⟨e.p,10,none⟩=some (.bool e.r.alone):=hb2.at.c10
 have gf:∀ i,W2.frozen? ⟨e.p,i,none⟩=false:=fun i=>free_of hb2
 have m1:W3.cell? ⟨q,1,none⟩=some (ptr tb):=hf.1.c1
 have HF:=Lib.hid hf
 have HCW:=Lib.hid hcw3
 clear h hR hL he hs hb1 hc1 hq1 hq2 hb2 hcw2 hcw3 hf k0 k1 k2 k3 hc3 h4
 go_enter Tryx.func72,Tryz.ntmps72
 go_wp2_with fail
 refine (land_any tb mb clock s.last s.held _ _ HF.out.1.tab _ HF.out.2).mono ?_
 rintro x w' ⟨rfl,hT,hc⟩
 go_wp2_with fail
 go_end0
 exact⟨rfl,land_fin HF.out.1 hT hc,(HCW.out.mono fun k _ hk=>hk.imp id .inr).then (hc.mono fun k _ hk=>.inr (.inl hk))⟩
theorem land_f0(q tb mb clock pg:Nat)(fv:Value)(s:Sta)(w:World)(e:Ent)(d0 d1 d2 d3:Int)(h:QB w q tb mb clock fv s)(he:e∈s.es)(hL:LandB w q tb fv s e pg d0 d1 d2 d3)(_ht:0<=e.r.tries/\e.r.tries<=3)(_hn:0<=s.now/\s.now<2 ^ 60)(hs:e.r.state=1)(h4:e.r.tries=0):
  Calls Tryx.prog 72 #[ptr q,ptr e.p,.bool true] w fun x w'=>x=.returned (.tuple #[])/\
   QB w' q tb mb clock fv {s with es:=landE (updE s.es e.r.num fun _=>St.landR s.now s.disk true e.r) ⟨St.landR s.now s.disk true e.r,e.p,e.born⟩,disk:=St.landD s.disk true e.r}/\Chg (fun k=>k=q\/k=mb\/k=e.p) w w':=by
 have hw8:IntKind.i64.wrap (e.r.tries+1)=1:=by rw[IntKind.wrap_i64];omega
 have hrf:St.landR s.now s.disk true e.r={e.r with tries:=1,inAir:=false,data:=e.r.data,state:=0,alone:=true,after:=s.now+1}:=by
  simp[St.landR,hs,h4]
  try decide
 have hdf:St.landD s.disk true e.r=s.disk:=by simp[St.landD]
 rw[hrf,hdf]
 clear hrf hdf
 have c1:=h.c1
 have hR:=hL.req
 have a1:=hR.at.c1
 have a2:=hR.at.c2
 have a3:=hR.at.c3
 have a4:=hR.at.c4
 have a5:=hR.at.c5
 have a6:=hR.at.c6
 have a7:=hR.at.c7
 have a8:=hR.at.c8
 have a9:=hR.at.c9
 have a10:=hR.at.c10
 have a11:=hR.at.c11
 have af:∀ i,w.frozen? ⟨e.p,i,none⟩=false:=fun i=>free_of hR
 have qf:∀ i,w.frozen? ⟨q,i,none⟩=false:=fun i=>free_of hL.que
 obtain⟨k0,k1,k2,k3⟩:=hL.disk
 have hne:=h.ne_qp he
 have hne2:=hne.symm
 have hpg:=hL.p16
 have hp0:(0:Int)<=(pg:Int):=by omega
 have hp1:(pg:Int)<16:=by omega
 rw[hL.page]at a2
 rw[hs]at a7
 obtain⟨W1,hW1⟩:∃ W1,(w.setCell ⟨e.p,8,none⟩ (.int .i64 (1))).setCell ⟨e.p,11,none⟩ (.bool false)=W1:=⟨_,rfl⟩
 have hb1:ReqB W1 e.p {e.r with tries:=1,inAir:=false}:=by rw[<-hW1];exact heap_setCell (i:=11) _ (heap_setCell (i:=8) _ hR)
 have hc1:Chg (fun k=>k=q\/k=e.p) w W1:=by rw[<-hW1];exact ((chg_set _).then (chg_set _)).mono fun k _ hk=>.inr hk
 have hq1:W1.heap[q]?=some (.cells (qCells tb fv s) 89 (0,0)):=by
  rw[<-hW1,heap_setCell_ne _ hne,heap_setCell_ne _ hne];exact h.que
 obtain⟨W2,hW2⟩:∃ W2,W1=W2:=⟨_,rfl⟩
 have hq2:W2.heap[q]?=some (.cells (qCells tb fv s) 89 (0,0)):=by rw[<-hW2];exact hq1
 have hb2:ReqB W2 e.p {e.r with tries:=1,inAir:=false}:=by rw[<-hW2];exact hb1
 have hcw2:Chg (fun k=>k=q\/k=e.p) w W2:=by rw[<-hW2];exact hc1
 rw[hW2]at hW1
 obtain⟨W2b,hW2b⟩:∃ W2b,(W2.setCell ⟨e.p,7,none⟩ (.int .i64 0)).setCell ⟨e.p,10,none⟩ (.bool true)=W2b:=⟨_,rfl⟩
 have hc2b:Chg (fun k=>k=e.p) W2 W2b:=by rw[<-hW2b];exact (chg_set _).then (chg_set _)
 have hb2b:ReqB W2b e.p {e.r with tries:=1,inAir:=false,state:=0,alone:=true}:=by rw[<-hW2b];exact heap_setCell (i:=10) _ (heap_setCell (i:=7) _ hb2)
 have hq2b:W2b.heap[q]?=some (.cells (qCells tb fv s) 89 (0,0)):=(hc2b.block _ (lt_of_heap hq2) hne).trans hq2
 obtain⟨W3,hW3⟩:∃ W3,(W2b.setCell ⟨e.p,9,none⟩ (.int .i64 (s.now+1))).drew=W3:=⟨_,rfl⟩
 have hc3:Chg (fun k=>k=e.p) W2 W3:=by rw[<-hW3];exact (hc2b.then (chg_set _)).drew
 have hwn:IntKind.i64.wrap (s.now+1)=s.now+1:=by rw[IntKind.wrap_i64];omega
 have v3:W2b.cell? ⟨q,3,none⟩=some (.int .i64 s.now):=cell_of hq2b rfl
 have v8:W2b.cell? ⟨e.p,8,none⟩=some (.int .i64 1):=hb2b.at.c8
 have v9:W2b.cell? ⟨e.p,9,none⟩=some (.int .i64 e.r.after):=hb2b.at.c9
 have vf:∀ i,W2b.frozen? ⟨e.p,i,none⟩=false:=fun i=>free_of hb2b
 have hf:=land_end (W:=W3) h he (r':={e.r with tries:=1,inAir:=false,state:=0,alone:=true,after:=s.now+1}) (disk':=s.disk) ⟨rfl,rfl⟩ h.disk ((hc3.block _ (lt_of_heap hq2) hne).trans hq2) (by rw[<-hW3];exact heap_setCell (i:=9) _ hb2b) (hcw2.then (hc3.mono fun k _ hk=>.inr hk))
 have hcw3:Chg (fun k=>k=q\/k=e.p) w W3:=hcw2.then (hc3.mono fun k _ hk=>.inr hk)
 have g7:W2.cell? ⟨e.p,7,none⟩=some (.int .i64 1):=by have:=hb2.at.c7;simp only[hs]at this;exact this
 have g8:W2.cell? ⟨e.p,8,none⟩=some (.int .i64 1):=hb2.at.c8
 have g10:W2.cell? ⟨e.p,10,none⟩=some (.bool e.r.alone):=hb2.at.c10
 have gf:∀ i,W2.frozen? ⟨e.p,i,none⟩=false:=fun i=>free_of hb2
 have m1:W3.cell? ⟨q,1,none⟩=some (ptr tb):=hf.1.c1
 have HF:=Lib.hid hf
 have HCW:=Lib.hid hcw3
 have HW3:=Lib.hid hW3
 clear hW3
 clear h hR hL he hs hb1 hc1 hq1 hq2 hb2 hcw2 hcw3 hf k0 k1 k2 k3 hc3 hc2b hb2b hq2b h4
 go_enter Tryx.func72,Tryz.ntmps72
 go_wp2_with fail
 have hsh:∀ W,(Op.shift BinOp.shl IntKind.i64 1 IntKind.i64 (IntKind.i64.wrap 0)).run Tryx.prog W=.ok (.int .i64 1) W:=fun W=>by kernel_rfl
 have hmin:min (8:Int) 1=1:=by decide
 have Z1:∀ v,(W2b.setCell ⟨e.p,9,none⟩ v).drew.cell? ⟨q,3,none⟩=some (.int .i64 s.now):=fun v=>(World.cell?_setCell_other _ _ _ _ (by simp)).trans v3
 have Z2:∀ v,(W2b.setCell ⟨e.p,9,none⟩ v).drew.cell? ⟨e.p,8,none⟩=some (.int .i64 1):=fun v=>(World.cell?_setCell_other _ _ _ _ (by simp)).trans v8
 go_region_held3 (fun w'=>w'.cell? ⟨q,3,none⟩=some (.int .i64 s.now)/\w'.cell? ⟨e.p,8,none⟩=some (.int .i64 1)) (first | (go_keep;done) | (exact⟨Z1 _,Z2 _⟩)) (fail)
 rw[HW3.out]
 go_wp2_with fail
 refine (land_any tb mb clock s.last s.held _ _ HF.out.1.tab _ HF.out.2).mono ?_
 rintro x w' ⟨rfl,hT,hc⟩
 go_wp2_with fail
 go_end0
 exact⟨rfl,land_fin HF.out.1 hT hc,(HCW.out.mono fun k _ hk=>hk.imp id .inr).then (hc.mono fun k _ hk=>.inr (.inl hk))⟩
theorem land_f1(q tb mb clock pg:Nat)(fv:Value)(s:Sta)(w:World)(e:Ent)(d0 d1 d2 d3:Int)(h:QB w q tb mb clock fv s)(he:e∈s.es)(hL:LandB w q tb fv s e pg d0 d1 d2 d3)(_ht:0<=e.r.tries/\e.r.tries<=3)(_hn:0<=s.now/\s.now<2 ^ 60)(hs:e.r.state=1)(h4:e.r.tries=1):
  Calls Tryx.prog 72 #[ptr q,ptr e.p,.bool true] w fun x w'=>x=.returned (.tuple #[])/\
   QB w' q tb mb clock fv {s with es:=landE (updE s.es e.r.num fun _=>St.landR s.now s.disk true e.r) ⟨St.landR s.now s.disk true e.r,e.p,e.born⟩,disk:=St.landD s.disk true e.r}/\Chg (fun k=>k=q\/k=mb\/k=e.p) w w':=by
 have hw8:IntKind.i64.wrap (e.r.tries+1)=2:=by rw[IntKind.wrap_i64];omega
 have hrf:St.landR s.now s.disk true e.r={e.r with tries:=2,inAir:=false,data:=e.r.data,state:=0,alone:=true,after:=s.now+2}:=by
  simp[St.landR,hs,h4]
  try decide
 have hdf:St.landD s.disk true e.r=s.disk:=by simp[St.landD]
 rw[hrf,hdf]
 clear hrf hdf
 have c1:=h.c1
 have hR:=hL.req
 have a1:=hR.at.c1
 have a2:=hR.at.c2
 have a3:=hR.at.c3
 have a4:=hR.at.c4
 have a5:=hR.at.c5
 have a6:=hR.at.c6
 have a7:=hR.at.c7
 have a8:=hR.at.c8
 have a9:=hR.at.c9
 have a10:=hR.at.c10
 have a11:=hR.at.c11
 have af:∀ i,w.frozen? ⟨e.p,i,none⟩=false:=fun i=>free_of hR
 have qf:∀ i,w.frozen? ⟨q,i,none⟩=false:=fun i=>free_of hL.que
 obtain⟨k0,k1,k2,k3⟩:=hL.disk
 have hne:=h.ne_qp he
 have hne2:=hne.symm
 have hpg:=hL.p16
 have hp0:(0:Int)<=(pg:Int):=by omega
 have hp1:(pg:Int)<16:=by omega
 rw[hL.page]at a2
 rw[hs]at a7
 obtain⟨W1,hW1⟩:∃ W1,(w.setCell ⟨e.p,8,none⟩ (.int .i64 (2))).setCell ⟨e.p,11,none⟩ (.bool false)=W1:=⟨_,rfl⟩
 have hb1:ReqB W1 e.p {e.r with tries:=2,inAir:=false}:=by rw[<-hW1];exact heap_setCell (i:=11) _ (heap_setCell (i:=8) _ hR)
 have hc1:Chg (fun k=>k=q\/k=e.p) w W1:=by rw[<-hW1];exact ((chg_set _).then (chg_set _)).mono fun k _ hk=>.inr hk
 have hq1:W1.heap[q]?=some (.cells (qCells tb fv s) 89 (0,0)):=by
  rw[<-hW1,heap_setCell_ne _ hne,heap_setCell_ne _ hne];exact h.que
 obtain⟨W2,hW2⟩:∃ W2,W1=W2:=⟨_,rfl⟩
 have hq2:W2.heap[q]?=some (.cells (qCells tb fv s) 89 (0,0)):=by rw[<-hW2];exact hq1
 have hb2:ReqB W2 e.p {e.r with tries:=2,inAir:=false}:=by rw[<-hW2];exact hb1
 have hcw2:Chg (fun k=>k=q\/k=e.p) w W2:=by rw[<-hW2];exact hc1
 rw[hW2]at hW1
 obtain⟨W2b,hW2b⟩:∃ W2b,(W2.setCell ⟨e.p,7,none⟩ (.int .i64 0)).setCell ⟨e.p,10,none⟩ (.bool true)=W2b:=⟨_,rfl⟩
 have hc2b:Chg (fun k=>k=e.p) W2 W2b:=by rw[<-hW2b];exact (chg_set _).then (chg_set _)
 have hb2b:ReqB W2b e.p {e.r with tries:=2,inAir:=false,state:=0,alone:=true}:=by rw[<-hW2b];exact heap_setCell (i:=10) _ (heap_setCell (i:=7) _ hb2)
 have hq2b:W2b.heap[q]?=some (.cells (qCells tb fv s) 89 (0,0)):=(hc2b.block _ (lt_of_heap hq2) hne).trans hq2
 obtain⟨W3,hW3⟩:∃ W3,(W2b.setCell ⟨e.p,9,none⟩ (.int .i64 (s.now+2))).drew=W3:=⟨_,rfl⟩
 have hc3:Chg (fun k=>k=e.p) W2 W3:=by rw[<-hW3];exact (hc2b.then (chg_set _)).drew
 have hwn:IntKind.i64.wrap (s.now+2)=s.now+2:=by rw[IntKind.wrap_i64];omega
 have v3:W2b.cell? ⟨q,3,none⟩=some (.int .i64 s.now):=cell_of hq2b rfl
 have v8:W2b.cell? ⟨e.p,8,none⟩=some (.int .i64 2):=hb2b.at.c8
 have v9:W2b.cell? ⟨e.p,9,none⟩=some (.int .i64 e.r.after):=hb2b.at.c9
 have vf:∀ i,W2b.frozen? ⟨e.p,i,none⟩=false:=fun i=>free_of hb2b
 have hf:=land_end (W:=W3) h he (r':={e.r with tries:=2,inAir:=false,state:=0,alone:=true,after:=s.now+2}) (disk':=s.disk) ⟨rfl,rfl⟩ h.disk ((hc3.block _ (lt_of_heap hq2) hne).trans hq2) (by rw[<-hW3];exact heap_setCell (i:=9) _ hb2b) (hcw2.then (hc3.mono fun k _ hk=>.inr hk))
 have hcw3:Chg (fun k=>k=q\/k=e.p) w W3:=hcw2.then (hc3.mono fun k _ hk=>.inr hk)
 have g7:W2.cell? ⟨e.p,7,none⟩=some (.int .i64 1):=by have:=hb2.at.c7;simp only[hs]at this;exact this
 have g8:W2.cell? ⟨e.p,8,none⟩=some (.int .i64 2):=hb2.at.c8
 have g10:W2.cell? ⟨e.p,10,none⟩=some (.bool e.r.alone):=hb2.at.c10
 have gf:∀ i,W2.frozen? ⟨e.p,i,none⟩=false:=fun i=>free_of hb2
 have m1:W3.cell? ⟨q,1,none⟩=some (ptr tb):=hf.1.c1
 have HF:=Lib.hid hf
 have HCW:=Lib.hid hcw3
 have HW3:=Lib.hid hW3
 clear hW3
 clear h hR hL he hs hb1 hc1 hq1 hq2 hb2 hcw2 hcw3 hf k0 k1 k2 k3 hc3 hc2b hb2b hq2b h4
 go_enter Tryx.func72,Tryz.ntmps72
 go_wp2_with fail
 have hsh:∀ W,(Op.shift BinOp.shl IntKind.i64 1 IntKind.i64 (IntKind.i64.wrap 1)).run Tryx.prog W=.ok (.int .i64 2) W:=fun W=>by kernel_rfl
 have hmin:min (8:Int) 2=2:=by decide
 have Z1:∀ v,(W2b.setCell ⟨e.p,9,none⟩ v).drew.cell? ⟨q,3,none⟩=some (.int .i64 s.now):=fun v=>(World.cell?_setCell_other _ _ _ _ (by simp)).trans v3
 have Z2:∀ v,(W2b.setCell ⟨e.p,9,none⟩ v).drew.cell? ⟨e.p,8,none⟩=some (.int .i64 2):=fun v=>(World.cell?_setCell_other _ _ _ _ (by simp)).trans v8
 go_region_held3 (fun w'=>w'.cell? ⟨q,3,none⟩=some (.int .i64 s.now)/\w'.cell? ⟨e.p,8,none⟩=some (.int .i64 2)) (first | (go_keep;done) | (exact⟨Z1 _,Z2 _⟩)) (fail)
 rw[HW3.out]
 go_wp2_with fail
 refine (land_any tb mb clock s.last s.held _ _ HF.out.1.tab _ HF.out.2).mono ?_
 rintro x w' ⟨rfl,hT,hc⟩
 go_wp2_with fail
 go_end0
 exact⟨rfl,land_fin HF.out.1 hT hc,(HCW.out.mono fun k _ hk=>hk.imp id .inr).then (hc.mono fun k _ hk=>.inr (.inl hk))⟩
theorem land_f2(q tb mb clock pg:Nat)(fv:Value)(s:Sta)(w:World)(e:Ent)(d0 d1 d2 d3:Int)(h:QB w q tb mb clock fv s)(he:e∈s.es)(hL:LandB w q tb fv s e pg d0 d1 d2 d3)(_ht:0<=e.r.tries/\e.r.tries<=3)(_hn:0<=s.now/\s.now<2 ^ 60)(hs:e.r.state=1)(h4:e.r.tries=2):
  Calls Tryx.prog 72 #[ptr q,ptr e.p,.bool true] w fun x w'=>x=.returned (.tuple #[])/\
   QB w' q tb mb clock fv {s with es:=landE (updE s.es e.r.num fun _=>St.landR s.now s.disk true e.r) ⟨St.landR s.now s.disk true e.r,e.p,e.born⟩,disk:=St.landD s.disk true e.r}/\Chg (fun k=>k=q\/k=mb\/k=e.p) w w':=by
 have hw8:IntKind.i64.wrap (e.r.tries+1)=3:=by rw[IntKind.wrap_i64];omega
 have hrf:St.landR s.now s.disk true e.r={e.r with tries:=3,inAir:=false,data:=e.r.data,state:=0,alone:=true,after:=s.now+4}:=by
  simp[St.landR,hs,h4]
  try decide
 have hdf:St.landD s.disk true e.r=s.disk:=by simp[St.landD]
 rw[hrf,hdf]
 clear hrf hdf
 have c1:=h.c1
 have hR:=hL.req
 have a1:=hR.at.c1
 have a2:=hR.at.c2
 have a3:=hR.at.c3
 have a4:=hR.at.c4
 have a5:=hR.at.c5
 have a6:=hR.at.c6
 have a7:=hR.at.c7
 have a8:=hR.at.c8
 have a9:=hR.at.c9
 have a10:=hR.at.c10
 have a11:=hR.at.c11
 have af:∀ i,w.frozen? ⟨e.p,i,none⟩=false:=fun i=>free_of hR
 have qf:∀ i,w.frozen? ⟨q,i,none⟩=false:=fun i=>free_of hL.que
 obtain⟨k0,k1,k2,k3⟩:=hL.disk
 have hne:=h.ne_qp he
 have hne2:=hne.symm
 have hpg:=hL.p16
 have hp0:(0:Int)<=(pg:Int):=by omega
 have hp1:(pg:Int)<16:=by omega
 rw[hL.page]at a2
 rw[hs]at a7
 obtain⟨W1,hW1⟩:∃ W1,(w.setCell ⟨e.p,8,none⟩ (.int .i64 (3))).setCell ⟨e.p,11,none⟩ (.bool false)=W1:=⟨_,rfl⟩
 have hb1:ReqB W1 e.p {e.r with tries:=3,inAir:=false}:=by rw[<-hW1];exact heap_setCell (i:=11) _ (heap_setCell (i:=8) _ hR)
 have hc1:Chg (fun k=>k=q\/k=e.p) w W1:=by rw[<-hW1];exact ((chg_set _).then (chg_set _)).mono fun k _ hk=>.inr hk
 have hq1:W1.heap[q]?=some (.cells (qCells tb fv s) 89 (0,0)):=by
  rw[<-hW1,heap_setCell_ne _ hne,heap_setCell_ne _ hne];exact h.que
 obtain⟨W2,hW2⟩:∃ W2,W1=W2:=⟨_,rfl⟩
 have hq2:W2.heap[q]?=some (.cells (qCells tb fv s) 89 (0,0)):=by rw[<-hW2];exact hq1
 have hb2:ReqB W2 e.p {e.r with tries:=3,inAir:=false}:=by rw[<-hW2];exact hb1
 have hcw2:Chg (fun k=>k=q\/k=e.p) w W2:=by rw[<-hW2];exact hc1
 rw[hW2]at hW1
 obtain⟨W2b,hW2b⟩:∃ W2b,(W2.setCell ⟨e.p,7,none⟩ (.int .i64 0)).setCell ⟨e.p,10,none⟩ (.bool true)=W2b:=⟨_,rfl⟩
 have hc2b:Chg (fun k=>k=e.p) W2 W2b:=by rw[<-hW2b];exact (chg_set _).then (chg_set _)
 have hb2b:ReqB W2b e.p {e.r with tries:=3,inAir:=false,state:=0,alone:=true}:=by rw[<-hW2b];exact heap_setCell (i:=10) _ (heap_setCell (i:=7) _ hb2)
 have hq2b:W2b.heap[q]?=some (.cells (qCells tb fv s) 89 (0,0)):=(hc2b.block _ (lt_of_heap hq2) hne).trans hq2
 obtain⟨W3,hW3⟩:∃ W3,(W2b.setCell ⟨e.p,9,none⟩ (.int .i64 (s.now+4))).drew=W3:=⟨_,rfl⟩
 have hc3:Chg (fun k=>k=e.p) W2 W3:=by rw[<-hW3];exact (hc2b.then (chg_set _)).drew
 have hwn:IntKind.i64.wrap (s.now+4)=s.now+4:=by rw[IntKind.wrap_i64];omega
 have v3:W2b.cell? ⟨q,3,none⟩=some (.int .i64 s.now):=cell_of hq2b rfl
 have v8:W2b.cell? ⟨e.p,8,none⟩=some (.int .i64 3):=hb2b.at.c8
 have v9:W2b.cell? ⟨e.p,9,none⟩=some (.int .i64 e.r.after):=hb2b.at.c9
 have vf:∀ i,W2b.frozen? ⟨e.p,i,none⟩=false:=fun i=>free_of hb2b
 have hf:=land_end (W:=W3) h he (r':={e.r with tries:=3,inAir:=false,state:=0,alone:=true,after:=s.now+4}) (disk':=s.disk) ⟨rfl,rfl⟩ h.disk ((hc3.block _ (lt_of_heap hq2) hne).trans hq2) (by rw[<-hW3];exact heap_setCell (i:=9) _ hb2b) (hcw2.then (hc3.mono fun k _ hk=>.inr hk))
 have hcw3:Chg (fun k=>k=q\/k=e.p) w W3:=hcw2.then (hc3.mono fun k _ hk=>.inr hk)
 have g7:W2.cell? ⟨e.p,7,none⟩=some (.int .i64 1):=by have:=hb2.at.c7;simp only[hs]at this;exact this
 have g8:W2.cell? ⟨e.p,8,none⟩=some (.int .i64 3):=hb2.at.c8
 have g10:W2.cell? ⟨e.p,10,none⟩=some (.bool e.r.alone):=hb2.at.c10
 have gf:∀ i,W2.frozen? ⟨e.p,i,none⟩=false:=fun i=>free_of hb2
 have m1:W3.cell? ⟨q,1,none⟩=some (ptr tb):=hf.1.c1
 have HF:=Lib.hid hf
 have HCW:=Lib.hid hcw3
 have HW3:=Lib.hid hW3
 clear hW3
 clear h hR hL he hs hb1 hc1 hq1 hq2 hb2 hcw2 hcw3 hf k0 k1 k2 k3 hc3 hc2b hb2b hq2b h4
 go_enter Tryx.func72,Tryz.ntmps72
 go_wp2_with fail
 have hsh:∀ W,(Op.shift BinOp.shl IntKind.i64 1 IntKind.i64 (IntKind.i64.wrap 2)).run Tryx.prog W=.ok (.int .i64 4) W:=fun W=>by kernel_rfl
 have hmin:min (8:Int) 4=4:=by decide
 have Z1:∀ v,(W2b.setCell ⟨e.p,9,none⟩ v).drew.cell? ⟨q,3,none⟩=some (.int .i64 s.now):=fun v=>(World.cell?_setCell_other _ _ _ _ (by simp)).trans v3
 have Z2:∀ v,(W2b.setCell ⟨e.p,9,none⟩ v).drew.cell? ⟨e.p,8,none⟩=some (.int .i64 3):=fun v=>(World.cell?_setCell_other _ _ _ _ (by simp)).trans v8
 go_region_held3 (fun w'=>w'.cell? ⟨q,3,none⟩=some (.int .i64 s.now)/\w'.cell? ⟨e.p,8,none⟩=some (.int .i64 3)) (first | (go_keep;done) | (exact⟨Z1 _,Z2 _⟩)) (fail)
 rw[HW3.out]
 go_wp2_with fail
 refine (land_any tb mb clock s.last s.held _ _ HF.out.1.tab _ HF.out.2).mono ?_
 rintro x w' ⟨rfl,hT,hc⟩
 go_wp2_with fail
 go_end0
 exact⟨rfl,land_fin HF.out.1 hT hc,(HCW.out.mono fun k _ hk=>hk.imp id .inr).then (hc.mono fun k _ hk=>.inr (.inl hk))⟩
end
section
open Go.RowKit Go.Shelf Go.Lib
theorem setCells_split{b:Nat}{t:TypeId}{f:Nat×Nat}:∀ (vs:List Value) (w:World) (c:Array Value) (pre old post:List Value),w.heap[b]?=some (.cells c t f)->c.toList=pre ++ old ++ post->old.length=vs.length->
  ∃ c',(w.setCells b pre.length vs).heap[b]?=some (.cells c' t f)/\c'.toList=pre ++ vs ++ post/\Chg (fun k=>k=b) w (w.setCells b pre.length vs)
 | [],w,c,pre,old,post,h,hc,hl=>by
   have:old=[]:=List.length_eq_zero_iff.1 (by simpa using hl)
   subst this
   exact⟨c,h,hc,Chg.refl _ _⟩
 | v :: vs,w,c,pre,old,post,h,hc,hl=>by
   match old,hl with
   | o :: old,hl=>
     have h1:=heap_setCell (i:=pre.length) v h
     have hc1:(c.setIfInBounds pre.length v).toList=(pre ++ [v]) ++ old ++ post:=by
      rw[Array.toList_setIfInBounds,hc]
      simp
     obtain⟨c',e1,e2,e3⟩:=setCells_split vs (w.setCell ⟨b,pre.length,none⟩ v) _ (pre ++ [v]) old post h1 hc1 (by simpa using hl)
     rw[show (pre ++ [v]).length=pre.length+1 from by simp]at e1 e3
     refine⟨c',e1,by simpa using e2,(chg_set v).then e3⟩
abbrev zcmd:List Value:=[.bool false,.int .i64 0,.int .i64 0,.slice none 0 0]
theorem run_clear_cmd(w:World)(b o c:Nat)(ty:TypeId)(hc:∀ j,j<4->(w.cell? ⟨b,o+j,none⟩).isSome=true)(hf:∀ j,j<4->w.frozen? ⟨b,o+j,none⟩=false):
  (Builtin.clear_ #[55] ty #[.slice (some ⟨b,o,none⟩) 1 c]).run Tryx.prog w=.ok (.tuple #[]) (w.setCells b o zcmd):=by
 have hv:∀ w,(zeroValue 48).run Tryx.prog w=.ok (Value.agg #[.bool false,.int .i64 0,.int .i64 0,.slice none 0 0]) w:=fun w=>by kernel_rfl
 have hzc:(Builtin.zeroCells (Value.agg #[.bool false,.int .i64 0,.int .i64 0,.slice none 0 0]).cells 1).toList=zcmd:=by kernel_rfl
 have hst:=run_storeCells_cells (P:=Tryx.prog) b o zcmd 0 w (by simpa using hc) (by simpa using hf) (by simp[zcmd,Value.oneCell'])
 simp only[Nat.add_zero]at hst
 simp[Builtin.clear_,run_underlying Tryx.underlying55,hv,hzc,hst]
theorem del_row{w:World}{g n cap k:Nat}{cur:Array Value}{cs:List (Cmd×Value)}(hn:cs.length=n)(hk:k<n)(hb:w.heap[g]?=some (.cells cur 48 (0,0)))(_hcap:n<=cap)(hsz:cur.size=cap*4)(hrow:cur.toList.take (n*4)=cs.flatMap cmdCells):
  ∃ w1 w2,w1=w.setCells g (k*4) ((cs.drop (k+1)).flatMap cmdCells)/\w2=w1.setCells g ((n - 1)*4) zcmd/\Chg (fun i=>i=g) w w2/\Chg (fun i=>i=g) w w1/\
    (∃ cur1,w1.heap[g]?=some (.cells cur1 48 (0,0))/\cur1.size=cap*4)/\
    ∃ cur2,w2.heap[g]?=some (.cells cur2 48 (0,0))/\cur2.size=cap*4/\cur2.toList.take ((n - 1)*4)=(cs.eraseIdx k).flatMap cmdCells:=by
 have hlen:∀ l:List (Cmd×Value),(l.flatMap cmdCells).length=l.length*4:=fun l=>by
  induction l with
  | nil=>rfl
  | cons c l ih=>rw [List.flatMap_cons,List.length_append,ih];simp[cmdCells];omega
 have hsplit:cs=cs.take k ++ cs[k]'(by omega) :: cs.drop (k+1):=by
  conv=>lhs;rw[<-List.take_append_drop k cs,List.drop_eq_getElem_cons (by omega)]
 obtain⟨pre,hpre⟩:∃ pre,(cs.take k).flatMap cmdCells=pre:=⟨_,rfl⟩
 obtain⟨mid,hmid⟩:∃ mid,cmdCells (cs[k]'(by omega))=mid:=⟨_,rfl⟩
 obtain⟨tl,htl⟩:∃ tl,(cs.drop (k+1)).flatMap cmdCells=tl:=⟨_,rfl⟩
 have hpl:pre.length=k*4:=by rw[<-hpre,hlen,List.length_take];congr 1;omega
 have hml:mid.length=4:=by rw[<-hmid];rfl
 have htll:tl.length=(n - 1 - k)*4:=by rw[<-htl,hlen,List.length_drop];congr 1;omega
 have hall:cs.flatMap cmdCells=pre ++ mid ++ tl:=by
  conv=>lhs;rw[hsplit]
  rw[List.flatMap_append,List.flatMap_cons,hpre,hmid,htl,List.append_assoc]
 obtain⟨post,hpost⟩:∃ post,cur.toList.drop (n*4)=post:=⟨_,rfl⟩
 have hcur:cur.toList=pre ++ mid ++ tl ++ post:=by
  rw[<-List.take_append_drop (n*4) cur.toList,hrow,hall,hpost]
 obtain⟨old,rest,hor,hol⟩:∃ old rest,mid ++ tl=old ++ rest/\old.length=tl.length:=⟨(mid ++ tl).take tl.length,(mid ++ tl).drop tl.length,(List.take_append_drop _ _).symm,by simp⟩
 have hrl:rest.length=4:=by
  have:=congrArg List.length hor
  simp at this;omega
 have hc1:cur.toList=pre ++ old ++ (rest ++ post):=by rw[hcur,List.append_assoc,List.append_assoc,<-List.append_assoc mid,hor];simp
 obtain⟨c1,e1,e2,e3⟩:=setCells_split tl w cur pre old (rest ++ post) hb hc1 hol
 rw[hpl]at e1 e3
 have hc2:c1.toList=(pre ++ tl) ++ rest ++ post:=by rw[e2];simp
 obtain⟨c2,f1,f2,f3⟩:=setCells_split zcmd _ c1 (pre ++ tl) rest post e1 hc2 (by rw[hrl];rfl)
 have hpt:(pre ++ tl).length=(n - 1)*4:=by rw[List.length_append,hpl,htll,<-Nat.add_mul];congr 1;omega
 rw[hpt]at f1 f3
 have s1:c1.size=cap*4:=by
  rw[<-hsz,<-Array.length_toList,<-Array.length_toList,e2,hc1];simp[hol]
 have s2:c2.size=cap*4:=by
  rw[<-s1,<-Array.length_toList,<-Array.length_toList,f2,hc2];simp[hrl];omega
 have e4:=e3.then f3
 rw[htl]
 obtain⟨W1,hW1⟩:∃ W1,w.setCells g (k*4) tl=W1:=⟨_,rfl⟩
 rw[hW1]at e1 e3 f1 f3 e4
 obtain⟨W2,hW2⟩:∃ W2,W1.setCells g ((n - 1)*4) zcmd=W2:=⟨_,rfl⟩
 rw[hW2]at f1 e4
 refine⟨W1,W2,hW1.symm,hW2.symm,e4,e3,⟨c1,e1,s1⟩,c2,f1,s2,?_⟩
 have ht:((pre ++ tl) ++ (zcmd ++ post)).take ((n - 1)*4)=pre ++ tl:=by rw[<-hpt];exact List.take_left
 rw[f2,List.append_assoc,ht,List.eraseIdx_eq_take_drop_succ,List.flatMap_append,hpre,htl]
end
end Go.Proofs.YticobikhndlejaaGreatDoor
