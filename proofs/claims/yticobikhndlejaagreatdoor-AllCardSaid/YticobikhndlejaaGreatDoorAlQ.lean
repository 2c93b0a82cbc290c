/- Part 17 of the proof (see the last part). -/
import Derived.Test.YticobikhndlejaaGreatDoorAlP
namespace Go.Proofs.YticobikhndlejaaGreatDoor
section
open Go.RowKit Go.Shelf Go.Lib
set_option maxRecDepth 100000
set_option maxHeartbeats 8000000
theorem sentL_take{l:List RR}{ns:List Int}{n:Int}{k:Nat}(h:∀ y∈l.take k,y.r.num≠n):∀ y∈(sentL l ns).take k,y.r.num≠n:=fun y hy=>by
 unfold sentL at hy
 rw[<-List.map_take]at hy
 obtain⟨z,hz,rfl⟩:=List.mem_map.1 hy
 have:=h z hz
 split
 ·exact this
 ·exact this
theorem cmd_at{l:List RR}{told:List Int}{t:St}(h:RRel l told t)(hk:t.Ok){c:Cmd}(hc:t.cmd=some c):c.nums.Nodup/\c.nums≠[]/\∀ n∈c.nums,∃ k x,l[k]?=some x/\x.r.num=n/\∀ y∈l.take k,y.r.num≠n:=by
 have hs:=hk.a.rs.nums
 obtain⟨_,f,m,hsel,_,hn⟩:=cmd_some hk.a.head hc
 refine⟨by rw[hn];exact hsel.nodup hs,by rw[hn];simp,fun n hm=>?_⟩
 rw[hn]at hm
 obtain⟨r,hr,rfl⟩:=List.mem_map.1 hm
 have hrm:=(mem_readyR (hsel.mem r hr).1).1
 obtain⟨k,hkk⟩:=List.mem_iff_getElem?.1 hrm
 obtain⟨x,hx,hxr⟩:=h.back hkk
 refine⟨k,x,hx,by rw[hxr],fun y hy=>?_⟩
 have hy2:y.r∈t.rs.take k:=by
  rw[<-h.rs,<-List.map_take]
  exact List.mem_map_of_mem hy
 have:=(sorted_take hs hkk).1 y.r hy2
 omega
theorem takeSucc{α:Type}{l:List α}{j:Nat}{a:α}(h:l[j]?=some a):l.take (j+1)=l.take j ++ [a]:=by
 obtain⟨hl,e⟩:=List.getElem?_eq_some_iff.1 h
 rw[List.take_succ_eq_append_getElem hl,e]
section
variable {w:World} {q:Nat} {t:St} {G:Nat->Prop}
theorem step_none_r(h:RT w q t G)(hk:t.Ok)(hsm:t.Small)(hc:t.cmd=none):
  Calls Tryx.prog 92 #[ptr q] w fun y w'=>y=.returned (.tuple #[noCmd,.bool false])/\Below w.heap.size w w':=by
 obtain⟨l,told,fs,rv,tv,fv,dv,h1,h2,h3⟩:=h
 have hl:=h2.tlen hk hsm
 obtain⟨W0,hW0⟩:∃ W0,w.alloc (.cells #[.bool false,.int .i64 0,.int .i64 0,.slice none 0 0] 48)=W0:=⟨_,rfl⟩
 have hB0:Below w.heap.size w W0:=by rw[<-hW0];exact (Below.refl _ _).alloc (Nat.le_refl _) _
 have hr0:W0.heap[w.heap.size]?=some (.cells #[.bool false,.int .i64 0,.int .i64 0,.slice none 0 0] 48 (0,0)):=by rw[<-hW0];exact World.alloc_heap_new _ _
 have HN:=Lib.hid (next_r W0 (h1.below hB0) h2.rs hk (by omega))
 have HW0:=Lib.hid hW0
 have HB0:=Lib.hid hB0
 have HR0:=Lib.hid hr0
 have HC:=Lib.hid hc
 clear h1 h2 h3 hk hsm hc hl hW0 hB0 hr0
 go_enter Tryx.func92,Tryz.ntmps92
 go_wp2_with fail
 rw[HW0.out]
 refine HN.out.mono ?_
 rintro y w2 ⟨⟨rfl,_⟩ |⟨c,v,_,hcc,_⟩,hB⟩
 ·have hr2:=(hB.block _ (lt_of_heap HR0.out)).trans HR0.out
  have s0:w2.cell? ⟨w.heap.size,0,none⟩=some (.bool false):=cell_of hr2 rfl
  have s1:w2.cell? ⟨w.heap.size,1,none⟩=some (.int .i64 0):=cell_of hr2 rfl
  have s2:w2.cell? ⟨w.heap.size,2,none⟩=some (.int .i64 0):=cell_of hr2 rfl
  have s3:w2.cell? ⟨w.heap.size,3,none⟩=some (.slice none 0 0):=cell_of hr2 rfl
  have sf:∀ i,w2.frozen? ⟨w.heap.size,i,none⟩=false:=fun i=>free_of hr2
  have hwl:=lt_of_heap hr2
  have hne1:w.heap.size≠w2.heap.size:=by omega
  have hne2:=hne1.symm
  obtain⟨e5,hc5⟩:=cmd_set (W:=w2) (.bool false) (.int .i64 0) (.int .i64 0) (.slice none 0 0) hr2
  have HE5:=Lib.hid e5
  have HC5:=Lib.hid hc5
  have hbb:=HB0.out.trans (hB.mono HB0.out.size)
  have HBB:=Lib.hid hbb
  have hsz:((((w2.setCell ⟨w.heap.size,0,none⟩ (.bool false)).setCell ⟨w.heap.size,1,none⟩ (.int .i64 0)).setCell ⟨w.heap.size,2,none⟩ (.int .i64 0)).setCell ⟨w.heap.size,3,none⟩ (.slice none 0 0)).heap.size=w2.heap.size:=by simp[World.setCell]
  have HSZ:=Lib.hid hsz
  clear hr2 hB e5 hc5 hbb hsz
  go_wp2_with fail
  obtain⟨W5,hW5⟩:∃ W5,((((w2.setCell ⟨w.heap.size,0,none⟩ (.bool false)).setCell ⟨w.heap.size,1,none⟩ (.int .i64 0)).setCell ⟨w.heap.size,2,none⟩ (.int .i64 0)).setCell ⟨w.heap.size,3,none⟩ (.slice none 0 0))=W5:=⟨_,rfl⟩
  have e5:=HE5.out
  have hc5:=HC5.out
  have hsz:=HSZ.out
  rw[hW5]at e5 hc5 hsz
  rw[hW5]
  have hb1:=HBB.out.trans (hc5.to_below (fun k hk=>Nat.le_of_eq hk.symm) HBB.out.size)
  have e7:=(Below.heap_alloc W5 (.cells #[.bool false,.int .i64 0,.int .i64 0,.slice none 0 0] 48) w.heap.size (by omega)).trans e5
  have hb7:=hb1.alloc hb1.size (.cells #[.bool false,.int .i64 0,.int .i64 0,.slice none 0 0] 48)
  obtain⟨W7,hW7⟩:∃ W7,W5.alloc (.cells #[.bool false,.int .i64 0,.int .i64 0,.slice none 0 0] 48)=W7:=⟨_,rfl⟩
  rw[hW7]at e7 hb7
  rw[hW7]
  have z0:W7.cell? ⟨w.heap.size,0,none⟩=some (.bool false):=cell_of e7 rfl
  have z1:W7.cell? ⟨w.heap.size,1,none⟩=some (.int .i64 0):=cell_of e7 rfl
  have z2:W7.cell? ⟨w.heap.size,2,none⟩=some (.int .i64 0):=cell_of e7 rfl
  have z3:W7.cell? ⟨w.heap.size,3,none⟩=some (.slice none 0 0):=cell_of e7 rfl
  exact bodyPost_ret (v:=.tuple #[noCmd,.bool false]) (by simp[results,Tryz.results92,go_sem,z0,z1,z2,z3]) rfl ⟨rfl,hb7⟩
 ·rw[HC.out]at hcc;cases hcc
theorem step_some_r(h:RT w q t G)(hk:t.Ok)(hsm:t.Small)(c:Cmd)(hc:t.cmd=some c):
  Calls Tryx.prog 92 #[ptr q] w fun y w'=>∃ v G',y=.returned (.tuple #[.agg #[.bool c.write,.int .i64 c.page,.int .i64 c.count,v],.bool true])/\RT w' q (t.sent c) G'/\(∀ k,G' k->G k\/w.heap.size<=k)/\Chg G w w'/\w'.ownsRow w.heap.size 3 1 v c.nums.length (c.nums.map fun n=>Value.int .i64 n):=by
 obtain⟨l,told,fs,rv,tv,fv,dv,h1,h2,h3⟩:=h
 have hl:=h2.tlen hk hsm
 obtain⟨hnd,hne,hcat⟩:=cmd_at h2 hk hc
 have hpc:=(ok_sent hk hc).cmds c (by show c∈t.cs ++ [c];simp)
 have hcl:t.cs.length<4:=by
  have:=(cmd_some hk.a.head hc).1
  have:=hk.a.depth
  omega
 have hfl:fs.length=t.cs.length:=by rw[<-h1.fcs,List.length_map]
 have hss:=rrel_sent h2 c
 obtain⟨W0,hW0⟩:∃ W0,w.alloc (.cells #[.bool false,.int .i64 0,.int .i64 0,.slice none 0 0] 48)=W0:=⟨_,rfl⟩
 have hB0:Below w.heap.size w W0:=by rw[<-hW0];exact (Below.refl _ _).alloc (Nat.le_refl _) _
 have hr0:W0.heap[w.heap.size]?=some (.cells #[.bool false,.int .i64 0,.int .i64 0,.slice none 0 0] 48 (0,0)):=by rw[<-hW0];exact World.alloc_heap_new _ _
 have HN:=Lib.hid (next_r W0 (h1.below hB0) h2.rs hk (by omega))
 have HW0:=Lib.hid hW0
 have HB0:=Lib.hid hB0
 have HR0:=Lib.hid hr0
 have HR:=Lib.hid h1
 have HC:=Lib.hid hc
 have HND:=Lib.hid hnd
 have HCAT:=Lib.hid hcat
 have H3:=Lib.hid h3
 have HSS:=Lib.hid hss
 obtain⟨N,hN⟩:∃ N,c.nums.length=N:=⟨_,rfl⟩
 obtain⟨nf,hnf⟩:∃ nf,fs.length=nf:=⟨_,rfl⟩
 have hnf4:nf<4:=by omega
 have hs:=hk.a.rs.nums
 have HS:=Lib.hid hs
 have hll:l.length<=1000000:=by omega
 have hpg:c.page+c.count<=16:=hpc.page
 have hN6:N<=1000000:=by
  have h5:(c.nums.length:Nat)<=(t.rs.map (·.num)).length:=len_sub c.nums hnd _ fun a ha=>by
   obtain⟨k,x,hx,hxn,_⟩:=hcat a ha
   have:=h2.at hx
   rw[<-hxn]
   exact List.mem_map_of_mem (List.mem_of_getElem? this)
  rw[List.length_map,<-h2.len]at h5
  omega
 have HNL:=Lib.hid hN
 have HNF:=Lib.hid hnf
 have HRS:=Lib.hid h2.rs
 clear h1 h2 h3 hk hsm hc hl hW0 hB0 hr0 hnd hne hcat hss hs hfl hcl hN hnf hpc
 go_enter Tryx.func92,Tryz.ntmps92
 go_wp2_with fail
 rw[HW0.out]
 refine HN.out.mono ?_
 rintro y w2 ⟨⟨rfl,hcc⟩ |⟨c',v,rfl,hcc,hv⟩,hB⟩
 ·rw[HC.out]at hcc;cases hcc
 rw[HC.out]at hcc
 obtain rfl:=Option.some.inj hcc
 clear hcc
 obtain⟨va,vc,rfl⟩:=own_slice hv
 rw[HNL.out]at hv ⊢
 have hr2:=(hB.block _ (lt_of_heap HR0.out)).trans HR0.out
 have hB2:=HB0.out.trans (hB.mono HB0.out.size)
 have hwl:=lt_of_heap hr2
 have hsz0:W0.heap.size=w.heap.size+1:=by rw[<-HW0.out];simp
 obtain⟨W2,hW2⟩:∃ W2,w2.alloc (.cells #[.bool c.write,.int .i64 c.page,.int .i64 c.count,.slice va N vc] 48)=W2:=⟨_,rfl⟩
 have hcb:W2.heap[w2.heap.size]?=some (.cells #[.bool c.write,.int .i64 c.page,.int .i64 c.count,.slice va N vc] 48 (0,0)):=by rw[<-hW2];exact World.alloc_heap_new _ _
 have hb2:Below w2.heap.size w2 W2:=by rw[<-hW2];exact (Below.refl _ _).alloc (Nat.le_refl _) _
 have hBW:Below w.heap.size w W2:=hB2.trans (hb2.mono hB2.size)
 have hrW:=(hb2.block _ hwl).trans hr2
 have hvW:=ownsRow_chg hv (chgB hb2 fun _=>False) fun _ _ z=>z
 have hRW:=HR.out.below hBW
 have HW2:=Lib.hid hW2
 have HCB:=Lib.hid hcb
 have HBW:=Lib.hid hBW
 have HRW:=Lib.hid hrW
 have HV:=Lib.hid hvW
 have HRB:=Lib.hid hRW
 have hcbl:=lt_of_heap hcb
 have hnoR:∀ k,RFoot q rv tv fv dv fs k->k<w.heap.size:=fun k hk=>HR.out.lt hk
 have HNO:=Lib.hid hnoR
 obtain⟨ra,rc,rfl⟩:=own_slice hRW.reqs
 clear hr2 hB2 hW2 hcb hb2 hBW hrW hvW hRW hv hB hnoR
 go_wp2_with fail
 rw[HW2.out]
 go_loopg [6,7] N (fun kk i u7 wx=>∃ j,kk=N - j/\j<=N/\i=.int .i64 j/\RB wx q t (sentL l (c.nums.take j)) told fs (.slice ra l.length rc) tv fv dv/\Chg (fun k=>(Value.slice ra l.length rc).ownBlock=some k) W2 wx)
 case atStart=>exact ⟨0,by simp,by omega,rfl,by rw[List.take_zero,sentL_nil];exact HRB.out,Chg.refl _ _⟩
 case round=>
  obtain⟨j,rfl,hj,rfl,hR,hC⟩:=hrel
  have hrvl:∀ k,(Value.slice ra l.length rc).ownBlock=some k->k<w.heap.size:=fun k hk=>HNO.out k (.inr (.inl hk))
  have hcb:=(hC.block _ hcbl (fun e=>by have:=hrvl _ e;have:=hwl;omega)).trans HCB.out
  have hvr:=ownsRow_chg HV.out hC fun k hk e=>by have:=(HV.out.lt k hk).1;have:=hrvl _ e;omega
  have k1:wr.cell? ⟨w2.heap.size,1,none⟩=some (.int .i64 c.page):=cell_of hcb rfl
  have k2:wr.cell? ⟨w2.heap.size,2,none⟩=some (.int .i64 c.count):=cell_of hcb rfl
  have k0:wr.cell? ⟨w2.heap.size,0,none⟩=some (.bool c.write):=cell_of hcb rfl
  have k3:wr.cell? ⟨w2.heap.size,3,none⟩=some (.slice va N vc):=cell_of hcb rfl
  by_cases hlt:j<N
  ·have hltI:(j:Int)<(N:Int):=by omega
   have hj0:(0:Int)<=(j:Int):=by omega
   have hjl:j<c.nums.length:=by rw[HNL.out];exact hlt
   obtain⟨n,hn⟩:∃ n,c.nums[j]=n:=⟨_,rfl⟩
   have hjn:c.nums[j]?=some n:=by rw[List.getElem?_eq_getElem hjl,hn]
   obtain⟨k,x,hx,hxn,hno⟩:=HCAT.out n (List.mem_of_getElem? hjn)
   have hnot:n ∉ c.nums.take j:=fun hm=>by
    have hnd:=HND.out
    rw[<-List.take_append_drop j c.nums,List.drop_eq_getElem_cons hjl,hn,List.nodup_append]at hnd
    exact hnd.2.2 n hm n (by simp) rfl
   have hx':(sentL l (c.nums.take j))[k]?=some x:=by rw[sentL_at hx,if_neg (by rw[hxn];exact hnot)]
   have hvg:∃ gv,va=some ⟨gv,0,none⟩/\wr.cell? ⟨gv,j,none⟩=some (.int .i64 n):=by
    obtain⟨gv,rfl,_,_,hcell⟩:=row_at hvr (j:=j) (x:=.int .i64 n) (by rw[List.getElem?_map,hjn];rfl) (by rw[List.length_map,HNL.out])
    exact⟨gv,rfl,hcell⟩
   obtain⟨gv,rfl,hcv⟩:=hvg
   have HAT:=Lib.hid fun W (hW:Below wr.heap.size wr W)=>at_r n W (hR.below hW) (by rw[sentL_len];exact hll) hx' hxn (sentL_take hno)
   obtain⟨g,cap,e,hgl,hgb,hcell⟩:=hR.req hx'
   simp only[Value.slice.injEq]at e
   obtain⟨rfl,hdrop,rfl⟩:=e
   clear hdrop
   have hkl:k<l.length:=(List.getElem?_eq_some_iff.1 hx).1
   have hklI:(k:Int)<(l.length:Int):=by omega
   have hk0:(0:Int)<=(k:Int):=by omega
   have hc1:=hR.c1
   have hql:=lt_of_heap hR.que
   have hgq:g≠q:=(hR.ne_rv (g:=g) rfl).1
   have hgq2:=hgq.symm
   have HR2:=Lib.hid hR
   have HX:=Lib.hid hx'
   have HX0:=Lib.hid hx
   have HXN:=Lib.hid hxn
   have HJN:=Lib.hid hjn
   have HC2:=Lib.hid hC
   clear hR hC hx' hx hxn hjn hno hnot hn hcell hgb hvr hcb hrvl
   go_wp2_with fail
   refine (HAT.out wr (Below.refl _ _)).mono ?_
   rintro y w5 ⟨rfl,hB5⟩
   have hR5:=HR2.out.below hB5
   obtain⟨g',cap',e',_,⟨cur,hcur,_⟩,hcell5⟩:=hR5.req HX.out
   simp only[Value.slice.injEq,Option.some.injEq,Addr.mk.injEq]at e'
   obtain⟨⟨rfl,_⟩,hdrop,rfl⟩:=e'
   clear hdrop
   have d1:=hR5.c1
   have p4:w5.cell? ⟨g,k*10+4,none⟩=some (.int .i64 x.r.state):=hcell5 4 _ rfl
   have p8:w5.cell? ⟨g,k*10+8,none⟩=some (.bool x.r.inAir):=hcell5 8 _ rfl
   have pf:∀ i,w5.frozen? ⟨g,i,none⟩=false:=fun i=>free_of hcur
   obtain⟨f1,f2⟩:=hR5.set1 (g:=g) rfl HX.out (y:=⟨{x.r with state:=1},x.data,x.answer⟩) 4 (by omega) (.int .i64 1) rfl
   have hx2:((sentL l (c.nums.take j)).set k ⟨{x.r with state:=1},x.data,x.answer⟩)[k]?=some ⟨{x.r with state:=1},x.data,x.answer⟩:=by
    rw[List.getElem?_set,if_pos rfl,if_pos (by rw[sentL_len];exact hkl)]
   obtain⟨f3,f4⟩:=f1.set1 (g:=g) rfl hx2 (y:=sentX x) 8 (by omega) (.bool true) rfl
   rw[List.set_set,sentL_step (by rw[HRS.out];exact HS.out) HX0.out,HXN.out,<-takeSucc HJN.out]at f3
   have F3:=Lib.hid f3
   have F4:=Lib.hid ((HC2.out.of_below hB5).then ((f2.then f4).mono fun k' _ hk'=>by rw[hk'];rfl))
   clear hR5 hcell5 hcur f1 f2 f3 f4 hx2 hB5
   go_wp2_with fail
   go_roundg (N - (j+1))
   case measure=>omega
   case rel=>exact ⟨j+1,rfl,by omega,by go_num,F3.out,F4.out⟩
  ·obtain rfl:j=N:=by omega
   have htk:c.nums.take j=c.nums:=List.take_of_length_le (Nat.le_of_eq HNL.out)
   rw[htk]at hR
   obtain⟨W4,rfl⟩:∃ z,z=wr:=⟨_,rfl⟩
   have hRb:=(hC.block _ (Nat.lt_of_lt_of_le hwl (by have:=hcbl;omega)) (fun e=>by have:=hrvl _ e;omega)).trans HRW.out
   obtain⟨fa,fc,rfl⟩:=own_slice hR.fls.row
   have c3:=hR.c3
   have cf:=hR.free
   have hrow4:=hR.fls.row
   have hql:=lt_of_heap hR.que
   have hnq:∀ g,(Value.slice fa fs.length fc).ownBlock=some g->g≠q:=fun g hg=>(hR.ne_fv hg).1
   rw[HNF.out]at c3 hrow4 hnq
   have ag:(Value.slice fa nf fc).ownBlock≠some q:=fun e=>hnq q e rfl
   have HR4:=Lib.hid hR
   have HC4:=Lib.hid hC
   have HCB4:=Lib.hid hcb
   have HRB4:=Lib.hid hRb
   have HV4:=Lib.hid hvr
   have hcbl4:=lt_of_heap hcb
   have hwl4:=lt_of_heap hRb
   have n1:=World.new_ne W4 _ c3
   have n2:=World.new_ne W4 _ k0
   obtain⟨i4,hi4,hz40,hz41,hz42⟩:=info_parts Tryz.infoC
   clear hR hC hcb hRb hvr hnq htk hrvl hlt
   go_wp2_with fail
   go_region_law
    ((refine step_append_lies _ (by rfl) _ _ _ (by rfl) 0 48 i4 _ 4 48 Tryx.underlying55 hi4 hz40 hz41 hz42 rfl (by omega) (.slice fa nf fc) nf _ (by rfl) ((hrow4.alloc _).drew)
       ⟨W4.heap.size,0,none⟩ 1 1 [.bool c.write,.int .i64 c.page,.int .i64 c.count,.slice va j vc] (by rfl) (by rfl) (World.news_of_block (cs:=#[.bool c.write,.int .i64 c.page,.int .i64 c.count,.slice va j vc]) (t:=48) (fr:=(0,0)) (heap_alloc_new W4 _)) (by simp[Value.oneCell'])
       (by omega) (by unfold maxLen;omega) (by omega) (by omega) (W4.heap.size+1) (by simp) ?_;intro gg cap2 w5 hown5 hgrow hat hltg
      have z2:=hgrow.cell (a:=⟨q,3,none⟩) (v:=.slice fa nf fc) (by go_keep) (fun h=>ag h.symm)
      have z3:=grown_free hgrow (a:=⟨q,3,none⟩) (v:=.slice fa nf fc) (by go_keep) (by simp[*,frozen?_alloc_cells]) (fun h=>ag h.symm)))
   all_goals
    have hc5:Chg (fun k=>(Value.slice fa nf fc).ownBlock=some k) W4 w5:=Chg.grown (a:=W4) (h:=chgB (by go_grown) _) (hg:=hgrow) (hr:=fun k hk=>.inl hk)
    have hfw:∀ k,(Value.slice fa nf fc).ownBlock=some k->k<w.heap.size:=fun k hk=>HNO.out k (.inr (.inr (.inr (.inl (by rw[HNF.out];exact hk)))))
    have hcm:CmdsAt w5 0 (.slice (some ⟨gg,0,none⟩) (nf+1) cap2) (fs ++ [(c,.slice va j vc)]):=by
     refine⟨by rw[List.length_append,List.flatMap_append,HNF.out];exact hown5,fun x hx=>?_,?_⟩
     ·rcases List.mem_append.1 hx with hx | hx
      ·exact ownsRow_chg (HR4.out.fls.rows x hx) hc5 fun k hk e=>(HR4.out.ne_cv hx hk).2.2.2.1 (by rw[HNF.out];exact e)
      ·obtain rfl:=List.mem_singleton.1 hx
       have h1:=ownsRow_chg HV4.out hc5 fun k hk e=>by have:=(HV4.out.lt k hk).1;have:=hfw k e;omega
       rw[HNL.out]
       exact ownsRow_lowS h1 (Nat.zero_le _)
     ·refine List.pairwise_append.2 ⟨HR4.out.fls.apart,List.pairwise_singleton _ _,fun a ha b hb k hk hk2=>?_⟩
      obtain rfl:=List.mem_singleton.1 hb
      have h1:=(HV4.out.lt k hk2).1
      have h2:=HNO.out k (.inr (.inr (.inr (.inr (.inr ⟨a,ha,hk⟩)))))
      omega
    obtain⟨f1,f2⟩:=HR4.out.setF (W:=w5) (v':=.slice (some ⟨gg,0,none⟩) (nf+1) cap2) (by rw[HNF.out];exact hc5) hcm (fun k hk=>by
     simp[Value.ownBlock]at hk
     subst hk
     rw[HNF.out]
     exact hat.imp id fun e=>by omega) (fun x hx=>by
     rcases List.mem_append.1 hx with hx | hx
     ·exact .inl hx
     ·obtain rfl:=List.mem_singleton.1 hx
      refine .inr fun k hk=>.inr fun e=>?_
      have h1:=(HV4.out.lt k hk).1
      have h2:=HNO.out k e
      omega) (t':={t with cs:=t.cs ++ [c]}) (by rw[List.map_append,HR.out.fcs];rfl) rfl rfl rfl rfl rfl
    obtain⟨W6,hW6⟩:∃ W6,w5.setCell ⟨q,3,none⟩ (.slice (some ⟨gg,0,none⟩) (nf+1) cap2)=W6:=⟨_,rfl⟩
    have hqw:q<w.heap.size:=lt_of_heap HR.out.que
    rw[hW6]at f1 f2
    have hno6:∀ k,w.heap.size<=k->¬(k=q\/(Value.slice fa fs.length fc).ownBlock=some k):=fun k hk e=>by
     rcases e with e | e
     ·omega
     ·rw[HNF.out]at e;have:=hfw k e;omega
    have hcb6:=(f2.block _ hcbl4 (hno6 _ (by omega))).trans HCB4.out
    have hrb6:=(f2.block _ hwl4 (hno6 _ (Nat.le_refl _))).trans HRB4.out
    have e0:W6.cell? ⟨w2.heap.size,0,none⟩=some (.bool c.write):=cell_of hcb6 rfl
    have e1:W6.cell? ⟨w2.heap.size,1,none⟩=some (.int .i64 c.page):=cell_of hcb6 rfl
    have e2:W6.cell? ⟨w2.heap.size,2,none⟩=some (.int .i64 c.count):=cell_of hcb6 rfl
    have e5:=f1.c5
    have ef:=f1.free
    have hpn:IntKind.i64.wrap ((c.page:Int)+(c.count:Int))=(c.page:Int)+(c.count:Int):=by rw[IntKind.wrap_i64];omega
    have F1:=Lib.hid f1
    have F2:=Lib.hid f2
    have HCB6:=Lib.hid hcb6
    have HRB6:=Lib.hid hrb6
    have HW6:=Lib.hid hW6
    have HNO6:=Lib.hid hno6
    have HC5:=Lib.hid hc5
    clear f1 f2 hcb6 hrb6 hW6 hcm hown5 hgrow hc5 hfw hno6
    go_upto_region 12 with fail
    rw[HW6.out]
    go_upto_region 13 with fail
    obtain⟨W7,hW7⟩:∃ W7,W6.setCell ⟨q,5,none⟩ (.int .i64 ((c.page:Int)+(c.count:Int)))=W7:=⟨_,rfl⟩
    have hc7:Chg (fun k=>k=q) W6 W7:=by rw[<-hW7];exact Chg.setCell (S:=fun k=>k=q) (p:=⟨q,5,none⟩) (Chg.refl _ W6) (.inl rfl) _
    have hq7:W7.heap[q]?=some (.cells #[.int .i64 (t.sent c).depth,.slice ra l.length rc,tv,.slice (some ⟨gg,0,none⟩) (nf+1) cap2,.int .i64 (t.sent c).now,.int .i64 (t.sent c).head,.int .i64 (t.sent c).last,dv] 119 (0,0)):=by
     rw[<-hW7,show ((t.sent c).head:Int)=(c.page:Int)+(c.count:Int)from by show ((c.page+c.count:Nat):Int)=_;omega]
     exact heap_setCell (i:=5) _ F1.out.que
    have hR7:RB W7 q (t.sent c) (sentL l c.nums) told (fs ++ [(c,.slice va j vc)]) (.slice ra l.length rc) tv (.slice (some ⟨gg,0,none⟩) (nf+1) cap2) dv:=F1.out.que' hc7 hq7 rfl rfl
    have hcb7:=(hc7.block _ (lt_of_heap HCB6.out) (fun e=>by omega)).trans HCB6.out
    have hrb7:=(hc7.block _ (lt_of_heap HRB6.out) (fun e=>by omega)).trans HRB6.out
    have i0:W7.cell? ⟨w2.heap.size,0,none⟩=some (.bool c.write):=cell_of hcb7 rfl
    have i1:W7.cell? ⟨w2.heap.size,1,none⟩=some (.int .i64 c.page):=cell_of hcb7 rfl
    have i2:W7.cell? ⟨w2.heap.size,2,none⟩=some (.int .i64 c.count):=cell_of hcb7 rfl
    have i3:W7.cell? ⟨w2.heap.size,3,none⟩=some (.slice va j vc):=cell_of hcb7 rfl
    have j0:W7.cell? ⟨w.heap.size,0,none⟩=some (.bool false):=cell_of hrb7 rfl
    have j1:W7.cell? ⟨w.heap.size,1,none⟩=some (.int .i64 0):=cell_of hrb7 rfl
    have j2:W7.cell? ⟨w.heap.size,2,none⟩=some (.int .i64 0):=cell_of hrb7 rfl
    have j3:W7.cell? ⟨w.heap.size,3,none⟩=some (.slice none 0 0):=cell_of hrb7 rfl
    have jf:∀ i,W7.frozen? ⟨w.heap.size,i,none⟩=false:=fun i=>free_of hrb7
    have hne8:w.heap.size≠w2.heap.size:=by omega
    obtain⟨e9,hc9⟩:=cmd_set (W:=W7) (.bool c.write) (.int .i64 c.page) (.int .i64 c.count) (.slice va j vc) hrb7
    have hv5:=ownsRow_chg HV4.out HC5.out fun k hk e=>by
     have:=(HV4.out.lt k hk).1
     have:=HNO.out k (.inr (.inr (.inr (.inl (by rw[HNF.out];exact e)))))
     omega
    have hv6:W6.ownsRow W0.heap.size 3 1 (.slice va j vc) j (c.nums.map fun n=>Value.int .i64 n):=by
     rw[<-HW6.out]
     exact ownsRow_chg hv5 (Chg.setCell (S:=fun k=>k=q) (p:=⟨q,3,none⟩) (Chg.refl _ w5) (.inl rfl) _) fun k hk e=>by have:=(HV4.out.lt k hk).1;omega
    have hv8:=ownsRow_chg hv6 hc7 fun k hk e=>by have:=(HV4.out.lt k hk).1;omega
    have H9:=Lib.hid (And.intro e9 hc9)
    have HR7:=Lib.hid hR7
    have HC7:=Lib.hid hc7
    have HV8:=Lib.hid hv8
    rw[hW7]
    clear e9 hc9 hR7 hc7 hv5 hv6 hv8 hcb7 hrb7 hq7 hW7
    go_wp2_with fail
    obtain⟨e9,hc9⟩:=H9.out
    obtain⟨W9,hW9⟩:∃ W9,((((W7.setCell ⟨w.heap.size,0,none⟩ (.bool c.write)).setCell ⟨w.heap.size,1,none⟩ (.int .i64 c.page)).setCell ⟨w.heap.size,2,none⟩ (.int .i64 c.count)).setCell ⟨w.heap.size,3,none⟩ (.slice va j vc))=W9:=⟨_,rfl⟩
    rw[hW9]at e9 hc9
    rw[hW9]
    have z0:W9.cell? ⟨w.heap.size,0,none⟩=some (.bool c.write):=cell_of e9 rfl
    have z1:W9.cell? ⟨w.heap.size,1,none⟩=some (.int .i64 c.page):=cell_of e9 rfl
    have z2:W9.cell? ⟨w.heap.size,2,none⟩=some (.int .i64 c.count):=cell_of e9 rfl
    have z3:W9.cell? ⟨w.heap.size,3,none⟩=some (.slice va j vc):=cell_of e9 rfl
    have hft:∀ k,RFoot q (.slice ra l.length rc) tv (.slice (some ⟨gg,0,none⟩) (nf+1) cap2) dv (fs ++ [(c,.slice va j vc)]) k->(G k\/w.heap.size<=k)/\k≠w.heap.size:=fun k hk=>by
     have old:∀ k,RFoot q (.slice ra l.length rc) tv (.slice fa fs.length fc) dv fs k->(G k\/w.heap.size<=k)/\k≠w.heap.size:=fun k hk=>⟨.inl (H3.out k hk),by have:=HNO.out k hk;omega⟩
     rcases hk with e | e | e | e | e |⟨x,hx,e⟩
     ·exact old k (.inl e)
     ·exact old k (.inr (.inl e))
     ·exact old k (.inr (.inr (.inl e)))
     ·simp[Value.ownBlock]at e
      subst e
      rcases hat with e | e
      ·exact old _ (.inr (.inr (.inr (.inl (by rw[HNF.out];exact e)))))
      ·exact⟨.inr (by omega),by omega⟩
     ·exact old k (.inr (.inr (.inr (.inr (.inl e)))))
     ·rcases List.mem_append.1 hx with hx | hx
      ·exact old k (.inr (.inr (.inr (.inr (.inr ⟨x,hx,e⟩)))))
      ·obtain rfl:=List.mem_singleton.1 hx
       have:=(HV8.out.lt k e).1
       exact⟨.inr (by omega),by omega⟩
    have hR9:=HR7.out.kept hc9 fun k hk e=>(hft k hk).2 e
    have hv9:W9.ownsRow w.heap.size 3 1 (.slice va j vc) c.nums.length (c.nums.map fun n=>Value.int .i64 n):=by
     rw[HNL.out]
     exact ownsRow_lowS (ownsRow_chg HV8.out hc9 fun k hk e=>by have:=(HV8.out.lt k hk).1;omega) (by omega)
    have hch:Chg G w W9:=by
     have a1:Chg G w W4:=(chgB HBW.out G).then (HC4.out.mono fun k _ hk=>H3.out k (.inr (.inl hk)))
     have a2:Chg G w W6:=a1.then (F2.out.mono fun k _ hk=>H3.out k (hk.elim (fun e=>.inl e) fun e=>.inr (.inr (.inr (.inl e)))))
     have a3:Chg G w W7:=a2.then (HC7.out.mono fun k _ hk=>by rw[hk];exact H3.out q (.inl rfl))
     exact a3.trans (hc9.mono fun k _ hk=>.inr (by omega))
    refine bodyPost_ret (v:=.tuple #[.agg #[.bool c.write,.int .i64 c.page,.int .i64 c.count,.slice va j vc],.bool true]) (by simp[results,Tryz.results92,go_sem,z0,z1,z2,z3]) rfl
     ⟨_,rfl,fun k=>G k\/w.heap.size<=k,⟨_,told,_,_,tv,_,dv,hR9,HSS.out,fun k hk=>(hft k hk).1⟩,fun k hk=>hk,hch,hv9⟩
end
end
section
open Go.RowKit Go.Shelf Go.Lib
theorem cmdnums_len{t:St}(h:t.Ok)(hs:t.Small){c:Cmd}(hc:c∈t.cs):c.nums.length<=1000000:=by
 have:=cmd_len h hc
 have:=hs.last
 omega
theorem step_both(t:St)(hk:t.Ok)(hsm:t.Small):∃ (wt ok:Bool) (p c:Int) (ns:List Int) (T:St),ns.length<=1000000/\T.Ok/\T.last=t.last/\T.now=t.now/\
  (∀ (w:World) (q:Nat) (F:Nat->Prop),QT w q t F->Calls Tryx.prog 18 #[ptr q] w fun y w'=>∃ v F',y=.returned (.tuple #[.agg #[.bool wt,.int .i64 p,.int .i64 c,v],.bool ok])/\QT w' q T F'/\(∀ k,F' k->F k\/w.heap.size<=k)/\(∀ k,v.ownBlock=some k->¬F' k)/\Chg F w w'/\w'.ownsRow w.heap.size 3 1 v ns.length (ns.map fun n=>Value.int .i64 n))/\
  (∀ (w:World) (q:Nat) (G:Nat->Prop),RT w q t G->Calls Tryx.prog 92 #[ptr q] w fun y w'=>∃ v G',y=.returned (.tuple #[.agg #[.bool wt,.int .i64 p,.int .i64 c,v],.bool ok])/\RT w' q T G'/\(∀ k,G' k->G k\/w.heap.size<=k)/\Chg G w w'/\w'.ownsRow w.heap.size 3 1 v ns.length (ns.map fun n=>Value.int .i64 n)):=by
 cases hc:t.cmd with
 | none=>
   refine⟨false,false,0,0,[],t,by simp,hk,rfl,rfl,fun w q F h=>?_,fun w q G h=>?_⟩
   ·exact (step_none_c h hk hc).mono fun x w' ⟨e,hb⟩=>⟨.slice none 0 0,F,e,h.below hb,fun k hk=>.inl hk,(fun k hk=>by cases hk),chgB hb _,World.ownsRow_nil _ _ _ _⟩
   ·exact (step_none_r h hk hsm hc).mono fun x w' ⟨e,hb⟩=>⟨.slice none 0 0,G,e,h.below hb,fun k hk=>.inl hk,chgB hb _,World.ownsRow_nil _ _ _ _⟩
 | some c=>
   have hT:=ok_sent hk hc
   refine⟨c.write,true,c.page,c.count,c.nums,t.sent c,?_,hT,rfl,rfl,fun w q F h=>step_some_c h hk hsm c hc,fun w q G h=>step_some_r h hk hsm c hc⟩
   exact cmdnums_len hT ⟨hsm.last,hsm.now⟩ (c:=c) (by show c∈t.cs ++ [c];simp)
theorem wait_len{t:St}(h:t.Ok)(hs:t.Small):t.waiting.length<=1000000:=by
 have h1:=ok_len h
 have h2:=hs.last
 have h3:t.waiting.length<=t.rs.length:=by unfold St.waiting;rw[List.length_map];exact List.length_filter_le _ _
 omega
theorem waiting_m{w:World}{q:Nat}{t:St}{G:Nat->Prop}(h:RT w q t G)(hk:t.Ok)(hsm:t.Small):
  Calls Tryx.prog 87 #[ptr q] w fun y w'=>∃ v,y=.returned v/\w'.ownsRow w.heap.size 3 1 v t.waiting.length (t.waiting.map fun n=>Value.int .i64 n)/\Below w.heap.size w w':=by
 obtain⟨l,told,fs,rv,tv,fv,dv,h1,h2,h3⟩:=h
 have hl:=h2.tlen hk hsm
 exact waiting_r w h1 h2.rs (by omega)
theorem disk_m{w:World}{q:Nat}{t:St}{G:Nat->Prop}(h:RT w q t G)(hk:t.Ok):
  Calls Tryx.prog 91 #[ptr q] w fun y w'=>y=.returned (.string (strOfNums t.disk))/\w=w':=by
 obtain⟨l,told,fs,rv,tv,fv,dv,h1,h2,h3⟩:=h
 exact disk_r w h1 hk.a.dlen
theorem flights_m{w:World}{q:Nat}{t:St}{G:Nat->Prop}(h:RT w q t G):
  Calls Tryx.prog 84 #[ptr q] w fun y w'=>∃ v fs,y=.returned v/\fs.map (·.1)=t.cs/\CmdsAt w 0 v fs/\(∀ k,v.ownBlock=some k->G k)/\(∀ c∈fs,∀ k,c.2.ownBlock=some k->G k)/\w=w':=by
 obtain⟨l,told,fs,rv,tv,fv,dv,h1,h2,h3⟩:=h
 exact (flights_r w h1).mono fun x w' ⟨e,hw⟩=>⟨fv,fs,e,h1.fcs,h1.fls,fun k hk=>h3 k (.inr (.inr (.inr (.inl hk)))),fun c hc k hk=>h3 k (.inr (.inr (.inr (.inr (.inr ⟨c,hc,hk⟩))))),hw⟩
theorem now_m{w:World}{q:Nat}{t:St}{G:Nat->Prop}(h:RT w q t G):w.cell? ⟨q,4,none⟩=some (.int .i64 t.now)/\(∀ i,w.frozen? ⟨q,i,none⟩=false)/\q<w.heap.size/\G q:=by
 obtain⟨l,told,fs,rv,tv,fv,dv,h1,h2,h3⟩:=h
 exact⟨cell_of h1.que rfl,fun i=>free_of h1.que,lt_of_heap h1.que,h3 q (.inl rfl)⟩
theorem tick_m{w:World}{q:Nat}{t:St}{G:Nat->Prop}(h:RT w q t G):RT (w.setCell ⟨q,4,none⟩ (.int .i64 (t.now+1))) q t.tick G/\Chg G w (w.setCell ⟨q,4,none⟩ (.int .i64 (t.now+1))):=by
 obtain⟨l,told,fs,rv,tv,fv,dv,h1,h2,h3⟩:=h
 have hs:Chg (fun k=>k=q) w (w.setCell ⟨q,4,none⟩ (.int .i64 (t.now+1))):=chg_set _
 have hne:∀ {b:Nat} {ty:TypeId} {sz n:Nat} {v:Value} {xs:List Value},w.ownsRow b ty sz v n xs->ty≠119->∀ k,v.ownBlock=some k->¬k=q:=fun hr ht k hk e=>by
  obtain⟨cur,hcur⟩:=own_heap hr hk
  rw[e]at hcur
  exact ne_of_heap hcur h1.que (fun z=>by injection z with _ z2 _;exact ht z2) rfl
 refine⟨⟨l,told,fs,rv,tv,fv,dv,⟨heap_setCell (i:=4) _ h1.que,ownsRow_chg h1.reqs hs (hne h1.reqs (by decide)),ownsRow_chg h1.tol hs (hne h1.tol (by decide)),⟨ownsRow_chg h1.fls.row hs (hne h1.fls.row (by decide)),fun c hc=>ownsRow_chg (h1.fls.rows c hc) hs (hne (h1.fls.rows c hc) (by decide)),h1.fls.apart⟩,h1.fcs,ownsRow_chg h1.dsk hs (hne h1.dsk (by decide)),h1.tf⟩,⟨h2.rs,h2.ok,h2.told⟩,h3⟩,hs.mono fun k _ hk=>hk ▸ h3 q (.inl rfl)⟩
end
section
open Go.RowKit Go.Shelf Go.Lib
set_option maxRecDepth 100000
set_option maxHeartbeats 8000000
def strC(S:ByteArray):List Value:=S.data.toList.map fun b=>.int .u8 b.toNat
theorem strC_len(S:ByteArray):(strC S).length=S.size:=by
 unfold strC
 rw[List.length_map,Array.length_toList]
 rfl
theorem mkU8(n:Nat)(hn:n<=1000000)(w:World):(Instr.makeSlice 41 (.int .i64 ((n:Int)+1)) (.int .i64 ((n:Int)+1))).run Tryx.prog w=.ok (.slice (some ⟨w.heap.size,0,none⟩) (n+1) (n+1)) (w.alloc (.cells (madeCells #[.int .u8 0] (n+1)) 5)):=by
 obtain⟨i0,hi,hz0,hz1,hz2⟩:=info_parts Tryz.infoB
 have h:=run_make (P:=Tryx.prog) w 41 5 i0 (.int .u8 0) Tryx.underlying41 hi hz0 .i64 .i64 ((n:Int)+1) ((n:Int)+1) (by omega) (Int.le_refl _) (by rw[hz2];omega) (by omega)
 rw[h,hz1]
 have e:((n:Int)+1).toNat=n+1:=by omega
 rw[e]
 simp[Value.cells]
theorem cpS(w:World)(S:ByteArray)(g n cap:Nat)(cur:Array Value)(t:TypeId)(hg:w.heap[g]?=some (.cells cur t (0,0)))(hn:S.size<=n)(hc:n<=cur.size)(ty:TypeId):
  (Builtin.copy_ #[41,9] ty #[.slice (some ⟨g,0,none⟩) n cap,.string S]).run Tryx.prog w=.ok (.int .i64 S.size) (w.setRow g (strC S ++ cur.toList.drop S.size).toArray):=by
 obtain⟨i0,hi,hz0,hz1,hz2⟩:=info_parts Tryz.infoB
 have hst:=run_storeCells_at Tryx.prog g 0 t (strC S) 0 cur w hg (by rw[strC_len];omega) (by
  intro v hv
  unfold strC at hv
  obtain⟨b,_,rfl⟩:=List.mem_map.1 hv
  rfl)
 have e1:List.take S.size (S.data.toList.map fun b=>Value.int .u8 b.toNat)=strC S:=by
  unfold strC
  exact List.take_of_length_le (by rw[List.length_map,Array.length_toList];exact Nat.le_refl _)
 have e2:Nat.min S.size n=S.size:=Nat.min_eq_left hn
 rw[strC_len]at hst
 simp only[Nat.zero_add,Nat.add_zero,List.take_zero,List.nil_append]at hst
 have hi3:=hi
 try simp only[Tryx.info_]at hi3
 simp[Builtin.copy_,run_underlying Tryx.underlying41,Builtin.lenOf,Builtin.firstCells,sizeOf,typeInfo,hi,hi3,e2,e1,hst,goInt]
theorem cvS(w:World)(S:ByteArray)(g cap:Nat)(cur:Array Value)(t:TypeId)(fr:Nat×Nat)(hg:w.heap[g]?=some (.cells cur t fr))(hc:cur.toList.take S.size=strC S):
  (convert 41 9 (.slice (some ⟨g,0,none⟩) S.size cap)).run Tryx.prog w=.ok (.string S) w:=by
 obtain⟨l,hl⟩:∃ l:List Int,S.data.toList.map (fun b=>(b.toNat:Int))=l:=⟨_,rfl⟩
 have hlen:l.length=S.size:=by rw[<-hl,List.length_map,Array.length_toList];rfl
 have hS:strOfNums l=S:=by
  apply ba_ext
  rw[strOfNums_data,<-hl,List.map_map]
  conv=>rhs;rw[<-List.map_id S.data.toList]
  refine List.map_congr_left fun b _=>?_
  simp
 have hcl:strC S=l.map fun b=>Value.int .u8 b:=by rw[<-hl,List.map_map];rfl
 rw[<-hS]
 have e3:S.size=l.length:=hlen.symm
 rw[hS,e3]
 conv=>rhs;rw[<-hS]
 refine run_convert_bytes_arg (P:=Tryx.prog) w 41 5 Tryx.underlying41 Tryx.underlying5 g 0 l.length cap l rfl (fun i hi=>?_) 9 Tryx.underlying9
 rw[Nat.zero_add]
 refine cell_of hg ?_
 have h2:(cur.toList.take S.size)[i]?=some (.int .u8 l[i]):=by
  rw[hc,hcl,List.getElem?_map,List.getElem?_eq_getElem hi]
  rfl
 rw[List.getElem?_take_of_lt (by omega)]at h2
 have h3:l[i]?.getD 0=l[i]:=by rw[List.getElem?_eq_getElem hi];rfl
 simpa[h3]using h2
theorem datS{w:World}{S:ByteArray}(h4:S.size=4){g cap:Nat}{cur:Array Value}{t:TypeId}{fr:Nat×Nat}(hg:w.heap[g]?=some (.cells cur t fr))(hc:cur.toList.take 4=strC S):DatV w (.slice (some ⟨g,0,none⟩) 4 cap) (b4of S):=by
 have hS:strC S=[.int .u8 (b4of S).a,.int .u8 (b4of S).b,.int .u8 (b4of S).c,.int .u8 (b4of S).d]:=by
  obtain⟨⟨l⟩⟩:=S
  match l,h4 with
  | [a,b,c,d],_=>simp [strC,b4of]
 rw[hS]at hc
 have e:∀ i v,[Value.int .u8 (b4of S).a,.int .u8 (b4of S).b,.int .u8 (b4of S).c,.int .u8 (b4of S).d][i]?=some v->w.cell? ⟨g,i,none⟩=some v:=fun i v hv=>by
  refine cell_of hg ?_
  have hi:i<4:=(List.getElem?_eq_some_iff.1 hv).1
  rw[<-hc,List.getElem?_take_of_lt hi]at hv
  simpa using hv
 exact .four _ _ _ _ (e 0 _ rfl) (e 1 _ rfl) (e 2 _ rfl) (e 3 _ rfl)
structure AskR(wb w':World)(wl:Nat)(ow1:Nat->Lab)(qv bv iv:Value)(ps:List LP)(bs is:List Value)(g n px pm:Nat)(A B C:Int)(S:ByteArray):Prop where
 lb:LB wb w' wl ow1 qv bv iv ps bs is
 gg:w'.heap[g]?=some (.cells (strC S ++ [Value.int .u8 77]).toArray 5 (0,0))
 pr:w'.heap[n]?=some (.cells #[ptr px,ptr pm] 114 (0,0))
 op:w'.heap[n+1]?=some (.cells #[.int .i64 3,.int .i64 A,.int .i64 B,.int .i64 C,.string S] 73 (0,0))
 lg:ow1 g=.loose
 lp:ow1 n=.loose
 lo:ow1 (n+1)=.loose
theorem AskR.below{wb w' W:World}{wl:Nat}{ow1:Nat->Lab}{qv bv iv:Value}{ps:List LP}{bs is:List Value}{g n px pm:Nat}{A B C:Int}{S:ByteArray}(h:AskR wb w' wl ow1 qv bv iv ps bs is g n px pm A B C S)(hb:Below w'.heap.size w' W):AskR wb W wl ow1 qv bv iv ps bs is g n px pm A B C S:=
 ⟨h.lb.below hb,(hb.block _ (lt_of_heap h.gg)).trans h.gg,(hb.block _ (lt_of_heap h.pr)).trans h.pr,(hb.block _ (lt_of_heap h.op)).trans h.op,h.lg,h.lp,h.lo⟩
theorem AskR.set{wb w' W:World}{wl:Nat}{ow1:Nat->Lab}{qv bv iv:Value}{ps:List LP}{bs is:List Value}{g n px pm e:Nat}{A B C:Int}{S:ByteArray}(h:AskR wb w' wl ow1 qv bv iv ps bs is g n px pm A B C S)(hc:Chg (fun k=>k=e) w' W)(he:ow1 e=.loose)(h1:g≠e)(h2:n≠e)(h3:n+1≠e):AskR wb W wl ow1 qv bv iv ps bs is g n px pm A B C S:=
 ⟨h.lb.chg hc fun k hk=>by rw[hk];exact he,(hc.block _ (lt_of_heap h.gg) h1).trans h.gg,(hc.block _ (lt_of_heap h.pr) h2).trans h.pr,(hc.block _ (lt_of_heap h.op) h3).trans h.op,h.lg,h.lp,h.lo⟩
def AskE(wb w':World)(wl:Nat)(ow1:Nat->Lab)(qv bv iv:Value)(ps:List LP)(bs is:List Value)(g n px pm:Nat)(A B C:Int)(S:ByteArray)(b:Nat)(k:Int):Prop:=
 AskR wb w' wl ow1 qv bv iv ps bs is g n px pm A B C S/\w'.heap[b]?=some (.cells #[.int .i64 k,.int .i64 (-1),.int .i64 0,.bool true] 39 (0,0))/\ow1 b=.loose
theorem askE_alloc{wb w':World}{wl:Nat}{ow1:Nat->Lab}{qv bv iv:Value}{ps:List LP}{bs is:List Value}{g n px pm:Nat}{A B C:Int}{S:ByteArray}(k:Int)(h:AskR wb w' wl ow1 qv bv iv ps bs is g n px pm A B C S)(hl:∀ k,w'.heap.size<=k->ow1 k=.loose):AskE wb (w'.alloc (.cells #[.int .i64 k,.int .i64 (-1),.int .i64 0,.bool true] 39)) wl ow1 qv bv iv ps bs is g n px pm A B C S w'.heap.size k:=
 ⟨h.below ((Below.refl _ _).alloc (Nat.le_refl _) _),World.alloc_heap_new _ _,hl _ (Nat.le_refl _)⟩
theorem askE_set{wb w':World}{wl:Nat}{ow1:Nat->Lab}{qv bv iv:Value}{ps:List LP}{bs is:List Value}{g n px pm e:Nat}{A B C:Int}{S:ByteArray}(k:Int)(h:AskR wb w' wl ow1 qv bv iv ps bs is g n px pm A B C S)(he:ow1 e=.loose)(hb:w'.heap[e]?=some (.cells #[.int .i64 0,.int .i64 0,.int .i64 0,.bool false] 39 (0,0)))(h1:g<e)(h2:n+1<e):
  AskE wb ((((w'.setCell ⟨e,0,none⟩ (.int .i64 k)).setCell ⟨e,1,none⟩ (.int .i64 (-1))).setCell ⟨e,2,none⟩ (.int .i64 0)).setCell ⟨e,3,none⟩ (.bool true)) wl ow1 qv bv iv ps bs is g n px pm A B C S e k:=
 ⟨h.set ((((Chg.refl (fun k=>k=e) w').setCell (p:=⟨e,0,none⟩) (.inl rfl) _).setCell (p:=⟨e,1,none⟩) (.inl rfl) _).setCell (p:=⟨e,2,none⟩) (.inl rfl) _ |>.setCell (p:=⟨e,3,none⟩) (.inl rfl) _) he (by omega) (by omega) (by omega),heap_setCell (i:=3) _ (heap_setCell (i:=2) _ (heap_setCell (i:=1) _ (heap_setCell (i:=0) _ hb))),he⟩
section
variable {wb w:World} {wl:Nat} {ow:Nat->Lab} {qv bv iv:Value} {ps:List LP} {bs is:List Value}
theorem asked_write_l(h:LB wb w wl ow qv bv iv ps bs is){j:Nat}{p:LP}(hp:ps[j]?=some p)(htu:p.u=p.t)(hk:p.t.Ok)(hsm:p.t.Small)(B A C:Int)(S:ByteArray)(hS:S.size<=1000000):
  Calls Tryx.prog 51 #[.agg #[ptr p.x,ptr p.m],opV 3 A B C S] w fun y w'=>∃ ow' T,y=.returned (.bool true)/\LB wb w' wl ow' qv bv iv (ps.set j {p with t:=T,u:=T}) bs is/\T.Ok/\T.last<=p.t.last+1/\T.now=p.t.now:=by
 obtain⟨ow,h,_,hlo⟩:=h.norm
 obtain⟨num,k,T,hT,hTl,hTn,hX,hM⟩:=write_both p.t hk hsm B S hS
 obtain⟨px,hpx⟩:∃ px,p.x=px:=⟨_,rfl⟩
 obtain⟨pm,hpm⟩:∃ pm,p.m=pm:=⟨_,rfl⟩
 rw[hpx,hpm]
 obtain⟨W0,hW0⟩:∃ W0,(w.alloc (.cells #[ptr px,ptr pm] 114)).alloc (.cells #[.int .i64 3,.int .i64 A,.int .i64 B,.int .i64 C,.string S] 73)=W0:=⟨_,rfl⟩
 have hb0:Below w.heap.size w W0:=by rw[<-hW0];exact ((Below.refl _ _).alloc (Nat.le_refl _) _).alloc (by simp) _
 have ho0:W0.heap[w.heap.size+1]?=some (.cells #[.int .i64 3,.int .i64 A,.int .i64 B,.int .i64 C,.string S] 73 (0,0)):=by
  rw[<-hW0]
  have:=World.alloc_heap_new (w.alloc (.cells #[ptr px,ptr pm] 114)) (.cells #[.int .i64 3,.int .i64 A,.int .i64 B,.int .i64 C,.string S] 73)
  rwa [show (w.alloc (.cells #[ptr px,ptr pm] 114)).heap.size=w.heap.size+1 from by simp]at this
 have h0:W0.heap[w.heap.size]?=some (.cells #[ptr px,ptr pm] 114 (0,0)):=by
  rw[<-hW0]
  refine (Below.heap_alloc _ _ _ (by simp)).trans ?_
  exact World.alloc_heap_new w _
 have z0:W0.cell? ⟨w.heap.size+1,0,none⟩=some (.int .i64 3):=cell_of ho0 rfl
 have z4:W0.cell? ⟨w.heap.size+1,4,none⟩=some (.string S):=cell_of ho0 rfl
 obtain⟨g,hgW⟩:∃ g,W0.heap.size=g:=⟨_,rfl⟩
 have hgw:w.heap.size+1<g:=by have:=lt_of_heap ho0;omega
 obtain⟨W1,hW1⟩:∃ W1,W0.alloc (.cells (madeCells #[.int .u8 0] (S.size+1)) 5)=W1:=⟨_,rfl⟩
 have hb1:Below W0.heap.size W0 W1:=by rw[<-hW1];exact (Below.refl _ _).alloc (Nat.le_refl _) _
 have hg1:W1.heap[g]?=some (.cells (madeCells #[.int .u8 0] (S.size+1)) 5 (0,0)):=by rw[<-hW1,<-hgW];exact World.alloc_heap_new _ _
 have ho1:=(hb1.block _ (lt_of_heap ho0)).trans ho0
 have h01:=(hb1.block _ (lt_of_heap h0)).trans h0
 obtain⟨W2,hW2⟩:∃ W2,W1.setRow g (strC S ++ (madeCells #[.int .u8 0] (S.size+1)).toList.drop S.size).toArray=W2:=⟨_,rfl⟩
 have hg2:=setRow_heap W1 g _ (strC S ++ (madeCells #[.int .u8 0] (S.size+1)).toList.drop S.size).toArray _ _ hg1
 have hc2:Chg (fun k=>k=g) W1 (W1.setRow g (strC S ++ (madeCells #[.int .u8 0] (S.size+1)).toList.drop S.size).toArray):=⟨rfl,rfl,rfl,by simp,fun k _ hk=>setRow_other _ _ _ _ hk⟩
 have hcp:=cpS W1 S g (S.size+1) (S.size+1) _ _ hg1 (Nat.le_succ _) (by rw[size_madeCells];exact Nat.le_refl _)
 have hmk:=mkU8 S.size hS W0
 rw[hW1,hgW]at hmk
 rw[hW2]at hg2 hc2 hcp
 rw[toList_madeCells_one]at hg2
 have hcz:strC S ++ (List.replicate (S.size+1) (Value.int .u8 0)).drop S.size=strC S ++ [.int .u8 0]:=by rw[List.drop_replicate,show S.size+1 - S.size=1 from by omega];rfl
 rw[hcz]at hg2
 have ho2:=(hc2.block _ (lt_of_heap ho1) (by omega)).trans ho1
 have h02:=(hc2.block _ (lt_of_heap h01) (by omega)).trans h01
 have y4:W1.cell? ⟨w.heap.size+1,4,none⟩=some (.string S):=cell_of ho1 rfl
 have x4:W2.cell? ⟨w.heap.size+1,4,none⟩=some (.string S):=cell_of ho2 rfl
 have x9:W2.cell? ⟨g,S.size,none⟩=some (.int .u8 0):=cell_of hg2 (by simp[strC_len])
 have xf:∀ i,W2.frozen? ⟨g,i,none⟩=false:=fun i=>free_of hg2
 obtain⟨W3,hW3⟩:∃ W3,W2.setCell ⟨g,S.size,none⟩ (.int .u8 77)=W3:=⟨_,rfl⟩
 have hg3:=heap_setCell (i:=S.size) (.int .u8 77) hg2
 have hc3:Chg (fun k=>k=g) W2 (W2.setCell ⟨g,S.size,none⟩ (.int .u8 77)):=chg_set _
 rw[hW3]at hg3 hc3
 have hset:(strC S ++ [Value.int .u8 0]).toArray.setIfInBounds S.size (Value.int .u8 77)=(strC S ++ [Value.int .u8 77]).toArray:=by
  have hl:=strC_len S
  apply Array.ext'
  rw[Array.toList_setIfInBounds]
  simp[<-hl]
 rw[hset]at hg3
 have ho3:=(hc3.block _ (lt_of_heap ho2) (by omega)).trans ho2
 have h03:=(hc3.block _ (lt_of_heap h02) (by omega)).trans h02
 have hlg:ow g=.loose:=hlo g (by omega)
 have hL3:LB wb W3 wl ow qv bv iv ps bs is:=(((h.below hb0).below hb1).chg hc2 fun k hk=>by rw[hk];exact hlg).chg hc3 fun k hk=>by rw[hk];exact hlg
 have s4:W3.cell? ⟨w.heap.size+1,4,none⟩=some (.string S):=cell_of ho3 rfl
 have s2:W3.cell? ⟨w.heap.size+1,2,none⟩=some (.int .i64 B):=cell_of ho3 rfl
 have s0:W3.cell? ⟨w.heap.size,0,none⟩=some (ptr px):=cell_of h03 rfl
 have hWW:=hX
 have hwr:∀ X:World,Below W3.heap.size W3 X->Calls Tryx.prog 33 #[ptr px,.int .i64 B,.slice (some ⟨g,0,none⟩) S.size (S.size+1)] X fun y w'=>y=.returned (.tuple #[.int .i64 num,plErr k (-1) 0])/\∃ ow1,Hid (AskR wb w' wl ow1 qv bv iv (ps.set j {p with t:=T}) bs is g w.heap.size px pm A B C S/\(∀ k,w'.heap.size<=k->ow1 k=.loose)/\∀ k,W3.heap.size<=k->k<X.heap.size->ow1 k=.loose/\w'.heap[k]?=X.heap[k]?)/\X.heap.size<=w'.heap.size:=by
  intro X hX
  have hLX:=hL3.below hX
  have hgX:=(hX.block _ (lt_of_heap hg3)).trans hg3
  have hhX:=(hX.block _ (lt_of_heap h03)).trans h03
  have hoX:=(hX.block _ (lt_of_heap ho3)).trans ho3
  have hll:∀ k,w.heap.size<=k->¬ow k=.x j:=fun k hk e=>by rw[hlo k hk]at e;cases e
  refine (hWW X px (fun k=>ow k=.x j) (some ⟨g,0,none⟩) (S.size+1) (by rw[<-hpx];exact hLX.xs j p hp) hLX.err (hLX.nf j) (fun h4=>datS h4 hgX (by simp only[List.toList_toArray];rw[List.take_append_of_le_length (by rw[strC_len];omega)];exact List.take_of_length_le (by rw[strC_len];omega)))).mono ?_
  rintro y w5 ⟨F',rfl,hq,hF,hc⟩
  obtain⟨ow1,hL5,ho1,ho2⟩:=hLX.stepX hp (by rw[hpx];exact hq.lt) (fun k (hk:F' k/\k<w5.heap.size)=>hF k hk.1) hc
  have hz3:=hX.size
  have hw3:=lt_of_heap h03
  have hlt3:=lt_of_heap ho3
  have hgt3:=lt_of_heap hg3
  have hz5:=hc.size
  refine⟨rfl,ow1,Lib.hid ⟨⟨hL5,(hc.block _ (lt_of_heap hgX) (hll _ (by omega))).trans hgX,(hc.block _ (lt_of_heap hhX) (hll _ (Nat.le_refl _))).trans hhX,(hc.block _ (lt_of_heap hoX) (hll _ (Nat.le_succ _))).trans hoX,(ho1 _ (by omega)).trans (hlo _ (by omega)),(ho1 _ (by omega)).trans (hlo _ (Nat.le_refl _)),(ho1 _ (by omega)).trans (hlo _ (Nat.le_succ _))⟩,fun k hk=>ho2 k (by omega) (fun e=>by omega),fun k hk hkX=>⟨(ho1 k hkX).trans (hlo k (by omega)),hc.block k hkX (hll k (by omega))⟩⟩,hz5⟩
 have HWR:=Lib.hid hwr
 clear hwr hWW
 have hnn:(0:Int)<=(S.size:Int):=by omega
 have hnb:(S.size:Int)<=1000000:=by omega
 have HL:=Lib.hid hL3
 have HP:=Lib.hid (And.intro hp (And.intro htu (And.intro hT (And.intro hTl hTn))))
 have HX:=Lib.hid hX
 have HM:=Lib.hid hM
 have HW0:=Lib.hid hW0
 have HW3:=Lib.hid hW3
 have HG3:=Lib.hid hg3
 have HH3:=Lib.hid h03
 have HO3:=Lib.hid ho3
 have HLO:=Lib.hid hlo
 have HGW:=Lib.hid hgw
 have HPX:=Lib.hid (And.intro hpx hpm)
 clear h hL3 hp htu hX hM hW0 hW1 hW2 hW3 hb0 hb1 hc2 hc3 h0 ho0 h01 ho1 h02 ho2 h03 ho3 hg1 hg2 hg3 hT hTl hTn hlo hpx hpm hset hlg hgW hcz hgw
 unfold opV
 go_enter Tryx.func51,Tryz.ntmps51
 go_upto_region 1 with fail
 rw[HW0.out]
 go_upto_region 9 with fail
 rw[HW3.out]
 have b1:(S.size:Int)<=(S.size:Int)+1:=by omega
 have b2:((S.size:Nat):Int)<=((S.size+1:Nat):Int):=by omega
 have b3:S.size+1≠0:=by omega
 have l0:=lt_of_heap HH3.out
 have l1:=lt_of_heap HO3.out
 have l2:=lt_of_heap HG3.out
 have n0:w.heap.size≠W3.heap.size:=by omega
 have n1:w.heap.size+1≠W3.heap.size:=by omega
 have n2:=n0.symm
 have n3:=n1.symm
 clear z0 z4 y4 x4 x9 xf hcp hmk
 go_cut [11,12]from 60 to 72 (fun s11 s12 wx=>∃ b ow1,s11=.int .i64 num/\s12=ptr b/\Hid (AskE wb wx wl ow1 qv bv iv (ps.set j {p with t:=T}) bs is g w.heap.size px pm A B C S b k))
 case first=>
  go_region_held3 (fun w'=>w'.cell? ⟨w.heap.size,0,none⟩=some (ptr px)/\w'.cell? ⟨w.heap.size+1,2,none⟩=some (.int .i64 B)/\w'.cell? ⟨w.heap.size+1,4,none⟩=some (.string S)) (go_keep)
   (first
     | (go_at_call 33;refine (HWR.out _ (by go_grown)).mono ?_;rintro y w5 ⟨rfl,ow1,hres,hz5⟩
        have hs0:w5.cell? ⟨w.heap.size,0,none⟩=some (ptr px):=cell_of hres.out.1.pr rfl
        have hs1:w5.cell? ⟨w.heap.size+1,2,none⟩=some (.int .i64 B):=cell_of hres.out.1.op rfl
        have hs2:w5.cell? ⟨w.heap.size+1,4,none⟩=some (.string S):=cell_of hres.out.1.op rfl
        try simp at hz5
        have m0:w.heap.size≠w5.heap.size:=by omega
        have m1:w.heap.size+1≠w5.heap.size:=by omega
        have m2:=m0.symm
        have m3:=m1.symm
        try (have hla:W3.heap.size<w5.heap.size:=?zval;case zval=>omega)
        try (have hna:W3.heap.size≠w5.heap.size:=?zval;case zval=>omega)
        try (have hnc:w5.heap.size≠W3.heap.size:=?zval;case zval=>omega)
        try (have zE:w5.heap[W3.heap.size]?=some (.cells #[.int .i64 0,.int .i64 0,.int .i64 0,.bool false] 39 (0,0)):=?zval;case zval=>(refine ((hres.out.2.2 W3.heap.size (Nat.le_refl _) (by simp)).2).trans ?_;first | exact World.alloc_heap_new _ _ | (simp;done)))
        try (have zE0:w5.cell? ⟨W3.heap.size,0,none⟩=some (.int .i64 0):=?zval;case zval=>exact cell_of zE rfl)
        try (have zE1:w5.cell? ⟨W3.heap.size,1,none⟩=some (.int .i64 0):=?zval;case zval=>exact cell_of zE rfl)
        try (have zE2:w5.cell? ⟨W3.heap.size,2,none⟩=some (.int .i64 0):=?zval;case zval=>exact cell_of zE rfl)
        try (have zE3:w5.cell? ⟨W3.heap.size,3,none⟩=some (.bool false):=?zval;case zval=>exact cell_of zE rfl)
        try (have zEf:∀ i,w5.frozen? ⟨W3.heap.size,i,none⟩=false:=?zval;case zval=>exact fun i=>free_of zE)
        try (have zEl:Hid (ow1 W3.heap.size=.loose/\w5.heap[W3.heap.size]?=some (.cells #[.int .i64 0,.int .i64 0,.int .i64 0,.bool false] 39 (0,0))):=?zval;case zval=>exact Lib.hid ⟨(hres.out.2.2 W3.heap.size (Nat.le_refl _) (by simp)).1,zE⟩)
        try clear zE))
  all_goals
   go_wp2_with fail
   go_meet
   case rel=>
    first
     | (with_reducible exact⟨_,ow1,rfl,rfl,Lib.hid (askE_alloc _ hres.out.1 hres.out.2.1)⟩)
     | (with_reducible exact⟨_,ow1,rfl,rfl,Lib.hid (askE_set _ hres.out.1 zEl.out.1 zEl.out.2 l2 l1)⟩)
 case rest=>
  obtain⟨b,ow1,rfl,rfl,hA⟩:=hcut
  obtain⟨wc,hwc⟩:∃ wc:World,wc=W3:=⟨_,rfl⟩
  clear hwc wc
  have d1:=cell_of (i:=1) hA.out.1.pr rfl
  have d2:=cell_of (i:=2) hA.out.1.op rfl
  have d4:=cell_of (i:=4) hA.out.1.op rfl
  have hp2:=set_at HP.out.1 {p with t:=T}
  have hm2:=hA.out.1.lb.ms j _ hp2
  simp only at hm2
  rw[HPX.out.2,HP.out.2.1]at hm2
  have HMM:=Lib.hid (HM.out _ pm (fun k=>ow1 k=.m j) hm2)
  clear hm2 hp2 b1 b2 b3 l0 l1 l2 n0 n1 n2 n3
  go_wp2_with fail
  refine HMM.out.mono ?_
  rintro y w7 ⟨G',rfl,hq,hG,hc⟩
  obtain⟨ow2,hL2,ho3,_⟩:=hA.out.1.lb.stepM (set_at HP.out.1 {p with t:=T}) (u':=T) (by simp only;rw[HPX.out.2];exact hq.lt) (fun k (hk:G' k/\k<w7.heap.size)=>hG k hk.1) hc
  rw[List.set_set]at hL2
  have he3:=(hc.block _ (lt_of_heap hA.out.2.1) (fun e=>by rw[hA.out.2.2]at e;cases e)).trans hA.out.2.1
  have hg3:=(hc.block _ (lt_of_heap hA.out.1.gg) (fun e=>by rw[hA.out.1.lg]at e;cases e)).trans hA.out.1.gg
  have hp3:=(hc.block _ (lt_of_heap hA.out.1.pr) (fun e=>by rw[hA.out.1.lp]at e;cases e)).trans hA.out.1.pr
  have ho3':=(hc.block _ (lt_of_heap hA.out.1.op) (fun e=>by rw[hA.out.1.lo]at e;cases e)).trans hA.out.1.op
  have hlg2:=(ho3 _ (lt_of_heap hA.out.1.gg)).trans hA.out.1.lg
  have g0:w7.cell? ⟨b,0,none⟩=some (.int .i64 k):=cell_of he3 rfl
  have g1:w7.cell? ⟨b,1,none⟩=some (.int .i64 (-1)):=cell_of he3 rfl
  have g2:w7.cell? ⟨b,2,none⟩=some (.int .i64 0):=cell_of he3 rfl
  have g3:w7.cell? ⟨b,3,none⟩=some (.bool true):=cell_of he3 rfl
  have HL2:=Lib.hid hL2
  have HB2:=Lib.hid (And.intro hg3 (And.intro ho3' hlg2))
  clear hq hG hc hL2 ho3 he3 hg3 hp3 ho3' hlg2 d1 d2 d4
  go_wp2_with fail
  refine (none_l k w7).mono ?_
  rintro y w8 ⟨rfl,hB8⟩
  have hg8:=(hB8.block _ (lt_of_heap HB2.out.1)).trans HB2.out.1
  have ho8:=(hB8.block _ (lt_of_heap HB2.out.2.1)).trans HB2.out.2.1
  have hcv:=fun n=>cvS (w8.drewN n) S g (S.size+1) _ _ _ (show (w8.drewN n).heap[g]?=_ from hg8) (by simp only[List.toList_toArray];rw[List.take_append_of_le_length (by rw[strC_len];exact Nat.le_refl _)];exact List.take_of_length_le (by rw[strC_len];exact Nat.le_refl _))
  have e4:w8.cell? ⟨w.heap.size+1,4,none⟩=some (.string S):=cell_of ho8 rfl
  have e7:w8.cell? ⟨g,S.size,none⟩=some (.int .u8 77):=cell_of hg8 (by simp[strC_len])
  have b1:(S.size:Int)<=(S.size:Int)+1:=by omega
  have b2:((S.size:Nat):Int)<=((S.size+1:Nat):Int):=by omega
  have b3:S.size+1≠0:=by omega
  have b4:(S.size:Int)<(S.size:Int)+1:=by omega
  have HL8:=Lib.hid (HL2.out.below hB8)
  have HG8:=Lib.hid hg8
  clear hg8 ho8 hB8 g0 g1 g2 g3
  go_upto_region 12 with fail
  go_quiet (fail)
  clear hcv b1 b2 b3 b4 e7
  obtain⟨W9,hW9⟩:∃ W9,w8.drewN nq=W9:=⟨_,rfl⟩
  have hB9:Below w8.heap.size w8 W9:=by rw[<-hW9];exact below_drewN (Below.refl _ _) _
  have hL9:=HL8.out.below hB9
  have hg9:=(hB9.block _ (lt_of_heap HG8.out)).trans HG8.out
  have HL9:=Lib.hid hL9
  have HG9:=Lib.hid hg9
  have HLG:=Lib.hid HB2.out.2.2
  rw[hW9]
  clear hW9 hB9 hL9 hg9
  go_wp2_with fail
  go_loopg [17] (S.size+1) (fun kk iv wx=>∃ (i:Nat) (cur:Array Value),kk=S.size+1 - i/\i<=S.size+1/\iv=.int .i64 i/\Hid (Chg (fun k=>k=g) W9 wx/\wx.heap[g]?=some (.cells cur 5 (0,0))/\cur.size=S.size+1))
  case atStart=>exact ⟨0,_,by simp,by omega,rfl,Lib.hid ⟨Chg.refl _ _,HG9.out,by simp[strC_len]⟩⟩
  case round=>
   obtain⟨i,cur,rfl,hi,rfl,hC⟩:=hrel
   by_cases hlt:i<S.size+1
   ·have hltI:(i:Int)<((S.size+1:Nat):Int):=by omega
    have hltJ:(i:Int)<(S.size:Int)+1:=by omega
    have hi0:(0:Int)<=(i:Int):=by omega
    have gf:∀ j,wr.frozen? ⟨g,j,none⟩=false:=fun j=>free_of hC.out.2.1
    obtain⟨x0,hx0⟩:∃ x,cur[i]?=some x:=⟨_,Array.getElem?_eq_getElem (by have:=hC.out.2.2;omega)⟩
    have gc:wr.cell? ⟨g,i,none⟩=some x0:=cell_of hC.out.2.1 hx0
    clear hx0
    go_wp2_with fail
    go_roundg (S.size+1 - (i+1))
    case measure=>omega
    case rel=>exact ⟨i+1,cur.setIfInBounds i (.int .u8 66),rfl,by omega,by go_num,Lib.hid ⟨hC.out.1.then (chg_set _),heap_setCell (i:=i) _ hC.out.2.1,by simpa using hC.out.2.2⟩⟩
   ·obtain rfl:i=S.size+1:=by omega
    have hLf:=HL9.out.chg hC.out.1 fun k hk=>by rw[hk];exact HLG.out
    have HLF:=Lib.hid hLf
    clear hLf
    go_wp2_with fail
    go_ret
    exact⟨ow2,T,rfl,by rw[<-HPX.out.1,<-HPX.out.2];exact HLF.out,HP.out.2.2⟩
end
end
section
open Go.RowKit Go.Shelf Go.Lib
set_option maxRecDepth 100000
theorem now_any(q:Nat)(s:Sta)(F:Nat->Prop)(w:World)(h:QAt w q s F):Calls Tryx.prog 90 #[ptr q] w fun x w'=>x=.returned (.int .i64 s.now)/\w'=w:=by
 obtain⟨tb,mb,clock,fv,hq,hF⟩:=h
 have c3:=hq.c3
 clear hq hF
 go_enter Tryx.func90,Tryz.ntmps90
 go_wp2_with fail
 go_ret
 exact⟨rfl,rfl⟩
end
section
open Go.RowKit Go.Shelf Go.Lib
set_option maxRecDepth 100000
set_option maxHeartbeats 8000000
theorem now_c{q:Nat}{t:St}{F:Nat->Prop}{w:World}(h:QT w q t F):Calls Tryx.prog 90 #[ptr q] w fun x w'=>x=.returned (.int .i64 t.now)/\w'=w:=by
 obtain⟨s,h1,rfl⟩:=h
 exact now_any q s F w h1
section
variable {wb w:World} {wl:Nat} {ow:Nat->Lab} {qv bv iv:Value} {ps:List LP} {bs is:List Value}
structure Box2(w W0:World)(px pm:Nat)(K A B C:Int)(S:ByteArray):Prop where
 below:Below w.heap.size w W0
 pair:W0.heap[w.heap.size]?=some (.cells #[ptr px,ptr pm] 114 (0,0))
 op:W0.heap[w.heap.size+1]?=some (.cells #[.int .i64 K,.int .i64 A,.int .i64 B,.int .i64 C,.string S] 73 (0,0))
theorem box2(w:World)(px pm:Nat)(K A B C:Int)(S:ByteArray):∃ W0,(w.alloc (.cells #[ptr px,ptr pm] 114)).alloc (.cells #[.int .i64 K,.int .i64 A,.int .i64 B,.int .i64 C,.string S] 73)=W0/\Box2 w W0 px pm K A B C S:=by
 refine⟨_,rfl,((Below.refl _ _).alloc (Nat.le_refl _) _).alloc (by simp) _,?_,?_⟩
 ·refine (Below.heap_alloc _ _ _ (by simp)).trans ?_
  exact World.alloc_heap_new w _
 ·have:=World.alloc_heap_new (w.alloc (.cells #[ptr px,ptr pm] 114)) (.cells #[.int .i64 K,.int .i64 A,.int .i64 B,.int .i64 C,.string S] 73)
  rwa [show (w.alloc (.cells #[ptr px,ptr pm] 114)).heap.size=w.heap.size+1 from by simp]at this
theorem told_wait_l(h:LB wb w wl ow qv bv iv ps bs is)(hil:is.length<=1000000){j:Nat}{p:LP}(hp:ps[j]?=some p)(htu:p.u=p.t)(hk:p.t.Ok)(hsm:p.t.Small)(A B C:Int)(S:ByteArray):
  Calls Tryx.prog 58 #[ptr wl,.agg #[ptr p.x,ptr p.m],opV 6 A B C S] w fun y w'=>∃ ow' iv' f,y=.returned (.bool true)/\LB wb w' wl ow' qv bv iv' ps bs (is ++ [f]):=by
 obtain⟨ow,h,_,hlo⟩:=h.norm
 obtain⟨px,hpx⟩:∃ px,p.x=px:=⟨_,rfl⟩
 obtain⟨pm,hpm⟩:∃ pm,p.m=pm:=⟨_,rfl⟩
 rw[hpx,hpm]
 obtain⟨W0,hW0,hX0⟩:=box2 w px pm 6 A B C S
 have hL0:=h.below hX0.below
 have hxq:=hL0.xs j p hp
 have hmq:=hL0.ms j p hp
 rw[htu,hpm]at hmq
 rw[hpx]at hxq
 have hwl:=wait_len hk hsm
 obtain⟨ns,hns⟩:∃ ns,p.t.waiting=ns:=⟨_,rfl⟩
 have a0:W0.cell? ⟨w.heap.size,0,none⟩=some (ptr px):=cell_of hX0.pair rfl
 have a1:W0.cell? ⟨w.heap.size,1,none⟩=some (ptr pm):=cell_of hX0.pair rfl
 have a2:W0.cell? ⟨w.heap.size+1,0,none⟩=some (.int .i64 6):=cell_of hX0.op rfl
 have hz:=lt_of_heap hX0.pair
 have HL:=Lib.hid hL0
 have HX:=Lib.hid (And.intro (waiting_c hxq hk hsm) hmq)
 have HP:=Lib.hid (And.intro hp (And.intro hk hsm))
 have HNS:=Lib.hid (And.intro hns hwl)
 have HW0:=Lib.hid hW0
 have HB:=Lib.hid hX0
 have HLO:=Lib.hid hlo
 clear h hp htu hk hsm hW0 hX0 hlo hL0 hxq hmq hns hwl hpx hpm
 unfold opV
 go_enter Tryx.func58,Tryz.ntmps58
 go_upto_region 1 with fail
 rw[HW0.out]
 go_wp2_with fail
 refine HX.out.1.mono ?_
 rintro y w1 ⟨v,rfl,hr1,hb1⟩
 rw[HNS.out.1]at hr1
 obtain⟨va,vc,rfl⟩:=own_slice hr1
 have d1:=(hb1.cell (p:=⟨w.heap.size,1,none⟩) hz).trans a1
 have HR1:=Lib.hid hr1
 have HB1:=Lib.hid hb1
 clear hr1 hb1
 go_wp2_with fail
 refine (waiting_m (HX.out.2.below HB1.out) HP.out.2.1 HP.out.2.2).mono ?_
 rintro y w2 ⟨v2,rfl,hr2,hb2⟩
 rw[HNS.out.1]at hr2
 obtain⟨ma,mc,rfl⟩:=own_slice hr2
 have hr1':=ownsRow_chg HR1.out (chgB hb2 fun _=>False) fun _ _ z=>z
 have HS:=Lib.hid (sameInts_l w2 _ _ ns _ _ hr1' hr2 (by rw[<-HNS.out.1];exact HNS.out.2))
 have HR2:=Lib.hid (And.intro hr1' hb2)
 clear hr2 hr1' hb2
 go_wp2_with fail
 refine HS.out.mono ?_
 rintro y w3 ⟨rfl,hb3⟩
 have hr3:=ownsRow_chg HR2.out.1 (chgB hb3 fun _=>False) fun _ _ z=>z
 have hL3:=((HL.out.below HB1.out).below HR2.out.2).below hb3
 have HO:=Lib.hid (owned_l hL3 hil hr3 (fun k hk=>HLO.out k (by have:=(HR1.out.lt k hk).1;have:=HB.out.below.size;omega)))
 clear hr3 hL3 hb3
 go_wp2_with fail
 refine HO.out.mono ?_
 rintro y w4 ⟨ow',iv',f,rfl,hL4,_,_⟩
 have H4:=Lib.hid hL4
 clear hL4
 go_wp2_with fail
 go_ret
 exact⟨ow',iv',f,rfl,H4.out⟩
theorem told_disk_l(h:LB wb w wl ow qv bv iv ps bs is)(hbl:bs.length<=1000000){j:Nat}{p:LP}(hp:ps[j]?=some p)(htu:p.u=p.t)(hk:p.t.Ok)(A B C:Int)(S:ByteArray):
  Calls Tryx.prog 58 #[ptr wl,.agg #[ptr p.x,ptr p.m],opV 8 A B C S] w fun y w'=>∃ ow' bv' f,y=.returned (.bool true)/\LB wb w' wl ow' qv bv' iv ps (bs ++ [f]) is:=by
 obtain⟨ow,h,_,hlo⟩:=h.norm
 obtain⟨px,hpx⟩:∃ px,p.x=px:=⟨_,rfl⟩
 obtain⟨pm,hpm⟩:∃ pm,p.m=pm:=⟨_,rfl⟩
 rw[hpx,hpm]
 obtain⟨W0,hW0,hX0⟩:=box2 w px pm 8 A B C S
 have hL0:=h.below hX0.below
 have hxq:=hL0.xs j p hp
 have hmq:=hL0.ms j p hp
 rw[htu,hpm]at hmq
 rw[hpx]at hxq
 obtain⟨D,hD⟩:∃ D,p.t.disk=D:=⟨_,rfl⟩
 have hdl:D.length=64:=by rw[<-hD];exact hk.a.dlen
 obtain⟨now,hnow⟩:∃ now,p.t.now=now:=⟨_,rfl⟩
 have hdk:=disk_c hxq
 rw[hD]at hdk
 have a0:W0.cell? ⟨w.heap.size,0,none⟩=some (ptr px):=cell_of hX0.pair rfl
 have a1:W0.cell? ⟨w.heap.size,1,none⟩=some (ptr pm):=cell_of hX0.pair rfl
 have a2:W0.cell? ⟨w.heap.size+1,0,none⟩=some (.int .i64 8):=cell_of hX0.op rfl
 have hz:=lt_of_heap hX0.pair
 have HL:=Lib.hid hL0
 have HX:=Lib.hid (And.intro hdk (And.intro hxq hmq))
 have HP:=Lib.hid (And.intro hp hk)
 have HD:=Lib.hid (And.intro hD (And.intro hdl hnow))
 have HW0:=Lib.hid hW0
 have HB:=Lib.hid hX0
 have HLO:=Lib.hid hlo
 clear h hp htu hk hW0 hX0 hlo hL0 hxq hmq hD hdl hnow hdk hpx hpm
 unfold opV
 go_enter Tryx.func58,Tryz.ntmps58
 go_upto_region 1 with fail
 rw[HW0.out]
 go_wp2_with fail
 refine HX.out.1.mono ?_
 rintro y w1 ⟨v,rfl,hr1,hb1⟩
 obtain⟨va,vc,rfl⟩:=own_slice hr1
 have d0:=(hb1.cell (p:=⟨w.heap.size,0,none⟩) hz).trans a0
 have d1:=(hb1.cell (p:=⟨w.heap.size,1,none⟩) hz).trans a1
 have hq1:=HX.out.2.1.below hb1
 have hm1:=HX.out.2.2.below hb1
 have hnw:=now_c hq1
 rw[HD.out.2.2]at hnw
 have HR1:=Lib.hid hr1
 have HB1:=Lib.hid hb1
 have HQ1:=Lib.hid hnw
 have HM1:=Lib.hid hm1
 clear hr1 hb1 hq1 hm1 hnw
 go_wp2_with fail
 refine HQ1.out.mono ?_
 rintro y w2 ⟨rfl,rfl⟩
 have hdm:=disk_m HM1.out HP.out.2
 rw[HD.out.1]at hdm
 obtain⟨n1,n2,n3,n4⟩:=now_m HM1.out
 rw[HD.out.2.2]at n1
 have hcv:=conv_row HR1.out HD.out.2.1 (by decide)
 have HDM:=Lib.hid hdm
 clear hdm n3 n4
 go_wp2_with fail
 refine HDM.out.mono ?_
 rintro y w3 ⟨rfl,rfl⟩
 have HO:=Lib.hid (mine_l (HL.out.below HB1.out) hbl HR1.out (fun k hk=>HLO.out k (by have:=(HR1.out.lt k hk).1;have:=HB.out.below.size;omega)))
 go_wp2_with fail
 refine HO.out.mono ?_
 rintro y w4 ⟨ow',bv',f,rfl,hL4,_,_⟩
 have H4:=Lib.hid hL4
 clear hL4
 go_wp2_with fail
 go_ret
 exact⟨ow',bv',f,rfl,H4.out⟩
theorem told_step_l(h:LB wb w wl ow qv bv iv ps bs is)(hil:is.length<=1000000){j:Nat}{p:LP}(hp:ps[j]?=some p)(htu:p.u=p.t)(hk:p.t.Ok)(hsm:p.t.Small)(A B C:Int)(S:ByteArray):
  Calls Tryx.prog 58 #[ptr wl,.agg #[ptr p.x,ptr p.m],opV 9 A B C S] w fun y w'=>∃ ow' iv' f T,y=.returned (.bool true)/\LB wb w' wl ow' qv bv iv' (ps.set j {p with t:=T,u:=T}) bs (is ++ [f])/\T.Ok/\T.last=p.t.last/\T.now=p.t.now:=by
 obtain⟨ow,h,_,hlo⟩:=h.norm
 obtain⟨wt,ok,pg,ct,ns,T,hnl,hT,hTl,hTn,hX,hM⟩:=step_both p.t hk hsm
 obtain⟨px,hpx⟩:∃ px,p.x=px:=⟨_,rfl⟩
 obtain⟨pm,hpm⟩:∃ pm,p.m=pm:=⟨_,rfl⟩
 rw[hpx,hpm]
 obtain⟨W0,hW0,hX0⟩:=box2 w px pm 9 A B C S
 have hL0:=h.below hX0.below
 have a0:W0.cell? ⟨w.heap.size,0,none⟩=some (ptr px):=cell_of hX0.pair rfl
 have a2:W0.cell? ⟨w.heap.size+1,0,none⟩=some (.int .i64 9):=cell_of hX0.op rfl
 have hz:=lt_of_heap hX0.op
 have HL:=Lib.hid hL0
 have HX:=Lib.hid hX
 have HM:=Lib.hid hM
 have HP:=Lib.hid (And.intro hp (And.intro htu (And.intro hT (And.intro hTl hTn))))
 have HNL:=Lib.hid hnl
 have HW0:=Lib.hid hW0
 have HB:=Lib.hid hX0
 have HLO:=Lib.hid hlo
 have HPX:=Lib.hid (And.intro hpx hpm)
 clear h hp htu hT hTl hTn hX hM hW0 hX0 hlo hL0 hpx hpm hnl
 unfold opV
 go_enter Tryx.func58,Tryz.ntmps58
 go_upto_region 1 with fail
 rw[HW0.out]
 go_wp2_with fail
 refine (HX.out W0 px (fun k=>ow k=.x j) (by rw[<-HPX.out.1];exact HL.out.xs j p HP.out.1)).mono ?_
 rintro y w1 ⟨v,F',rfl,hq,hF,hv,hc,hr⟩
 obtain⟨va,vc,rfl⟩:=own_slice hr
 obtain⟨ow1,hL1,ho1,ho2⟩:=HL.out.stepX HP.out.1 (by rw[HPX.out.1];exact hq.lt) (fun k (hk:F' k/\k<w1.heap.size)=>hF k hk.1) hc
 have hlz:ow w.heap.size=.loose:=HLO.out _ (Nat.le_refl _)
 have hh1:=(hc.block _ (lt_of_heap HB.out.pair) (fun e=>by rw[hlz]at e;cases e)).trans HB.out.pair
 obtain⟨W2,hW2⟩:∃ W2,w1.alloc (.cells #[.bool wt,.int .i64 pg,.int .i64 ct,.slice va ns.length vc] 48)=W2:=⟨_,rfl⟩
 have hb2:Below w1.heap.size w1 W2:=by rw[<-hW2];exact (Below.refl _ _).alloc (Nat.le_refl _) _
 have hh2:=(hb2.block _ (lt_of_heap hh1)).trans hh1
 have he2:W2.heap[w1.heap.size]?=some (.cells #[.bool wt,.int .i64 pg,.int .i64 ct,.slice va ns.length vc] 48 (0,0)):=by rw[<-hW2];exact World.alloc_heap_new _ _
 have d1:W2.cell? ⟨w.heap.size,1,none⟩=some (ptr pm):=cell_of hh2 rfl
 have hz1:=hc.size
 have hvl:∀ k,(Value.slice va ns.length vc).ownBlock=some k->ow1 k=.loose/\k<w1.heap.size:=fun k hk=>⟨ho2 k (hr.lt k hk).1 fun e=>hv k hk e.1,(hr.lt k hk).2⟩
 have HVL:=Lib.hid hvl
 have HR2:=Lib.hid (ownsRow_chg hr (chgB hb2 fun _=>False) fun _ _ z=>z)
 have HL1:=Lib.hid (hL1.below hb2)
 have HO:=Lib.hid (And.intro ho1 ho2)
 have HE2:=Lib.hid he2
 have HW2:=Lib.hid hW2
 clear hq hF hv hr hvl hc hL1 ho1 ho2 hh1 hb2 hh2 he2 hW2 a0 a2
 go_upto_region 17 with fail
 rw[HW2.out]
 go_wp2_with fail
 have hp2:=set_at HP.out.1 {p with t:=T}
 have hm2:=HL1.out.ms j _ hp2
 simp only at hm2
 rw[HPX.out.2,HP.out.2.1]at hm2
 refine (HM.out W2 pm (fun k=>ow1 k=.m j) hm2).mono ?_
 rintro y w3 ⟨v2,G',rfl,hq,hG,hc,hr⟩
 obtain⟨ma,mc,rfl⟩:=own_slice hr
 obtain⟨ow2,hL2,ho3,ho4⟩:=HL1.out.stepM hp2 (u':=T) (by simp only;rw[HPX.out.2];exact hq.lt) (fun k (hk:G' k/\k<w3.heap.size)=>hG k hk.1) hc
 rw[List.set_set]at hL2
 have hle:ow1 w1.heap.size=.loose:=HO.out.2 _ hz1 (fun e=>by omega)
 have he3:=(hc.block _ (lt_of_heap HE2.out) (fun e=>by rw[hle]at e;cases e)).trans HE2.out
 obtain⟨W4,hW4⟩:∃ W4,w3.alloc (.cells #[.bool wt,.int .i64 pg,.int .i64 ct,.slice ma ns.length mc] 48)=W4:=⟨_,rfl⟩
 have hb4:Below w3.heap.size w3 W4:=by rw[<-hW4];exact (Below.refl _ _).alloc (Nat.le_refl _) _
 have he4:=(hb4.block _ (lt_of_heap he3)).trans he3
 have hf4:W4.heap[w3.heap.size]?=some (.cells #[.bool wt,.int .i64 pg,.int .i64 ct,.slice ma ns.length mc] 48 (0,0)):=by rw[<-hW4];exact World.alloc_heap_new _ _
 have g0:W4.cell? ⟨w1.heap.size,0,none⟩=some (.bool wt):=cell_of he4 rfl
 have g1:W4.cell? ⟨w1.heap.size,1,none⟩=some (.int .i64 pg):=cell_of he4 rfl
 have g2:W4.cell? ⟨w1.heap.size,2,none⟩=some (.int .i64 ct):=cell_of he4 rfl
 have g3:W4.cell? ⟨w1.heap.size,3,none⟩=some (.slice va ns.length vc):=cell_of he4 rfl
 have f0:W4.cell? ⟨w3.heap.size,0,none⟩=some (.bool wt):=cell_of hf4 rfl
 have f1:W4.cell? ⟨w3.heap.size,1,none⟩=some (.int .i64 pg):=cell_of hf4 rfl
 have f2:W4.cell? ⟨w3.heap.size,2,none⟩=some (.int .i64 ct):=cell_of hf4 rfl
 have f3:W4.cell? ⟨w3.heap.size,3,none⟩=some (.slice ma ns.length mc):=cell_of hf4 rfl
 have hr3:=ownsRow_chg (ownsRow_chg HR2.out hc fun k hk e=>by rw[(HVL.out k hk).1]at e;cases e) (chgB hb4 fun _=>False) fun _ _ z=>z
 have hr4:=ownsRow_chg hr (chgB hb4 fun _=>False) fun _ _ z=>z
 have hvl3:∀ k,(Value.slice va ns.length vc).ownBlock=some k->ow2 k=.loose:=fun k hk=>(ho3 k (HR2.out.lt k hk).2).trans (HVL.out k hk).1
 have HCM:=Lib.hid (command_l (hL2.below hb4) hil wt pg ct _ _ ns hr3 hr4 HNL.out hvl3)
 have HW4:=Lib.hid hW4
 clear hp2 hm2 hq hG hc hL2 ho3 ho4 hle he3 hr hb4 he4 hf4 hr3 hr4 hvl3 hW4
 go_upto_region 18 with fail
 rw[HW4.out]
 go_wp2_with fail
 refine HCM.out.mono ?_
 rintro y w5 ⟨ow',iv',f,rfl,hL5,_,_⟩
 have H5:=Lib.hid hL5
 clear hL5
 cases ok
 all_goals
  go_wp2_with fail
  go_ret
  exact⟨ow',iv',f,T,rfl,by rw[<-HPX.out.1,<-HPX.out.2];exact H5.out,HP.out.2.2⟩
theorem told_crash_l(h:LB wb w wl ow qv bv iv ps bs is){j:Nat}{p:LP}(hp:ps[j]?=some p)(htu:p.u=p.t)(hk:p.t.Ok)(hsm:p.t.Small)(A B C:Int)(S:ByteArray)(hS:S.size<=1000000):
  Calls Tryx.prog 58 #[ptr wl,.agg #[ptr p.x,ptr p.m],opV 13 A B C S] w fun y w'=>∃ ow' T,y=.returned (.bool true)/\LB wb w' wl ow' qv bv iv (ps.set j {p with t:=T,u:=T}) bs is/\T.Ok/\T.last=p.t.last/\T.now=p.t.now:=by
 obtain⟨ow,h,_,hlo⟩:=h.norm
 obtain⟨T,hTT⟩:∃ T,(p.t.crash fun i=>(oBits S).getD i false)=T:=⟨_,rfl⟩
 have hT:T.Ok:=by rw[<-hTT];exact ok_crash hk _
 have hTl:T.last=p.t.last:=by rw[<-hTT];rfl
 have hTn:T.now=p.t.now:=by rw[<-hTT];rfl
 obtain⟨px,hpx⟩:∃ px,p.x=px:=⟨_,rfl⟩
 obtain⟨pm,hpm⟩:∃ pm,p.m=pm:=⟨_,rfl⟩
 rw[hpx,hpm]
 obtain⟨W0,hW0,hX0⟩:=box2 w px pm 13 A B C S
 have hL0:=h.below hX0.below
 have a0:W0.cell? ⟨w.heap.size,0,none⟩=some (ptr px):=cell_of hX0.pair rfl
 have a2:W0.cell? ⟨w.heap.size+1,0,none⟩=some (.int .i64 13):=cell_of hX0.op rfl
 have a4:W0.cell? ⟨w.heap.size+1,4,none⟩=some (.string S):=cell_of hX0.op rfl
 have hz:=lt_of_heap hX0.op
 have HL:=Lib.hid hL0
 have HK:=Lib.hid (And.intro hk hsm)
 have HP:=Lib.hid (And.intro hp (And.intro htu (And.intro hT (And.intro hTl hTn))))
 have HT:=Lib.hid hTT
 have HW0:=Lib.hid hW0
 have HB:=Lib.hid hX0
 have HLO:=Lib.hid hlo
 have HPX:=Lib.hid (And.intro hpx hpm)
 clear h hp htu hT hTl hTn hTT hW0 hX0 hlo hL0 hpx hpm hk hsm
 unfold opV
 go_enter Tryx.func58,Tryz.ntmps58
 go_upto_region 1 with fail
 rw[HW0.out]
 go_wp2_with fail
 refine (bits_l S W0 hS).mono ?_
 rintro y w1 ⟨v,rfl,hr1,hb1⟩
 obtain⟨va,vc,rfl⟩:=own_slice hr1
 have hp1:=(hb1.block _ (lt_of_heap HB.out.pair)).trans HB.out.pair
 have ho1:=(hb1.block _ (lt_of_heap HB.out.op)).trans HB.out.op
 have d0:w1.cell? ⟨w.heap.size,0,none⟩=some (ptr px):=cell_of hp1 rfl
 have hL1:=HL.out.below hb1
 have hx1:=hL1.xs j p HP.out.1
 rw[HPX.out.1]at hx1
 have hvl:∀ k,(Value.slice va S.size vc).ownBlock=some k->ow k=.loose/\k<w1.heap.size:=fun k hk=>⟨HLO.out k (by have:=(hr1.lt k hk).1;have:=HB.out.below.size;omega),(hr1.lt k hk).2⟩
 have hB1:BRow w1 (.slice va S.size vc) (oBits S):=by unfold BRow;rw[oBits_len];exact ownsRow_lowS hr1 (Nat.zero_le _)
 have hcr:=crash_c hx1 HK.out.1 HK.out.2 _ _ hB1 fun k hk e=>by rw[(hvl k hk).1]at e;cases e
 rw[HT.out]at hcr
 have HC:=Lib.hid hcr
 have HL1:=Lib.hid hL1
 have HR1:=Lib.hid hr1
 have HP1:=Lib.hid (And.intro hp1 ho1)
 have HVL:=Lib.hid hvl
 have HB1:=Lib.hid hb1
 clear hr1 hb1 hp1 ho1 hL1 hx1 hvl hB1 hcr
 go_wp2_with fail
 refine HC.out.mono ?_
 rintro y w2 ⟨rfl,hq,hc⟩
 obtain⟨ow1,hL2,ho1,ho2⟩:=HL1.out.stepX HP.out.1 (by rw[HPX.out.1];exact hq) (fun k hk=>.inl hk) hc
 have hlz:∀ k,w.heap.size<=k->ow k≠.x j:=fun k hk e=>by rw[HLO.out k hk]at e;cases e
 have hp2:=(hc.block _ (lt_of_heap HP1.out.1) (hlz _ (Nat.le_refl _))).trans HP1.out.1
 have ho2':=(hc.block _ (lt_of_heap HP1.out.2) (hlz _ (Nat.le_succ _))).trans HP1.out.2
 have e1:w2.cell? ⟨w.heap.size,1,none⟩=some (ptr pm):=cell_of hp2 rfl
 have e4:w2.cell? ⟨w.heap.size+1,4,none⟩=some (.string S):=cell_of ho2' rfl
 have hr2:=ownsRow_chg HR1.out hc fun k hk e=>by rw[(HVL.out k hk).1]at e;cases e
 have hvl2:∀ k,(Value.slice va S.size vc).ownBlock=some k->ow1 k=.loose/\k<w2.heap.size:=fun k hk=>⟨(ho1 k (HVL.out k hk).2).trans (HVL.out k hk).1,(hr2.lt k hk).2⟩
 have hl1:=lt_of_heap hp2
 have hl2:=lt_of_heap ho2'
 have hl3:w.heap.size≠w2.heap.size:=by omega
 have hl4:w.heap.size+1≠w2.heap.size:=by omega
 have hcr:∀ (X:World) (v3:Value),Below w2.heap.size w2 X->X.ownsRow w2.heap.size 4 1 v3 S.size ((oBits S).map Value.bool)->Calls Tryx.prog 96 #[ptr pm,v3] X fun y w'=>y=.returned (.tuple #[])/\∃ owx,LB wb w' wl owx qv bv iv (ps.set j {p with t:=T,u:=T}) bs is/\w'.heap[w.heap.size]?=some (.cells #[ptr px,ptr pm] 114 (0,0))/\w'.heap[w.heap.size+1]?=some (.cells #[.int .i64 13,.int .i64 A,.int .i64 B,.int .i64 C,.string S] 73 (0,0))/\w'.ownsRow W0.heap.size 4 1 (.slice va S.size vc) S.size ((oBits S).map Value.bool):=by
  intro X v3 hX hr3
  have hLX:=hL2.below hX
  have hpp2:=set_at HP.out.1 {p with t:=T}
  have hm2:=hLX.ms j _ hpp2
  simp only at hm2
  rw[HPX.out.2,HP.out.2.1]at hm2
  have hB3:BRow X v3 (oBits S):=by unfold BRow;rw[oBits_len];exact ownsRow_lowS hr3 (Nat.zero_le _)
  have hzz:=hc.size
  have hz9:=HB.out.below.size
  have hz8:=HB1.out.size
  have hcc:=crash_r X hm2 HK.out.1 HK.out.2 v3 _ hB3 fun k hk e=>by
   have h1:=(hr3.lt k hk).1
   have h2:=ho2 k (by omega) (fun e2=>by rw[HLO.out k (by omega)]at e2;cases e2)
   rw[h2]at e;cases e
  rw[HT.out]at hcc
  refine hcc.mono fun y w' ⟨e,hqm,hcm⟩=>?_
  obtain⟨ow3,hL3,_,_⟩:=hLX.stepM hpp2 (u':=T) (by simp only;rw[HPX.out.2];exact hqm) (fun k hk=>.inl hk) hcm
  rw[List.set_set]at hL3
  refine⟨e,ow3,hL3,?_,?_,?_⟩
  ·refine (hcm.block _ (Nat.lt_of_lt_of_le hl1 hX.size) fun e=>?_).trans ((hX.block _ hl1).trans hp2)
   rw[ho1 _ (lt_of_heap HP1.out.1),HLO.out _ (Nat.le_refl _)]at e
   cases e
  ·refine (hcm.block _ (Nat.lt_of_lt_of_le hl2 hX.size) fun e=>?_).trans ((hX.block _ hl2).trans ho2')
   rw[ho1 _ (lt_of_heap HP1.out.2),HLO.out _ (Nat.le_succ _)]at e
   cases e
  ·exact ownsRow_chg (ownsRow_chg hr2 (chgB hX fun _=>False) fun _ _ z=>z) hcm fun k hk e=>by rw[(hvl2 k hk).1]at e;cases e
 have HCR:=Lib.hid hcr
 clear hcr
 have HL2:=Lib.hid hL2
 have HP2:=Lib.hid (And.intro hp2 ho2')
 have HR2:=Lib.hid hr2
 have HVL2:=Lib.hid hvl2
 have HO:=Lib.hid (And.intro ho1 ho2)
 have HZ:=Lib.hid hc.size
 clear hq hc hL2 ho1 ho2 hlz hp2 ho2' hr2 hvl2 d0 a0 a2 a4
 go_upto_region 29 with fail
 go_cut [132]from 127 to 132 (fun s wx=>∃ owx,Hid (LB wb wx wl owx qv bv iv (ps.set j {p with t:=T,u:=T}) bs is)/\Hid (wx.heap[w.heap.size+1]?=some (.cells #[.int .i64 13,.int .i64 A,.int .i64 B,.int .i64 C,.string S] 73 (0,0))/\wx.ownsRow W0.heap.size 4 1 (.slice va S.size vc) S.size ((oBits S).map Value.bool)))
 case first=>
  go_region_held3 (fun w'=>w'.cell? ⟨w.heap.size,1,none⟩=some (ptr pm)/\w'.cell? ⟨w.heap.size+1,4,none⟩=some (.string S)) (go_keep)
   (first
     | (go_at_call 93;refine (bits_l S _ hS).mono ?_;rintro y w3 ⟨v3,rfl,hr3,hb3⟩
        obtain⟨ba,bc,rfl⟩:=own_slice hr3
        have hy0:w3.cell? ⟨w.heap.size,1,none⟩=some (ptr pm):=(hb3.cell (p:=⟨w.heap.size,1,none⟩) (by simp;omega)).trans (by go_keep)
        have hy1:w3.cell? ⟨w.heap.size+1,4,none⟩=some (.string S):=(hb3.cell (p:=⟨w.heap.size+1,4,none⟩) (by simp;omega)).trans (by go_keep)
        have hz3:=hb3.size
        try simp at hz3)
     | (go_at_call 96;refine (HCR.out _ _ (by first | exact⟨hb3.os,hb3.tape,hb3.output,hb3.size,hb3.block⟩ | go_grown) hr3).mono ?_;rintro y w4 ⟨rfl,hres⟩
        have hs0:w4.cell? ⟨w.heap.size,1,none⟩=some (ptr pm):=by obtain⟨_,_,h1,_⟩:=hres;exact cell_of h1 rfl
        have hs1:w4.cell? ⟨w.heap.size+1,4,none⟩=some (.string S):=by obtain⟨_,_,_,h1,_⟩:=hres;exact cell_of h1 rfl
        have HRES:=Lib.hid hres
        clear hres))
  all_goals
   go_wp2_with fail
   go_meet
   case rel=>
    obtain⟨owx,h1,_,h2⟩:=HRES.out
    exact⟨owx,Lib.hid h1,Lib.hid h2⟩
 case rest=>
  obtain⟨owx,hLx,hRx⟩:=hcut
  have g4:World.cell? _ ⟨w.heap.size+1,4,none⟩=some (Value.string S):=cell_of hRx.out.1 rfl
  go_wp2_with fail
  refine (still_l S _ hS hRx.out.2).mono ?_
  rintro y w5 ⟨rfl,hb5⟩
  go_wp2_with fail
  go_ret
  exact⟨owx,T,rfl,by rw[<-HPX.out.1,<-HPX.out.2];exact hLx.out.below hb5,HP.out.2.2⟩
end
end
end Go.Proofs.YticobikhndlejaaGreatDoor
