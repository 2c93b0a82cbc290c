/- Part 14 of the proof (see the last part). -/
import Derived.Test.YticobikhndlejaaGreatDoorAlM
namespace Go.Proofs.YticobikhndlejaaGreatDoor
section
open Go.RowKit Go.Shelf Go.Lib
set_option maxRecDepth 100000
set_option maxHeartbeats 8000000
theorem first_yes(w:World){q:Nat}{t:St}{l:List RR}{told:List Int}{fs:List (Cmd×Value)}{rv tv fv dv:Value}(h:RB w q t l told fs rv tv fv dv)(hl:l.map (·.r)=t.rs)(hs:t.rs.Pairwise (·.num < ·.num))(hlen:l.length<=1000000)(p:Nat){f:Req}{m:List Req}(hf:t.rs.filter (readyP t.now t.rs p)=f :: m):
  Calls Tryx.prog 125 #[ptr q,.int .i64 p] w fun y w'=>∃ (k:Nat) (x:RR),y=.returned (.int .i64 k)/\l[k]?=some x/\x.r=f/\Below w.heap.size w w':=by
 refine (first_r w h hl hs hlen p).mono ?_
 rintro y w' ⟨⟨k,r,rfl,hk,m',hm⟩ |⟨rfl,hn⟩,hB⟩
 ·rw[hf,List.cons.injEq]at hm
  rw[<-hl,List.getElem?_map]at hk
  obtain⟨x,h1,h2⟩:=Option.map_eq_some_iff.1 hk
  exact⟨k,x,rfl,h1,h2.trans hm.1.symm,hB⟩
 ·rw[hf]at hn;cases hn
def gI(K:Nat->List Int)(p j:Nat):List Int:=(List.range j).flatMap fun i=>K (p+i)
theorem gI_succ(K:Nat->List Int)(p j:Nat):gI K p (j+1)=gI K p j ++ K (p+j):=by simp[gI,List.range_succ,List.flatMap_append]
theorem gI_one(K:Nat->List Int)(p:Nat):gI K p 1=K p:=by simp[gI]
theorem gI_len{K:Nat->List Int}{B:Nat}(hK:∀ k,(K k).length<=B)(p:Nat):∀ j,(gI K p j).length<=j*B
 | 0=>by simp[gI]
 | j+1=>by rw[gI_succ,List.length_append,Nat.succ_mul];exact Nat.add_le_add (gI_len hK p j) (hK _)
theorem gI_gather{K:Nat->List Int}{KR:Nat->List Req}(h:∀ k,k<16->K k=(KR k).map (·.num)){p:Nat}:∀ j,p+j<=16->gI K p j=(gatherR KR p j).map (·.num)
 | 0,_=>by simp[gI,gatherR]
 | j+1,hj=>by rw[gI_succ,gather_succR,List.map_append,gI_gather h j (by omega),h _ (by omega)]
theorem rr_chain{w:World}{b:Nat}{ty:TypeId}{a0 a1 a2 a3 a4 a5 a6 a7 a8 a9:Value}(v0 v1 v2 v3 v4 v5 v6 v7 v8 v9:Value)(h:w.heap[b]?=some (.cells #[a0,a1,a2,a3,a4,a5,a6,a7,a8,a9] ty (0,0))):
  (((((((((((w.setCell ⟨b,0,none⟩ v0).setCell ⟨b,1,none⟩ v1).setCell ⟨b,2,none⟩ v2).setCell ⟨b,3,none⟩ v3).setCell ⟨b,4,none⟩ v4).setCell ⟨b,5,none⟩ v5).setCell ⟨b,6,none⟩ v6).setCell ⟨b,7,none⟩ v7).setCell ⟨b,8,none⟩ v8).setCell ⟨b,9,none⟩ v9)).heap[b]?=some (.cells #[v0,v1,v2,v3,v4,v5,v6,v7,v8,v9] ty (0,0)):=by
 have h0:(w.setCell ⟨b,0,none⟩ v0).heap[b]?=some (.cells #[v0,a1,a2,a3,a4,a5,a6,a7,a8,a9] ty (0,0)):=heap_setCell (i:=0) v0 h
 have h1:((w.setCell ⟨b,0,none⟩ v0).setCell ⟨b,1,none⟩ v1).heap[b]?=some (.cells #[v0,v1,a2,a3,a4,a5,a6,a7,a8,a9] ty (0,0)):=heap_setCell (i:=1) v1 h0
 have h2:(((w.setCell ⟨b,0,none⟩ v0).setCell ⟨b,1,none⟩ v1).setCell ⟨b,2,none⟩ v2).heap[b]?=some (.cells #[v0,v1,v2,a3,a4,a5,a6,a7,a8,a9] ty (0,0)):=heap_setCell (i:=2) v2 h1
 have h3:((((w.setCell ⟨b,0,none⟩ v0).setCell ⟨b,1,none⟩ v1).setCell ⟨b,2,none⟩ v2).setCell ⟨b,3,none⟩ v3).heap[b]?=some (.cells #[v0,v1,v2,v3,a4,a5,a6,a7,a8,a9] ty (0,0)):=heap_setCell (i:=3) v3 h2
 have h4:(((((w.setCell ⟨b,0,none⟩ v0).setCell ⟨b,1,none⟩ v1).setCell ⟨b,2,none⟩ v2).setCell ⟨b,3,none⟩ v3).setCell ⟨b,4,none⟩ v4).heap[b]?=some (.cells #[v0,v1,v2,v3,v4,a5,a6,a7,a8,a9] ty (0,0)):=heap_setCell (i:=4) v4 h3
 have h5:((((((w.setCell ⟨b,0,none⟩ v0).setCell ⟨b,1,none⟩ v1).setCell ⟨b,2,none⟩ v2).setCell ⟨b,3,none⟩ v3).setCell ⟨b,4,none⟩ v4).setCell ⟨b,5,none⟩ v5).heap[b]?=some (.cells #[v0,v1,v2,v3,v4,v5,a6,a7,a8,a9] ty (0,0)):=heap_setCell (i:=5) v5 h4
 have h6:(((((((w.setCell ⟨b,0,none⟩ v0).setCell ⟨b,1,none⟩ v1).setCell ⟨b,2,none⟩ v2).setCell ⟨b,3,none⟩ v3).setCell ⟨b,4,none⟩ v4).setCell ⟨b,5,none⟩ v5).setCell ⟨b,6,none⟩ v6).heap[b]?=some (.cells #[v0,v1,v2,v3,v4,v5,v6,a7,a8,a9] ty (0,0)):=heap_setCell (i:=6) v6 h5
 have h7:((((((((w.setCell ⟨b,0,none⟩ v0).setCell ⟨b,1,none⟩ v1).setCell ⟨b,2,none⟩ v2).setCell ⟨b,3,none⟩ v3).setCell ⟨b,4,none⟩ v4).setCell ⟨b,5,none⟩ v5).setCell ⟨b,6,none⟩ v6).setCell ⟨b,7,none⟩ v7).heap[b]?=some (.cells #[v0,v1,v2,v3,v4,v5,v6,v7,a8,a9] ty (0,0)):=heap_setCell (i:=7) v7 h6
 have h8:(((((((((w.setCell ⟨b,0,none⟩ v0).setCell ⟨b,1,none⟩ v1).setCell ⟨b,2,none⟩ v2).setCell ⟨b,3,none⟩ v3).setCell ⟨b,4,none⟩ v4).setCell ⟨b,5,none⟩ v5).setCell ⟨b,6,none⟩ v6).setCell ⟨b,7,none⟩ v7).setCell ⟨b,8,none⟩ v8).heap[b]?=some (.cells #[v0,v1,v2,v3,v4,v5,v6,v7,v8,a9] ty (0,0)):=heap_setCell (i:=8) v8 h7
 have h9:((((((((((w.setCell ⟨b,0,none⟩ v0).setCell ⟨b,1,none⟩ v1).setCell ⟨b,2,none⟩ v2).setCell ⟨b,3,none⟩ v3).setCell ⟨b,4,none⟩ v4).setCell ⟨b,5,none⟩ v5).setCell ⟨b,6,none⟩ v6).setCell ⟨b,7,none⟩ v7).setCell ⟨b,8,none⟩ v8).setCell ⟨b,9,none⟩ v9).heap[b]?=some (.cells #[v0,v1,v2,v3,v4,v5,v6,v7,v8,v9] ty (0,0)):=heap_setCell (i:=9) v9 h8
 exact h9
theorem next_r(w:World){q:Nat}{t:St}{l:List RR}{told:List Int}{fs:List (Cmd×Value)}{rv tv fv dv:Value}(h:RB w q t l told fs rv tv fv dv)(hl:l.map (·.r)=t.rs)(hk:t.Ok)(hlen:l.length<=1000000):
  Calls Tryx.prog 113 #[ptr q] w fun y w'=>((y=.returned (.tuple #[noCmd,.bool false])/\t.cmd=none)\/∃ c v,y=.returned (.tuple #[.agg #[.bool c.write,.int .i64 c.page,.int .i64 c.count,v],.bool true])/\t.cmd=some c/\w'.ownsRow w.heap.size 3 1 v c.nums.length (c.nums.map fun n=>Value.int .i64 n))/\Below w.heap.size w w':=by
 have hs:=hk.a.rs.nums
 have hh:=hk.a.head
 obtain⟨fa,fc,rfl⟩:=own_slice h.fls.row
 obtain⟨n,hn⟩:∃ n,fs.length=n:=⟨_,rfl⟩
 have hnc:t.cs.length=n:=by rw[<-h.fcs,List.length_map,hn]
 have hn4:n<=4:=by have:=hk.len;have:=hk.a.depth;omega
 rw[hn]at h
 have hql:=lt_of_heap h.que
 obtain⟨W0,hW0⟩:∃ W0,w.alloc (.cells #[.bool false,.int .i64 0,.int .i64 0,.slice none 0 0] 48)=W0:=⟨_,rfl⟩
 have hB0:Below w.heap.size w W0:=by rw[<-hW0];exact (Below.refl _ _).alloc (Nat.le_refl _) _
 have hr0:W0.heap[w.heap.size]?=some (.cells #[.bool false,.int .i64 0,.int .i64 0,.slice none 0 0] 48 (0,0)):=by rw[<-hW0];exact World.alloc_heap_new _ _
 have h0:=h.below hB0
 have c0:=h0.c0
 have c3:=h0.c3
 have rf:∀ i,W0.frozen? ⟨w.heap.size,i,none⟩=false:=fun i=>free_of hr0
 have r0:W0.cell? ⟨w.heap.size,0,none⟩=some (.bool false):=cell_of hr0 rfl
 have r1:W0.cell? ⟨w.heap.size,1,none⟩=some (.int .i64 0):=cell_of hr0 rfl
 have r2:W0.cell? ⟨w.heap.size,2,none⟩=some (.int .i64 0):=cell_of hr0 rfl
 have r3:W0.cell? ⟨w.heap.size,3,none⟩=some (.slice none 0 0):=cell_of hr0 rfl
 have HR:=Lib.hid h0
 have HR0:=Lib.hid hr0
 have HB0:=Lib.hid hB0
 have HW0:=Lib.hid hW0
 have HK:=Lib.hid hk
 have HS:=Lib.hid hs
 have HH:=Lib.hid hh
 obtain⟨d,hd⟩:∃ d,t.depth=d:=⟨_,rfl⟩
 rw[hd]at c0
 have HD:=Lib.hid hd
 have HNC:=Lib.hid hnc
 clear h h0 hr0 hB0 hW0 hk hs hh hd hnc
 have hnone:∀ W,Below W0.heap.size W0 W->∃ W5,(((((W.setCell ⟨w.heap.size,0,none⟩ (.bool false)).setCell ⟨w.heap.size,1,none⟩ (.int .i64 0)).setCell ⟨w.heap.size,2,none⟩ (.int .i64 0)).setCell ⟨w.heap.size,3,none⟩ (.slice none 0 0))=W5)/\W5.heap[w.heap.size]?=some (.cells #[.bool false,.int .i64 0,.int .i64 0,.slice none 0 0] 48 (0,0))/\Below w.heap.size w W5:=fun W hW=>by
  obtain⟨e5,hc5⟩:=cmd_set (W:=W) (.bool false) (.int .i64 0) (.int .i64 0) (.slice none 0 0) ((hW.block _ (lt_of_heap HR0.out)).trans HR0.out)
  have h1:=HB0.out.trans (hW.mono HB0.out.size)
  exact⟨_,rfl,e5,h1.trans (hc5.to_below (fun k hk=>Nat.le_of_eq hk.symm) h1.size)⟩
 have HNONE:=Lib.hid hnone
 clear hnone
 by_cases hfull:d<=n
 ·have hdc:decide ((n:Int)>=(d:Int))=true:=decide_eq_true (by omega)
  have hcn:=cmd_full (t:=t) (by rw[HD.out,HNC.out];exact hfull)
  have HCN:=Lib.hid hcn
  clear hcn
  go_enter Tryx.func113,Tryz.ntmps113
  go_upto_region 1 with fail
  rw[HW0.out]
  go_quiet (fail)
  go_wp2_with fail
  obtain⟨W5,e1,e5,hB5⟩:=HNONE.out (W0.drewN nq) (below_drewN (Below.refl _ _) _)
  rw[e1]
  have z0:W5.cell? ⟨w.heap.size,0,none⟩=some (.bool false):=cell_of e5 rfl
  have z1:W5.cell? ⟨w.heap.size,1,none⟩=some (.int .i64 0):=cell_of e5 rfl
  have z2:W5.cell? ⟨w.heap.size,2,none⟩=some (.int .i64 0):=cell_of e5 rfl
  have z3:W5.cell? ⟨w.heap.size,3,none⟩=some (.slice none 0 0):=cell_of e5 rfl
  exact bodyPost_ret (v:=.tuple #[noCmd,.bool false]) (by simp[results,Tryz.results113,go_sem,z0,z1,z2,z3]) rfl ⟨.inl ⟨rfl,HCN.out⟩,hB5⟩
 ·have hdc:decide ((n:Int)>=(d:Int))=false:=decide_eq_false (by omega)
  go_enter Tryx.func113,Tryz.ntmps113
  go_upto_region 1 with fail
  rw[HW0.out]
  go_quiet (fail)
  go_wp2_with fail
  have hB1:Below W0.heap.size W0 (W0.drewN nq):=below_drewN (Below.refl _ _) _
  obtain⟨W1,hW1⟩:∃ W1,W0.drewN nq=W1:=⟨_,rfl⟩
  rw[hW1]at hB1 ⊢
  have hR1:=HR.out.below hB1
  have hrd:=(hB1.block _ (lt_of_heap HR0.out)).trans HR0.out
  have rf1:∀ i,W1.frozen? ⟨w.heap.size,i,none⟩=false:=fun i=>free_of hrd
  have HP:=Lib.hid (page_r W1 hR1 hl HS.out hlen HH.out)
  have HR1:=Lib.hid hR1
  have HB1:=Lib.hid hB1
  clear hR1 hB1 hW1 hrd c0 c3 r0 r1 r2 r3 rf
  go_wp2_with fail
  refine HP.out.mono ?_
  rintro y W2 ⟨⟨p,rfl,hp16,hbg⟩ |⟨rfl,hbg⟩,hB2⟩
  ·have hB2':=HB1.out.trans (hB2.mono HB1.out.size)
   have hR2:=HR.out.below hB2'
   have hne:=(beginE_spec HH.out hbg).2
   obtain⟨f,m,hfm⟩:∃ f m,pageR (readyR t.now t.rs) p=f :: m:=by
    unfold neR at hne
    cases hx:pageR (readyR t.now t.rs) p with
    | nil=>rw [hx]at hne;simp at hne
    | cons f m=>exact ⟨f,m,rfl⟩
   have hpf:t.rs.filter (readyP t.now t.rs p)=f :: m:=by rw[<-pageR_ready t.now t.rs hp16];exact hfm
   obtain⟨k,x,hkx,hxf⟩:∃ (k:Nat) (x:RR),l[k]?=some x/\x.r=f:=by
    have hfm2:f∈t.rs:=(List.mem_filter.1 (show f∈t.rs.filter (readyP t.now t.rs p) by rw[hpf];simp)).1
    rw[<-hl]at hfm2
    obtain⟨x,hx,hxf⟩:=List.mem_map.1 hfm2
    obtain⟨k,hk⟩:=List.mem_iff_getElem?.1 hx
    exact⟨k,x,hk,hxf⟩
   have hF1:∀ W,Below W2.heap.size W2 W->Calls Tryx.prog 125 #[ptr q,.int .i64 p] W fun y w'=>y=.returned (.int .i64 k)/\Below W.heap.size W w':=fun W hW=>
    (first_yes W (hR2.below hW) hl HS.out hlen p hpf).mono fun y w' ⟨k',x',e1,e2,e3,e4⟩=>by
      have h1:t.rs[k]?=some f:=by rw[<-hl,List.getElem?_map,hkx];simp[hxf]
      have h2:t.rs[k']?=some f:=by rw[<-hl,List.getElem?_map,e2];simp[e3]
      obtain⟨l1,e5⟩:=List.getElem?_eq_some_iff.1 h1
      obtain⟨l2,e6⟩:=List.getElem?_eq_some_iff.1 h2
      have hkk:k'=k:=by
       have hs2:=HS.out
       rw[List.pairwise_iff_getElem]at hs2
       rcases Nat.lt_trichotomy k' k with hlt | he | hlt
       ·have:=hs2 k' k l2 l1 hlt;rw[e5,e6]at this;omega
       ·exact he
       ·have:=hs2 k k' l1 l2 hlt;rw[e5,e6]at this;omega
      rw[hkk]at e1
      exact⟨e1,e4⟩
   have HF:=Lib.hid hF1
   obtain⟨g,cap,e,hgl,hgb,hcell⟩:=hR2.req hkx
   obtain⟨ra,rc,rfl⟩:=own_slice hR2.reqs
   simp only[Value.slice.injEq]at e
   obtain⟨rfl,hdrop,rfl⟩:=e
   clear hdrop
   have hkl:k<l.length:=(List.getElem?_eq_some_iff.1 hkx).1
   have hklI:(k:Int)<(l.length:Int):=by omega
   have hk0:(0:Int)<=(k:Int):=by omega
   have p0:W2.cell? ⟨g,k*10,none⟩=some (.int .i64 x.r.num):=hcell 0 _ rfl
   have p1:W2.cell? ⟨g,k*10+1,none⟩=some (.bool x.r.write):=hcell 1 _ rfl
   have p2:W2.cell? ⟨g,k*10+2,none⟩=some (.int .i64 x.r.page):=hcell 2 _ rfl
   have p3:W2.cell? ⟨g,k*10+3,none⟩=some (.string x.data):=hcell 3 _ rfl
   have p4:W2.cell? ⟨g,k*10+4,none⟩=some (.int .i64 x.r.state):=hcell 4 _ rfl
   have p5:W2.cell? ⟨g,k*10+5,none⟩=some (.int .i64 x.r.tries):=hcell 5 _ rfl
   have p6:W2.cell? ⟨g,k*10+6,none⟩=some (.int .i64 x.r.after):=hcell 6 _ rfl
   have p7:W2.cell? ⟨g,k*10+7,none⟩=some (.bool x.r.alone):=hcell 7 _ rfl
   have p8:W2.cell? ⟨g,k*10+8,none⟩=some (.bool x.r.inAir):=hcell 8 _ rfl
   have p9:W2.cell? ⟨g,k*10+9,none⟩=some (.string x.answer):=hcell 9 _ rfl
   have e1:=hR2.c1
   have hql2:=lt_of_heap hR2.que
   have hrd:=(hB2'.block _ (lt_of_heap HR0.out)).trans HR0.out
   have hwl2:=lt_of_heap hrd
   have HR2:=Lib.hid hR2
   have HRD:=Lib.hid hrd
   have HB2:=Lib.hid (HB0.out.trans (hB2'.mono HB0.out.size))
   have HFM:=Lib.hid hfm
   have HBG:=Lib.hid hbg
   have hp0:¬(p:Int)<0:=by omega
   have HKX:=Lib.hid hkx
   have HXF0:=Lib.hid hxf
   have hgn1:g≠W2.heap.size:=by omega
   have hqn1:q≠W2.heap.size:=by omega
   have hgn2:=hgn1.symm
   have hqn2:=hqn1.symm
   clear hB2 hB2' hR2 hne hpf hrd hbg hfm hkx hxf hF1 hcell hgb
   go_upto_region 6 with fail
   go_cut [5]from 24 to 32 (fun s5 wx=>∃ (b5:Nat) (x:RR),s5=ptr b5/\W2.heap.size<=b5/\x.r=f/\wx.heap[b5]?=some (.cells #[.int .i64 x.r.num,.bool x.r.write,.int .i64 x.r.page,.string x.data,.int .i64 x.r.state,.int .i64 x.r.tries,.int .i64 x.r.after,.bool x.r.alone,.bool x.r.inAir,.string x.answer] 191 (0,0))/\Hid (Below W2.heap.size W2 wx))
   case first=>
    go_region_held3 (fun w'=>w'.cell? ⟨q,1,none⟩=some (.slice (some ⟨g,0,none⟩) l.length rc)/\w'.cell? ⟨g,k*10,none⟩=some (.int .i64 x.r.num)/\w'.cell? ⟨g,k*10+1,none⟩=some (.bool x.r.write)/\w'.cell? ⟨g,k*10+2,none⟩=some (.int .i64 x.r.page)/\w'.cell? ⟨g,k*10+3,none⟩=some (.string x.data)/\w'.cell? ⟨g,k*10+4,none⟩=some (.int .i64 x.r.state)/\w'.cell? ⟨g,k*10+5,none⟩=some (.int .i64 x.r.tries)/\w'.cell? ⟨g,k*10+6,none⟩=some (.int .i64 x.r.after)/\w'.cell? ⟨g,k*10+7,none⟩=some (.bool x.r.alone)/\w'.cell? ⟨g,k*10+8,none⟩=some (.bool x.r.inAir)/\w'.cell? ⟨g,k*10+9,none⟩=some (.string x.answer)) (go_keep)
     (first
       | (go_at_call 125;refine (HF.out _ (by go_grown)).mono ?_;rintro y w3 ⟨rfl,hB3⟩
          have hB4:Below W2.heap.size W2 w3:=Below.trans (by go_grown) (hB3.mono (by simp))
          have v0:w3.cell? ⟨g,k*10,none⟩=some (.int .i64 x.r.num):=(hB4.cell (p:=⟨g,k*10,none⟩) hgl).trans p0
          have v1:w3.cell? ⟨g,k*10+1,none⟩=some (.bool x.r.write):=(hB4.cell (p:=⟨g,k*10+1,none⟩) hgl).trans p1
          have v2:w3.cell? ⟨g,k*10+2,none⟩=some (.int .i64 x.r.page):=(hB4.cell (p:=⟨g,k*10+2,none⟩) hgl).trans p2
          have v3:w3.cell? ⟨g,k*10+3,none⟩=some (.string x.data):=(hB4.cell (p:=⟨g,k*10+3,none⟩) hgl).trans p3
          have v4:w3.cell? ⟨g,k*10+4,none⟩=some (.int .i64 x.r.state):=(hB4.cell (p:=⟨g,k*10+4,none⟩) hgl).trans p4
          have v5:w3.cell? ⟨g,k*10+5,none⟩=some (.int .i64 x.r.tries):=(hB4.cell (p:=⟨g,k*10+5,none⟩) hgl).trans p5
          have v6:w3.cell? ⟨g,k*10+6,none⟩=some (.int .i64 x.r.after):=(hB4.cell (p:=⟨g,k*10+6,none⟩) hgl).trans p6
          have v7:w3.cell? ⟨g,k*10+7,none⟩=some (.bool x.r.alone):=(hB4.cell (p:=⟨g,k*10+7,none⟩) hgl).trans p7
          have v8:w3.cell? ⟨g,k*10+8,none⟩=some (.bool x.r.inAir):=(hB4.cell (p:=⟨g,k*10+8,none⟩) hgl).trans p8
          have v9:w3.cell? ⟨g,k*10+9,none⟩=some (.string x.answer):=(hB4.cell (p:=⟨g,k*10+9,none⟩) hgl).trans p9
          have hy1:w3.cell? ⟨q,1,none⟩=some (.slice (some ⟨g,0,none⟩) l.length rc):=(hB4.cell (p:=⟨q,1,none⟩) hql2).trans e1
          have hz2:=hB3.size
          try simp at hz2
          have hm1:q<w3.heap.size:=Nat.lt_of_lt_of_le hql2 hB4.size
          have hm3:q≠w3.heap.size:=by omega
          have hgl3:g<w3.heap.size:=Nat.lt_of_lt_of_le hgl hB4.size
          have hm4:g≠w3.heap.size:=by omega
          have hm5:=hm3.symm
          have hm6:=hm4.symm
          have hm7:W2.heap.size≠q:=by omega
          try (have zblk:w3.heap[W2.heap.size]?=some (.cells #[.int .i64 0,.bool false,.int .i64 0,.string ⟨#[]⟩,.int .i64 0,.int .i64 0,.int .i64 0,.bool false,.bool false,.string ⟨#[]⟩] 191 (0,0)):=?zval;case zval=>((refine (hB3.block _ (by simp)).trans ?_);exact World.alloc_heap_new _ _))
          try (have zc0:w3.cell? ⟨W2.heap.size,0,none⟩=some (.int .i64 0):=?zval;case zval=>(exact cell_of zblk rfl))
          try (have zc1:w3.cell? ⟨W2.heap.size,1,none⟩=some (.bool false):=?zval;case zval=>(exact cell_of zblk rfl))
          try (have zc2:w3.cell? ⟨W2.heap.size,2,none⟩=some (.int .i64 0):=?zval;case zval=>(exact cell_of zblk rfl))
          try (have zc3:w3.cell? ⟨W2.heap.size,3,none⟩=some (.string ⟨#[]⟩):=?zval;case zval=>(exact cell_of zblk rfl))
          try (have zc4:w3.cell? ⟨W2.heap.size,4,none⟩=some (.int .i64 0):=?zval;case zval=>(exact cell_of zblk rfl))
          try (have zc5:w3.cell? ⟨W2.heap.size,5,none⟩=some (.int .i64 0):=?zval;case zval=>(exact cell_of zblk rfl))
          try (have zc6:w3.cell? ⟨W2.heap.size,6,none⟩=some (.int .i64 0):=?zval;case zval=>(exact cell_of zblk rfl))
          try (have zc7:w3.cell? ⟨W2.heap.size,7,none⟩=some (.bool false):=?zval;case zval=>(exact cell_of zblk rfl))
          try (have zc8:w3.cell? ⟨W2.heap.size,8,none⟩=some (.bool false):=?zval;case zval=>(exact cell_of zblk rfl))
          try (have zc9:w3.cell? ⟨W2.heap.size,9,none⟩=some (.string ⟨#[]⟩):=?zval;case zval=>(exact cell_of zblk rfl))
          try (have zfr:∀ i,w3.frozen? ⟨W2.heap.size,i,none⟩=false:=?zval;case zval=>(exact fun i=>free_of zblk))
          try (have zlt:W2.heap.size<w3.heap.size:=?zval;case zval=>(exact lt_of_heap zblk))
          try (have HZ:=Lib.hid zblk;clear zblk)
          have HX:=Lib.hid (And.intro HXF0.out hB4)
          clear hB4))
    all_goals
     go_wp2_with fail
     go_meet
     case rel=>
      refine⟨_,x,rfl,?_,HX.out.1,?_,?_⟩
      ·omega
      ·first
       | with_reducible exact World.alloc_heap_new _ _
       | exact rr_chain _ _ _ _ _ _ _ _ _ _ HZ.out
      ·refine Lib.hid (HX.out.2.trans ?_)
       repeat first | with_reducible exact Below.refl _ _ | with_reducible refine Below.alloc ?_ ?_ _ | with_reducible refine Below.setCell ?_ ?_ _
       all_goals (try dsimp only) <;> omega
   case rest=>
    obtain⟨b5,x,rfl,hb5,hxf,hx5,hBc⟩:=hcut
    have y0:wc.cell? ⟨b5,0,none⟩=some (.int .i64 f.num):=by rw[<-hxf];exact cell_of hx5 rfl
    have y1:wc.cell? ⟨b5,1,none⟩=some (.bool f.write):=by rw[<-hxf];exact cell_of hx5 rfl
    have y7:wc.cell? ⟨b5,7,none⟩=some (.bool f.alone):=by rw[<-hxf];exact cell_of hx5 rfl
    have hl5:=lt_of_heap hx5
    have hrdc:=(hBc.out.block _ (lt_of_heap HRD.out)).trans HRD.out
    have hwlc:=lt_of_heap hrdc
    have s0:wc.cell? ⟨w.heap.size,0,none⟩=some (.bool false):=cell_of hrdc rfl
    have s1:wc.cell? ⟨w.heap.size,1,none⟩=some (.int .i64 0):=cell_of hrdc rfl
    have s2:wc.cell? ⟨w.heap.size,2,none⟩=some (.int .i64 0):=cell_of hrdc rfl
    have s3:wc.cell? ⟨w.heap.size,3,none⟩=some (.slice none 0 0):=cell_of hrdc rfl
    have sf:∀ i,wc.frozen? ⟨w.heap.size,i,none⟩=false:=fun i=>free_of hrdc
    have hne1:w.heap.size≠wc.heap.size:=by omega
    have hne2:b5≠wc.heap.size:=by omega
    have hne3:w.heap.size≠wc.heap.size+1:=by omega
    have hne4:b5≠wc.heap.size+1:=by omega
    have hne5:=hne1.symm
    have hne6:=hne2.symm
    have hne7:=hne3.symm
    have HRDC:=Lib.hid hrdc
    have HXF:=Lib.hid hxf
    have HX5:=Lib.hid hx5
    clear hrdc hxf hx5
    obtain⟨fw,hfw⟩:∃ fw,f.write=fw:=⟨_,rfl⟩
    obtain⟨fa2,hfa⟩:∃ fa2,f.alone=fa2:=⟨_,rfl⟩
    rw[hfw]at y1
    rw[hfa]at y7
    have HFW:=Lib.hid hfw
    have HFA:=Lib.hid hfa
    clear hfw hfa
    have hs5:∀ (a b c e:Value),((((wc.setCell ⟨w.heap.size,0,none⟩ a).setCell ⟨w.heap.size,1,none⟩ b).setCell ⟨w.heap.size,2,none⟩ c).setCell ⟨w.heap.size,3,none⟩ e).heap.size=wc.heap.size:=fun _ _ _ _=>by simp[World.setCell]
    have HS5:=Lib.hid hs5
    have HBC:=Lib.hid (HB2.out.trans (hBc.out.mono HB2.out.size))
    clear hs5
    cases fa2 with
    | true=>
      go_wp2_with fail
      obtain⟨e5,hc5⟩:=cmd_set (W:=wc) (.bool fw) (.int .i64 p) (.int .i64 1) (.slice (some ⟨wc.heap.size+1,0,none⟩) 1 1) HRDC.out
      have hsz5:=HS5.out (.bool fw) (.int .i64 p) (.int .i64 1) (.slice (some ⟨wc.heap.size+1,0,none⟩) 1 1)
      obtain⟨W5,hW5⟩:∃ W5,((((wc.setCell ⟨w.heap.size,0,none⟩ (.bool fw)).setCell ⟨w.heap.size,1,none⟩ (.int .i64 p)).setCell ⟨w.heap.size,2,none⟩ (.int .i64 1)).setCell ⟨w.heap.size,3,none⟩ (.slice (some ⟨wc.heap.size+1,0,none⟩) 1 1))=W5:=⟨_,rfl⟩
      rw[hW5]at e5 hc5 hsz5
      rw[hW5]
      have h1:=((HBC.out.trans (hc5.to_below (fun k hk=>Nat.le_of_eq hk.symm) HBC.out.size)))
      have h2:Below w.heap.size w (W5.alloc (.cells #[.bool fw,.int .i64 p,.int .i64 1,.slice (some ⟨wc.heap.size+1,0,none⟩) 1 1] 48)):=h1.alloc h1.size _
      have h3:=h2.alloc h2.size (.cells #[.int .i64 f.num] 3)
      have e7:=(Below.heap_alloc _ (.cells #[.int .i64 f.num] 3) w.heap.size (by simp;omega)).trans ((Below.heap_alloc W5 (.cells #[.bool fw,.int .i64 p,.int .i64 1,.slice (some ⟨wc.heap.size+1,0,none⟩) 1 1] 48) w.heap.size (by omega)).trans e5)
      have hrow:=ownsRow_one (w:=W5.alloc (.cells #[.bool fw,.int .i64 p,.int .i64 1,.slice (some ⟨wc.heap.size+1,0,none⟩) 1 1] 48)) (b:=w.heap.size) (v:=.int .i64 f.num) 3 (by simp;omega)
      obtain⟨W7,hW7⟩:∃ W7,((W5.alloc (.cells #[.bool fw,.int .i64 p,.int .i64 1,.slice (some ⟨wc.heap.size+1,0,none⟩) 1 1] 48)).alloc (.cells #[.int .i64 f.num] 3))=W7:=⟨_,rfl⟩
      rw[hW7]at e7 h3 hrow
      rw[hW7]
      rw[show (W5.alloc (.cells #[.bool fw,.int .i64 p,.int .i64 1,.slice (some ⟨wc.heap.size+1,0,none⟩) 1 1] 48)).heap.size=wc.heap.size+1 from by simp[hsz5]]at hrow
      have z0:W7.cell? ⟨w.heap.size,0,none⟩=some (.bool fw):=cell_of e7 rfl
      have z1:W7.cell? ⟨w.heap.size,1,none⟩=some (.int .i64 p):=cell_of e7 rfl
      have z2:W7.cell? ⟨w.heap.size,2,none⟩=some (.int .i64 1):=cell_of e7 rfl
      have z3:W7.cell? ⟨w.heap.size,3,none⟩=some (.slice (some ⟨wc.heap.size+1,0,none⟩) 1 1):=cell_of e7 rfl
      have hcm:=cmd_alone (t:=t) (by rw[HNC.out,HD.out];omega) HBG.out HFM.out HFA.out
      rw[HFW.out]at hcm
      exact bodyPost_ret (v:=.tuple #[.agg #[.bool fw,.int .i64 p,.int .i64 1,.slice (some ⟨wc.heap.size+1,0,none⟩) 1 1],.bool true]) (by simp[results,Tryz.results113,go_sem,z0,z1,z2,z3]) rfl
       ⟨.inr ⟨⟨fw,p,1,[f.num]⟩,_,rfl,hcm,hrow⟩,h3⟩
    | false=>
      obtain⟨WA,hWA⟩:∃ WA,wc.alloc (.cells #[.bool fw,.int .i64 p,.int .i64 1,.slice none 0 0] 48)=WA:=⟨_,rfl⟩
      have hBA:Below W2.heap.size W2 WA:=by rw[<-hWA];exact hBc.out.alloc hBc.out.size _
      have hcA:WA.heap[wc.heap.size]?=some (.cells #[.bool fw,.int .i64 p,.int .i64 1,.slice none 0 0] 48 (0,0)):=by rw[<-hWA];exact World.alloc_heap_new _ _
      have hxA:WA.heap[b5]?=wc.heap[b5]?:=by rw[<-hWA];exact Below.heap_alloc _ _ _ hl5
      have hsA:WA.heap.size=wc.heap.size+1:=by rw[<-hWA];simp
      have hG:=Lib.hid fun W (hW:Below W2.heap.size W2 W) k=>group_r W (HR2.out.below hW) hl HS.out hlen k fw
      obtain⟨K,hK⟩:∃ K:Nat->List Int,K=fun k=>numsOf (readyK t.now t.rs fw k) t.rs:=⟨_,rfl⟩
      have hKr:∀ k,k<16->K k=(kindR (readyR t.now t.rs) fw k).map (·.num):=fun k hk=>by rw[hK,kindR_ready t.now t.rs fw hk];rfl
      have hKl:∀ k,(K k).length<=1000000:=fun k=>by
       rw[hK]
       show (numsOf (readyK t.now t.rs fw k) t.rs).length<=1000000
       have h1:=numsOf_len (readyK t.now t.rs fw k) t.rs t.rs.length
       rw[List.take_length]at h1
       have h2:t.rs.length=l.length:=by rw[<-hl,List.length_map]
       omega
      have HWA:=Lib.hid hWA
      have HBA:=Lib.hid hBA
      have HCA:=Lib.hid hcA
      have HXA:=Lib.hid hxA
      have HSA:=Lib.hid hsA
      have HK':=Lib.hid hK
      have HKR:=Lib.hid hKr
      have HKL:=Lib.hid hKl
      clear hWA hBA hcA hxA hsA hK hKr hKl
      go_wp2_with fail
      rw[HWA.out]
      refine (hG.out WA HBA.out p).mono ?_
      rintro y w4 ⟨v,rfl,hv,hB4⟩
      rw[show numsOf (readyK t.now t.rs fw p) t.rs=K p from by rw[HK'.out]]at hv
      obtain⟨va,vc,rfl⟩:=own_slice hv
      have hcb4:=(hB4.block _ (lt_of_heap HCA.out)).trans HCA.out
      have c3:w4.cell? ⟨wc.heap.size,3,none⟩=some (.slice none 0 0):=cell_of hcb4 rfl
      have cf:w4.frozen? ⟨wc.heap.size,3,none⟩=false:=free_of hcb4
      have hKp:K p≠[]:=by
       rw[HKR.out p hp16]
       intro h0
       have hfp:f∈pageR (readyR t.now t.rs) p:=by rw[HFM.out];simp
       have:f∈kindR (readyR t.now t.rs) fw p:=List.mem_filter.2 ⟨hfp,by simp[isKindR,HFW.out,HFA.out]⟩
       rw[List.map_eq_nil_iff]at h0
       rw[h0]at this
       cases this
      obtain⟨W6,hW6⟩:∃ W6,w4.setCell ⟨wc.heap.size,3,none⟩ (.slice va (K p).length vc)=W6:=⟨_,rfl⟩
      have hcb6:W6.heap[wc.heap.size]?=some (.cells #[.bool fw,.int .i64 p,.int .i64 1,.slice va (K p).length vc] 48 (0,0)):=by rw[<-hW6];exact heap_setCell (i:=3) _ hcb4
      have hC6:Chg (fun k=>k=wc.heap.size) WA W6:=by rw[<-hW6];exact (chgB hB4 (fun k=>k=wc.heap.size)).setCell (p:=⟨wc.heap.size,3,none⟩) (.inl rfl) _
      have hv6:W6.ownsRow WA.heap.size 3 1 (.slice va (K p).length vc) (gI K p 1).length ((gI K p 1).map fun n=>Value.int .i64 n):=by
       rw[gI_one,<-hW6]
       exact ownsRow_setCell_below hv (a:=⟨wc.heap.size,3,none⟩) (by show wc.heap.size<WA.heap.size;rw[HSA.out];omega) _
      have HW6:=Lib.hid hW6
      have HB4:=Lib.hid hB4
      have HC6:=Lib.hid hC6
      have HV6:=Lib.hid hv6
      have HCB6:=Lib.hid hcb6
      have HKP:=Lib.hid hKp
      obtain⟨i0,hi,hz0,hz1,hz2⟩:=info_parts Tryz.infoI2
      clear hW6 hB4 hC6 hv6 hcb6 hKp hv hcb4
      go_wp2_with fail
      rw[HW6.out]
      go_loopg [7] 4 (fun kk u7 wx=>∃ (j:Nat) (v:Value),kk=5 - j/\1<=j/\j<=4/\p+j<=16/\wx.heap[wc.heap.size]?=some (.cells #[.bool fw,.int .i64 p,.int .i64 j,v] 48 (0,0))/\wx.ownsRow WA.heap.size 3 1 v (gI K p j).length ((gI K p j).map fun n=>Value.int .i64 n)/\Hid (∀ i,i<j->K (p+i)≠[])/\Hid (Chg (fun k=>k=wc.heap.size) WA wx))
      case atStart=>exact ⟨1,_,by simp,by omega,by omega,by omega,HCB6.out,HV6.out,Lib.hid (fun i hi=>by rw[show p+i=p from by omega];exact HKP.out),Lib.hid HC6.out⟩
      case round=>
       obtain⟨j,v,rfl,hj1,hj4,hpj,hcb,hv,hall,hC⟩:=hrel
       obtain⟨va2,vc2,rfl⟩:=own_slice hv
       have hBr:Below W2.heap.size W2 wr:=HBA.out.trans (hC.out.to_below (fun k hk=>by have:=hBc.out.size;omega) HBA.out.size)
       have hRr:wr.heap[w.heap.size]?=some (.cells #[.bool false,.int .i64 0,.int .i64 0,.slice none 0 0] 48 (0,0)):=(hBr.block _ (lt_of_heap HRD.out)).trans HRD.out
       have hxr:wr.heap[b5]?=some (.cells #[.int .i64 x.r.num,.bool x.r.write,.int .i64 x.r.page,.string x.data,.int .i64 x.r.state,.int .i64 x.r.tries,.int .i64 x.r.after,.bool x.r.alone,.bool x.r.inAir,.string x.answer] 191 (0,0)):=(hC.out.block _ (by rw[HSA.out];omega) hne2).trans (HXA.out.trans HX5.out)
       have x1:wr.cell? ⟨b5,1,none⟩=some (.bool fw):=by rw[<-HFW.out,<-HXF.out];exact cell_of hxr rfl
       have k0:wr.cell? ⟨wc.heap.size,0,none⟩=some (.bool fw):=cell_of hcb rfl
       have k1:wr.cell? ⟨wc.heap.size,1,none⟩=some (.int .i64 p):=cell_of hcb rfl
       have k2:wr.cell? ⟨wc.heap.size,2,none⟩=some (.int .i64 j):=cell_of hcb rfl
       have k3:wr.cell? ⟨wc.heap.size,3,none⟩=some (.slice va2 (gI K p j).length vc2):=cell_of hcb rfl
       have kf:∀ i,wr.frozen? ⟨wc.heap.size,i,none⟩=false:=fun i=>free_of hcb
       have g0:wr.cell? ⟨w.heap.size,0,none⟩=some (.bool false):=cell_of hRr rfl
       have g1:wr.cell? ⟨w.heap.size,1,none⟩=some (.int .i64 0):=cell_of hRr rfl
       have g2:wr.cell? ⟨w.heap.size,2,none⟩=some (.int .i64 0):=cell_of hRr rfl
       have g3:wr.cell? ⟨w.heap.size,3,none⟩=some (.slice none 0 0):=cell_of hRr rfl
       have gf:∀ i,wr.frozen? ⟨w.heap.size,i,none⟩=false:=fun i=>free_of hRr
       have HBR:=Lib.hid hBr
       have HRR:=Lib.hid hRr
       have HXR:=Lib.hid hxr
       have HCB:=Lib.hid hcb
       have HV:=Lib.hid hv
       clear hBr hRr hxr hcb hv
       have hend:∀ W,Below wr.heap.size wr W->(j=min 4 (16 - p)\/K (p+j)=[])->∃ W5,((((W.setCell ⟨w.heap.size,0,none⟩ (.bool fw)).setCell ⟨w.heap.size,1,none⟩ (.int .i64 p)).setCell ⟨w.heap.size,2,none⟩ (.int .i64 j)).setCell ⟨w.heap.size,3,none⟩ (.slice va2 (gI K p j).length vc2))=W5/\
         W5.heap[w.heap.size]?=some (.cells #[.bool fw,.int .i64 p,.int .i64 j,.slice va2 (gI K p j).length vc2] 48 (0,0))/\Below w.heap.size w W5/\t.cmd=some ⟨fw,p,j,gI K p j⟩/\W5.ownsRow w.heap.size 3 1 (.slice va2 (gI K p j).length vc2) (gI K p j).length ((gI K p j).map fun n=>Value.int .i64 n):=fun W hW hst=>by
        obtain⟨e5,hc5⟩:=cmd_set (W:=W) (.bool fw) (.int .i64 p) (.int .i64 j) (.slice va2 (gI K p j).length vc2) ((hW.block _ (lt_of_heap HRR.out)).trans HRR.out)
        have hb1:Below w.heap.size w W:=(HB2.out.trans (HBR.out.mono HB2.out.size)).trans (hW.mono (Nat.le_trans HB2.out.size HBR.out.size))
        refine⟨_,rfl,e5,hb1.trans (hc5.to_below (fun k hk=>Nat.le_of_eq hk.symm) hb1.size),?_,?_⟩
        ·have hnil:∀ k,k<16->(K k=[]↔kindR (readyR t.now t.rs) fw k=[]):=fun k hk=>by rw[HKR.out k hk,List.map_eq_nil_iff]
         have hfin:=cmd_group (t:=t) (by rw[HNC.out,HD.out];omega) HBG.out HFM.out HFA.out (j:=j) (by omega) (fun i hi h0=>by rw[HFW.out]at h0;exact hall.out i hi ((hnil (p+i) (by omega)).2 h0)) (by omega) (hst.imp id fun h0=>by
          rw[HFW.out]
          rcases Nat.lt_or_ge (p+j) 16 with h16 | h16
          ·exact (hnil (p+j) h16).1 h0
          ·refine List.filter_eq_nil_iff.2 fun a ha=>?_
           have ha2:=List.mem_filter.1 ha
           exfalso
           have h1:=(HK.out.a.rs.ok a (mem_readyR ha2.1).1).page
           have h2:a.page=((p+j:Nat):Int):=by simpa using ha2.2
           omega)
         rw[HFW.out,<-gI_gather HKR.out j hpj]at hfin
         exact hfin
        ·refine ownsRow_chg (ownsRow_chg (ownsRow_low HV.out (by rw[HSA.out];omega)) (chgB hW fun _=>False) fun _ _ z=>z) hc5 fun k hk e=>?_
         have:=(HV.out.lt k hk).1
         rw[HSA.out]at this
         omega
       have HEND:=Lib.hid hend
       clear hend
       by_cases hgo:j<4/\p+j<16
       ·obtain⟨hgo1,hgo2⟩:=hgo
        have a1:(j:Int)<4:=by omega
        have a2:(p:Int)+(j:Int)<16:=by omega
        have a3:(0:Int)<=(p:Int)+(j:Int):=by omega
        have HGC:=Lib.hid (hG.out wr HBR.out (p+j))
        go_wp2_with fail
        rw[show (p:Int)+(j:Int)=((p+j:Nat):Int)from by omega]
        refine HGC.out.mono ?_
        rintro y w5 ⟨lv,rfl,hlv,hB5⟩
        rw[show numsOf (readyK t.now t.rs fw (p+j)) t.rs=K (p+j)from by rw[HK'.out]]at hlv
        obtain⟨nl,hnl⟩:∃ nl,(K (p+j)).length=nl:=⟨_,rfl⟩
        obtain⟨xl,hxl⟩:∃ xl,(K (p+j)).map (fun n=>Value.int .i64 n)=xl:=⟨_,rfl⟩
        have hnl6:nl<=1000000:=hnl ▸ HKL.out (p+j)
        rw[hnl,hxl]at hlv
        have b2:w5.cell? ⟨wc.heap.size,2,none⟩=some (.int .i64 j):=(hB5.cell (p:=⟨wc.heap.size,2,none⟩) (lt_of_heap HCB.out)).trans k2
        have hcb5:=(hB5.block _ (lt_of_heap HCB.out)).trans HCB.out
        have b0:w5.cell? ⟨wc.heap.size,0,none⟩=some (.bool fw):=cell_of hcb5 rfl
        have b1:w5.cell? ⟨wc.heap.size,1,none⟩=some (.int .i64 p):=cell_of hcb5 rfl
        have b3:w5.cell? ⟨wc.heap.size,3,none⟩=some (.slice va2 (gI K p j).length vc2):=cell_of hcb5 rfl
        have bf:∀ i,w5.frozen? ⟨wc.heap.size,i,none⟩=false:=fun i=>free_of hcb5
        have hR5:=(hB5.block _ (lt_of_heap HRR.out)).trans HRR.out
        have m0:w5.cell? ⟨w.heap.size,0,none⟩=some (.bool false):=cell_of hR5 rfl
        have m1:w5.cell? ⟨w.heap.size,1,none⟩=some (.int .i64 0):=cell_of hR5 rfl
        have m2:w5.cell? ⟨w.heap.size,2,none⟩=some (.int .i64 0):=cell_of hR5 rfl
        have m3:w5.cell? ⟨w.heap.size,3,none⟩=some (.slice none 0 0):=cell_of hR5 rfl
        have mf:∀ i,w5.frozen? ⟨w.heap.size,i,none⟩=false:=fun i=>free_of hR5
        have HNL:=Lib.hid hnl
        have HXL:=Lib.hid hxl
        have HB5:=Lib.hid hB5
        have HCB5:=Lib.hid hcb5
        clear hnl hxl hR5 hcb5
        rcases hlv.2 with ⟨rfl,hz⟩ |⟨gl,capl,cur,rfl,hgl1,hgl2,hgl3,hgl4,hgl5,hgl6⟩
        ·subst hz
         clear hlv hB5
         go_wp2_with fail
         obtain⟨W5,e1,e5,hb5',hcm,hrow⟩:=HEND.out _ HB5.out (.inr (List.length_eq_zero_iff.1 HNL.out))
         have z0:W5.cell? ⟨w.heap.size,0,none⟩=some (.bool fw):=cell_of e5 rfl
         have z1:W5.cell? ⟨w.heap.size,1,none⟩=some (.int .i64 p):=cell_of e5 rfl
         have z2:W5.cell? ⟨w.heap.size,2,none⟩=some (.int .i64 j):=cell_of e5 rfl
         have z3:W5.cell? ⟨w.heap.size,3,none⟩=some (.slice va2 (gI K p j).length vc2):=cell_of e5 rfl
         rw[e1]
         exact bodyPost_ret (v:=.tuple #[.agg #[.bool fw,.int .i64 p,.int .i64 j,.slice va2 (gI K p j).length vc2],.bool true]) (by simp[results,Tryz.results113,go_sem,z0,z1,z2,z3]) rfl ⟨.inr ⟨⟨fw,p,j,gI K p j⟩,_,rfl,hcm,hrow⟩,hb5'⟩
        ·rcases Nat.eq_zero_or_pos nl with hz | hz
         ·subst hz
          clear hlv hB5 hgl1 hgl2 hgl3 hgl4 hgl5 hgl6
          go_wp2_with fail
          obtain⟨W5,e1,e5,hb5',hcm,hrow⟩:=HEND.out _ HB5.out (.inr (List.length_eq_zero_iff.1 HNL.out))
          have z0:W5.cell? ⟨w.heap.size,0,none⟩=some (.bool fw):=cell_of e5 rfl
          have z1:W5.cell? ⟨w.heap.size,1,none⟩=some (.int .i64 p):=cell_of e5 rfl
          have z2:W5.cell? ⟨w.heap.size,2,none⟩=some (.int .i64 j):=cell_of e5 rfl
          have z3:W5.cell? ⟨w.heap.size,3,none⟩=some (.slice va2 (gI K p j).length vc2):=cell_of e5 rfl
          rw[e1]
          exact bodyPost_ret (v:=.tuple #[.agg #[.bool fw,.int .i64 p,.int .i64 j,.slice va2 (gI K p j).length vc2],.bool true]) (by simp[results,Tryz.results113,go_sem,z0,z1,z2,z3]) rfl ⟨.inr ⟨⟨fw,p,j,gI K p j⟩,_,rfl,hcm,hrow⟩,hb5'⟩
         ·have hzI:¬((nl:Int)=0):=by omega
          obtain⟨no,hno⟩:∃ no,(gI K p j).length=no:=⟨_,rfl⟩
          obtain⟨xo,hxo⟩:∃ xo,(gI K p j).map (fun n=>Value.int .i64 n)=xo:=⟨_,rfl⟩
          have hno6:no<=j*1000000:=hno ▸ gI_len HKL.out p j
          have hv5:=ownsRow_chg HV.out (chgB hB5 fun _=>False) fun _ _ z=>z
          rw[hno,hxo]at hv5
          rw[hno]at b3
          have hnews:∀ j u,xl[j]?=some u->w5.cell? ((⟨gl,0,none⟩:Addr).add j)=some u:=fun j u hu=>World.news_of_block hgl2 j u (by
           rw[<-hgl6,List.getElem?_take]at hu
           split at hu
           ·exact hu
           ·cases hu)
          have hone:∀ u∈xl,u.oneCell'=true:=by
           rw[<-HXL.out]
           intro u hu
           obtain⟨e,_,rfl⟩:=List.mem_map.1 hu
           rfl
          have hxll:xl.length=nl*1:=hlv.1
          have hsz3:WA.heap.size<=w5.heap.size:=Nat.le_trans hC.out.size hB5.size
          have hcv:(Value.slice va2 no vc2).ownBlock≠some wc.heap.size:=fun hk=>by
           have:=(hv5.lt _ hk).1
           rw[HSA.out]at this;omega
          have HNO:=Lib.hid hno
          have HXO:=Lib.hid hxo
          have HNW:=Lib.hid hnews
          have HON:=Lib.hid hone
          have HV5:=Lib.hid hv5
          have HXLL:=Lib.hid hxll
          clear hnews hone hno hxo hv5 hlv hB5 hgl1 hgl2 hgl3 hgl4 hgl5 hgl6 hxll
          go_wp2_with (at_builtin;refine wpList_append_own _ rfl _ _ 24 rfl WA.heap.size 3 i0 (.int .i64 0) 1 8 Tryx.underlying24 hi hz0 hz1 hz2 rfl (by decide) _ _ _ rfl HV5.out ⟨gl,0,none⟩ nl capl xl rfl HXLL.out HNW.out HON.out ?_ ?_ ?_ ?_)
          ·unfold maxLen;omega
          ·omega
          ·exact hsz3
          intro v' w7 hown' hgrow _
          obtain⟨va7,vc7,rfl⟩:=own_slice hown'
          have hcb7:w7.heap[wc.heap.size]?=some (.cells #[.bool fw,.int .i64 p,.int .i64 j,.slice va2 (gI K p j).length vc2] 48 (0,0)):=(hgrow.block _ (lt_of_heap HCB5.out) (fun e=>hcv e.symm)).trans HCB5.out
          have d2:w7.cell? ⟨wc.heap.size,2,none⟩=some (.int .i64 j):=cell_of hcb7 rfl
          have d3:w7.cell? ⟨wc.heap.size,3,none⟩=some (.slice va2 (gI K p j).length vc2):=cell_of hcb7 rfl
          have df:∀ i,w7.frozen? ⟨wc.heap.size,i,none⟩=false:=fun i=>free_of hcb7
          have hC7:Chg (fun k=>k=wc.heap.size) WA w7:=(hC.out.of_below HB5.out).trans ⟨hgrow.os,hgrow.tape,hgrow.output,hgrow.size,fun k hk hn=>hgrow.block k hk fun e=>hn (.inr (HV5.out.lt k e.symm).1)⟩
          have hown7:w7.ownsRow WA.heap.size 3 1 (.slice va7 (no+nl) vc7) (gI K p (j+1)).length ((gI K p (j+1)).map fun n=>Value.int .i64 n):=by
           rw[gI_succ,List.length_append,List.map_append,HNO.out,HNL.out,HXO.out,HXL.out];exact hown'
          have hlen7:(gI K p (j+1)).length=no+nl:=by rw[gI_succ,List.length_append,HNO.out,HNL.out]
          have HCB7:=Lib.hid hcb7
          have HC7:=Lib.hid hC7
          have HO7:=Lib.hid hown7
          clear hown' hgrow hcb7 hC7 hown7 hlen7 b0 b1 b2 b3 bf m0 m1 m2 m3 mf
          go_wp2_with fail
          go_roundg (4 - j)
          case measure=>omega
          case rel=>
           refine⟨j+1,.slice va7 (no+nl) vc7,by omega,by omega,by omega,by omega,?_,?_,Lib.hid (fun i hi=>?_),?_⟩
           ·have:=heap_setCell (i:=2) (.int .i64 ((j:Int)+1)) (heap_setCell (i:=3) (.slice va7 (no+nl) vc7) HCB7.out)
            rw[show ((j+1:Nat):Int)=(j:Int)+1 from by omega]
            exact this
           ·exact ownsRow_setCell_below (ownsRow_setCell_below HO7.out (a:=⟨wc.heap.size,3,none⟩) (by show wc.heap.size<WA.heap.size;rw[HSA.out];omega) _) (a:=⟨wc.heap.size,2,none⟩) (by show wc.heap.size<WA.heap.size;rw[HSA.out];omega) _
           ·rcases Nat.lt_or_ge i j with h | h
            ·exact hall.out i h
            ·rw[show i=j from by omega]
             intro h0
             have:=HNL.out
             rw[h0]at this
             simp at this;omega
           ·exact Lib.hid ((HC7.out.setCell (p:=⟨wc.heap.size,3,none⟩) (.inl rfl) _).setCell (p:=⟨wc.heap.size,2,none⟩) (.inl rfl) _)
       ·have hst:j=min 4 (16 - p):=by omega
        have HST:=Lib.hid hst
        by_cases hgo1:j<4
        ·have a1:(j:Int)<4:=by omega
         have a2:¬(p:Int)+(j:Int)<16:=by omega
         clear hgo hst
         go_wp2_with fail
         obtain⟨W5,e1,e5,hb5',hcm,hrow⟩:=HEND.out _ (Below.refl _ _) (.inl HST.out)
         have z0:W5.cell? ⟨w.heap.size,0,none⟩=some (.bool fw):=cell_of e5 rfl
         have z1:W5.cell? ⟨w.heap.size,1,none⟩=some (.int .i64 p):=cell_of e5 rfl
         have z2:W5.cell? ⟨w.heap.size,2,none⟩=some (.int .i64 j):=cell_of e5 rfl
         have z3:W5.cell? ⟨w.heap.size,3,none⟩=some (.slice va2 (gI K p j).length vc2):=cell_of e5 rfl
         rw[e1]
         exact bodyPost_ret (v:=.tuple #[.agg #[.bool fw,.int .i64 p,.int .i64 j,.slice va2 (gI K p j).length vc2],.bool true]) (by simp[results,Tryz.results113,go_sem,z0,z1,z2,z3]) rfl ⟨.inr ⟨⟨fw,p,j,gI K p j⟩,_,rfl,hcm,hrow⟩,hb5'⟩
        ·have a1:¬(j:Int)<4:=by omega
         clear hgo hst
         go_wp2_with fail
         obtain⟨W5,e1,e5,hb5',hcm,hrow⟩:=HEND.out _ (Below.refl _ _) (.inl HST.out)
         have z0:W5.cell? ⟨w.heap.size,0,none⟩=some (.bool fw):=cell_of e5 rfl
         have z1:W5.cell? ⟨w.heap.size,1,none⟩=some (.int .i64 p):=cell_of e5 rfl
         have z2:W5.cell? ⟨w.heap.size,2,none⟩=some (.int .i64 j):=cell_of e5 rfl
         have z3:W5.cell? ⟨w.heap.size,3,none⟩=some (.slice va2 (gI K p j).length vc2):=cell_of e5 rfl
         rw[e1]
         exact bodyPost_ret (v:=.tuple #[.agg #[.bool fw,.int .i64 p,.int .i64 j,.slice va2 (gI K p j).length vc2],.bool true]) (by simp[results,Tryz.results113,go_sem,z0,z1,z2,z3]) rfl ⟨.inr ⟨⟨fw,p,j,gI K p j⟩,_,rfl,hcm,hrow⟩,hb5'⟩
  ·have hcn:=cmd_idle hbg
   have HCN:=Lib.hid hcn
   have hB2':=HB1.out.trans (hB2.mono HB1.out.size)
   obtain⟨W5,e1,e5,hB5⟩:=HNONE.out W2 hB2'
   have hrd:=(hB2'.block _ (lt_of_heap HR0.out)).trans HR0.out
   have s0:W2.cell? ⟨w.heap.size,0,none⟩=some (.bool false):=cell_of hrd rfl
   have s1:W2.cell? ⟨w.heap.size,1,none⟩=some (.int .i64 0):=cell_of hrd rfl
   have s2:W2.cell? ⟨w.heap.size,2,none⟩=some (.int .i64 0):=cell_of hrd rfl
   have s3:W2.cell? ⟨w.heap.size,3,none⟩=some (.slice none 0 0):=cell_of hrd rfl
   have sf:∀ i,W2.frozen? ⟨w.heap.size,i,none⟩=false:=fun i=>free_of hrd
   have HB5:=Lib.hid hB5
   have HE1:=Lib.hid e1
   have HE5:=Lib.hid e5
   clear hcn hbg hB2 hB2' hB5 e1 e5 hrd
   go_wp2_with fail
   rw[HE1.out]
   have z0:W5.cell? ⟨w.heap.size,0,none⟩=some (.bool false):=cell_of HE5.out rfl
   have z1:W5.cell? ⟨w.heap.size,1,none⟩=some (.int .i64 0):=cell_of HE5.out rfl
   have z2:W5.cell? ⟨w.heap.size,2,none⟩=some (.int .i64 0):=cell_of HE5.out rfl
   have z3:W5.cell? ⟨w.heap.size,3,none⟩=some (.slice none 0 0):=cell_of HE5.out rfl
   exact bodyPost_ret (v:=.tuple #[noCmd,.bool false]) (by simp[results,Tryz.results113,go_sem,z0,z1,z2,z3]) rfl ⟨.inl ⟨rfl,HCN.out⟩,HB5.out⟩
theorem find_numR{rs:List Req}(hs:rs.Pairwise (·.num < ·.num)){r:Req}(hr:r∈rs):rs.find? (fun x=>x.num == r.num)=some r:=by
 induction rs with
 | nil=>cases hr
 | cons a rs ih=>
   rw[List.pairwise_cons]at hs
   rcases List.mem_cons.1 hr with rfl | hr
   ·simp[List.find?]
   ·have hne:(a.num == r.num)=false:=by
     rw[beq_eq_false_iff_ne]
     have:=hs.1 r hr
     omega
    rw[List.find?_cons,hne]
    exact ih hs.2 hr
theorem nodup_part:∀ {cs:List Cmd} {c:Cmd},(cs.flatMap (·.nums)).Nodup->c∈cs->c.nums.Nodup
 | a :: cs,c,h,hc=>by
   rw[List.flatMap_cons,List.nodup_append]at h
   rcases List.mem_cons.1 hc with rfl | hc
   ·exact h.1
   ·exact nodup_part h.2.1 hc
def St.disked(t:St)(D:List Int):St:={t with disk:=D}
theorem crash_r(w:World){q:Nat}{t:St}{G:Nat->Prop}(h:RT w q t G)(hk:t.Ok)(hsm:t.Small)(v:Value)(b:List Bool)(hB:BRow w v b)(hv:∀ k,v.ownBlock=some k->¬G k):
  Calls Tryx.prog 96 #[ptr q,v] w fun y w'=>y=.returned (.tuple #[])/\RT w' q (t.crash fun i=>b.getD i false) G/\Chg G w w':=by
 obtain⟨l,told,fs,rv,tv,fv,dv,h1,h2,h3⟩:=h
 obtain⟨fa,fc,rfl⟩:=own_slice h1.fls.row
 obtain⟨va,vc,rfl⟩:=own_slice hB
 obtain⟨n,hn⟩:∃ n,fs.length=n:=⟨_,rfl⟩
 have hn4:n<=4:=by have:=hk.len;have:=hk.a.depth;rw[<-h1.fcs,List.length_map]at *;omega
 obtain⟨hll,_⟩:=rlen_okA hk.a h2 hsm.last
 have hdl:t.disk.length=64:=hk.a.dlen
 have hnums:=hk.a.rs.nums
 have hmc:∀ c∈fs,c.1∈t.cs:=fun c hc=>by rw[<-h1.fcs];exact List.mem_map_of_mem hc
 have hfly:∀ c∈fs,c.1.write=true->∀ m∈c.1.nums,∃ (k:Nat) (x:RR),l[k]?=some x/\x.r.num=m/\x.data=str4 x.r.data/\BOk x.r.data/\(0<=x.r.page/\x.r.page<16)/\(∀ y∈l.take k,y.r.num≠m)/\t.rs.find? (fun r=>r.num == m)=some x.r:=fun c hc hw m hm=>by
  obtain⟨o,ho,hon,how,_⟩:=(hk.cmds c.1 (hmc c hc)).ins m hm
  obtain⟨k,hkk⟩:=List.mem_iff_getElem?.1 ho
  obtain⟨x,hx,rfl⟩:=h2.back hkk
  have hrok:=hk.a.rs.ok x.r ho
  refine⟨k,x,hx,hon,(h2.ok x (List.mem_of_getElem? hx)).data (how.trans hw),hrok.byte,hrok.page,fun y hy=>?_,?_⟩
  ·have hy2:y.r∈t.rs.take k:=by
    rw[<-h2.rs,<-List.map_take]
    exact List.mem_map_of_mem hy
   have:=(sorted_take hnums hkk).1 y.r hy2
   omega
  ·rw[<-hon];exact find_numR hnums ho
 have hnl:∀ c∈fs,c.1.nums.length<=1000000:=fun c hc=>by
  have hnd:c.1.nums.Nodup:=by
   have:=hk.a.rs.nodup
   exact nodup_part this (hmc c hc)
  have h5:(c.1.nums.length:Nat)<=(t.rs.map (·.num)).length:=len_sub c.1.nums hnd _ fun a ha=>by
   obtain⟨r,hr,hrn,_⟩:=(hk.cmds c.1 (hmc c hc)).ins a ha
   rw[<-hrn]
   exact List.mem_map_of_mem hr
  rw[List.length_map,<-h2.len]at h5
  omega
 have c3:=h1.c3
 rw[hn]at c3
 have HR:=Lib.hid h1
 have H2:=Lib.hid h2
 have H3:=Lib.hid h3
 have HB:=Lib.hid hB
 have HV:=Lib.hid hv
 have HFL:=Lib.hid hfly
 have HNL:=Lib.hid hnl
 have HK:=Lib.hid hk
 have HN:=Lib.hid hn
 have HDL:=Lib.hid hdl
 clear h1 h2 h3 hB hv hfly hnl hk hn hdl hsm hnums hmc
 go_enter Tryx.func96,Tryz.ntmps96
 go_wp2_with fail
 go_loopg [4,5] n (fun k nv i wr=>∃ (j:Nat),k=n - j/\j<=n/\i=.int .i64 j/\nv=.int .i64 (wnums fs j).length/\Hid (RB wr q (t.disked (St.kept t.rs (wnums fs j) (fun i=>b.getD i false) 0 t.disk)) l told fs rv tv (.slice fa fs.length fc) dv/\Chg (fun k=>dv.ownBlock=some k) w wr)/\(wnums fs j).length<=1000000*j)
 case atStart=>exact ⟨0,by simp,by omega,rfl,rfl,Lib.hid ⟨HR.out,Chg.refl _ _⟩,by simp[wnums]⟩
 case round=>
  obtain⟨j,rfl,hj,rfl,rfl,hQ,hle⟩:=hrel
  have b3:=hQ.out.1.c3
  rw[HN.out]at b3
  by_cases hlt:j<n
  ·have hltI:(j:Int)<(n:Int):=by omega
   have hj0:(0:Int)<=(j:Int):=by omega
   obtain⟨⟨c,cv⟩,hc⟩:∃ c,fs[j]?=some c:=⟨_,List.getElem?_eq_getElem (by have:=HN.out;omega)⟩
   have hcm:(c,cv)∈fs:=List.mem_of_getElem? hc
   obtain⟨ra,rc,rfl⟩:∃ ra rc,cv=.slice ra c.nums.length rc:=own_slice (hQ.out.1.fls.rows _ hcm)
   obtain⟨g,cap,e,_,hgl,hcell⟩:=cmd_cells hQ.out.1.fls.row hc
   simp only[Value.slice.injEq]at e
   obtain⟨rfl,_,rfl⟩:=e
   obtain⟨wo,rfl⟩:∃ z,z=wr:=⟨_,rfl⟩
   have p0:wo.cell? ⟨g,j*4,none⟩=some (.bool c.write):=hcell 0 _ rfl
   have p1:wo.cell? ⟨g,j*4+1,none⟩=some (.int .i64 c.page):=hcell 1 _ rfl
   have p2:wo.cell? ⟨g,j*4+2,none⟩=some (.int .i64 c.count):=hcell 2 _ rfl
   have p3:wo.cell? ⟨g,j*4+3,none⟩=some (.slice ra c.nums.length rc):=hcell 3 _ rfl
   have hsucc:=wnums_succ hc
   obtain⟨m,hm⟩:∃ m,c.nums.length=m:=⟨_,rfl⟩
   have hm6:=HNL.out _ hcm
   simp only at hm6
   rw[hm]at p3 hm6
   obtain⟨cw,hcw⟩:∃ cw,c.write=cw:=⟨_,rfl⟩
   rw[hcw]at p0
   have hfly:=HFL.out _ hcm
   simp only at hfly
   rw[hcw]at hfly
   have hql:=lt_of_heap hQ.out.1.que
   obtain⟨W0,hW0⟩:∃ W0,wo.alloc (.cells #[.bool cw,.int .i64 c.page,.int .i64 c.count,.slice ra m rc] 48)=W0:=⟨_,rfl⟩
   have hcb:W0.heap[wo.heap.size]?=some (.cells #[.bool cw,.int .i64 c.page,.int .i64 c.count,.slice ra m rc] 48 (0,0)):=by rw[<-hW0];exact World.alloc_heap_new _ _
   have hb0:Below wo.heap.size wo W0:=by rw[<-hW0];exact (Below.refl _ _).alloc (Nat.le_refl _) _
   have hR0:=hQ.out.1.below hb0
   have hC0:Chg (fun k=>dv.ownBlock=some k) w W0:=hQ.out.2.trans (chgB hb0 _)
   have hnv:∀ k,(Value.slice ra c.nums.length rc).ownBlock=some k->dv.ownBlock≠some k:=fun k hk=>(hR0.ne_cv hcm hk).2.2.2.2
   have hdb:dv.ownBlock≠some wo.heap.size:=fun e=>by
    obtain⟨cur,hcur⟩:=own_heap hQ.out.1.dsk e
    have:=lt_of_heap hcur;omega
   obtain⟨b0,hb0'⟩:∃ b0,(wnums fs j).length=b0:=⟨_,rfl⟩
   have HC:=Lib.hid hcm
   have HSU:=Lib.hid (hsucc.trans (by rw[hcw]))
   have HM:=Lib.hid hm
   have HR0:=Lib.hid hR0
   have HC0:=Lib.hid hC0
   have HCB:=Lib.hid hcb
   have HW0:=Lib.hid hW0
   have HFY:=Lib.hid hfly
   have HDB:=Lib.hid hdb
   have HB0:=Lib.hid hb0'
   rw[hb0']at hle
   rw[hb0']
   clear hcell hc hcm hsucc hm hR0 hC0 hcb hW0 hb0 hcw hfly hnv hdb hb0'
   go_upto_region 4 with fail
   go_wp2_with fail
   rw[HW0.out]
   go_loopg [4,7] m (fun kk nv iv wx=>∃ (i k:Nat),kk=m - i/\i<=m/\k=b0+i/\iv=.int .i64 i/\nv=.int .i64 k/\(cw=false->i=0)/\Hid (RB wx q (t.disked (St.kept t.rs (wnums fs j ++ c.nums.take i) (fun i=>b.getD i false) 0 t.disk)) l told fs rv tv (.slice (some ⟨g,0,none⟩) fs.length fc) dv)/\Hid (Chg (fun k=>dv.ownBlock=some k) W0 wx))
   case atStart=>exact ⟨0,b0,by simp,by omega,rfl,rfl,rfl,fun _=>rfl,Lib.hid (by simpa using HR0.out),Lib.hid (Chg.refl _ _)⟩
   case round=>
    obtain⟨i,k,rfl,hi,hki,rfl,rfl,hcwi,hQi,hCi⟩:=hrel
    have hcbx:=(hCi.out.block _ (lt_of_heap HCB.out) HDB.out).trans HCB.out
    have q0:wr.cell? ⟨wo.heap.size,0,none⟩=some (.bool cw):=cell_of hcbx rfl
    have q3:wr.cell? ⟨wo.heap.size,3,none⟩=some (.slice ra m rc):=cell_of hcbx rfl
    have hk1:k<=1001000000:=by omega
    have hrowx:=hQi.out.fls.rows _ HC.out
    simp only at hrowx
    rw[HM.out]at hrowx
    have HCBX:=Lib.hid hcbx
    have HROW:=Lib.hid hrowx
    clear hcbx hrowx
    by_cases hilt:i<m
    ·have hiltI:(i:Int)<(m:Int):=by omega
     have hi0I:(0:Int)<=(i:Int):=by omega
     cases cw with
     | false=>
       have hi0:=hcwi rfl
       subst hi0
       go_wp2_with fail
       go_roundg (n - (j+1))
       case measure=>omega
       case rel=>
        have hw1:wnums fs (j+1)=wnums fs j:=by rw[HSU.out];simp
        refine⟨j+1,rfl,by omega,by go_num,?_,?_,?_⟩
        ·rw[hw1,HB0.out]
        ·rw[hw1];exact Lib.hid ⟨by simpa using hQi.out,HC0.out.then hCi.out⟩
        ·rw[hw1,HB0.out];omega
     | true=>
       obtain⟨num,hnum⟩:∃ num,c.nums[i]?=some num:=⟨_,List.getElem?_eq_getElem (by rw[HM.out];exact hilt)⟩
       obtain⟨k2,x,hkx,hxn,hxd,hxb,hxp,hno,hfind⟩:=HFY.out rfl num (List.mem_of_getElem? hnum)
       obtain⟨rg,rfl,hrgl,_,hcvi⟩:=row_at HROW.out (j:=i) (x:=.int .i64 num) (by rw[List.getElem?_map,hnum];rfl) (by rw[List.length_map,HM.out])
       have htake:c.nums.take (i+1)=c.nums.take i ++ [num]:=by
        obtain⟨h1,h2⟩:=List.getElem?_eq_some_iff.1 hnum
        rw[List.take_succ_eq_append_getElem h1,h2]
       have hkept:St.kept t.rs (wnums fs j ++ c.nums.take (i+1)) (fun i=>b.getD i false) 0 t.disk=St.kept t.rs [num] (fun i=>b.getD i false) k (St.kept t.rs (wnums fs j ++ c.nums.take i) (fun i=>b.getD i false) 0 t.disk):=by
        rw[htake,<-List.append_assoc,kept_app,Nat.zero_add,List.length_append,List.length_take,HB0.out,HM.out,Nat.min_eq_left hi,<-hki]
       obtain⟨D,hD⟩:∃ D,St.kept t.rs (wnums fs j ++ c.nums.take i) (fun i=>b.getD i false) 0 t.disk=D:=⟨_,rfl⟩
       have hDl:D.length=64:=by rw[<-hD,kept_len];exact HDL.out
       rw[hD]at hkept hQi
       obtain⟨g2,cap2,e2,hgl2,_,hcell⟩:=hQi.out.req hkx
       obtain⟨ra2,rc2,rfl⟩:=own_slice hQi.out.reqs
       simp only[Value.slice.injEq]at e2
       obtain⟨rfl,hdrop,rfl⟩:=e2
       clear hdrop
       have hkl:k2<l.length:=(List.getElem?_eq_some_iff.1 hkx).1
       have hklI:(k2:Int)<(l.length:Int):=by omega
       have hk0:(0:Int)<=(k2:Int):=by omega
       have p0:wr.cell? ⟨g2,k2*10,none⟩=some (.int .i64 x.r.num):=hcell 0 _ rfl
       have p1:wr.cell? ⟨g2,k2*10+1,none⟩=some (.bool x.r.write):=hcell 1 _ rfl
       have p2:wr.cell? ⟨g2,k2*10+2,none⟩=some (.int .i64 x.r.page):=hcell 2 _ rfl
       have p3:wr.cell? ⟨g2,k2*10+3,none⟩=some (.string x.data):=hcell 3 _ rfl
       have p4:wr.cell? ⟨g2,k2*10+4,none⟩=some (.int .i64 x.r.state):=hcell 4 _ rfl
       have p5:wr.cell? ⟨g2,k2*10+5,none⟩=some (.int .i64 x.r.tries):=hcell 5 _ rfl
       have p6:wr.cell? ⟨g2,k2*10+6,none⟩=some (.int .i64 x.r.after):=hcell 6 _ rfl
       have p7:wr.cell? ⟨g2,k2*10+7,none⟩=some (.bool x.r.alone):=hcell 7 _ rfl
       have p8:wr.cell? ⟨g2,k2*10+8,none⟩=some (.bool x.r.inAir):=hcell 8 _ rfl
       have p9:wr.cell? ⟨g2,k2*10+9,none⟩=some (.string x.answer):=hcell 9 _ rfl
       have e1:=hQi.out.c1
       have hql2:=lt_of_heap hQi.out.que
       have hcbl:=lt_of_heap HCBX.out
       have hgn1:g2≠wr.heap.size:=by omega
       have hqn1:q≠wr.heap.size:=by omega
       have hwn1:wo.heap.size≠wr.heap.size:=by omega
       have hrn1:rg≠wr.heap.size:=by omega
       have hgn2:=hgn1.symm
       have hqn2:=hqn1.symm
       have hwn2:=hwn1.symm
       have hrn2:=hrn1.symm
       have HAT:=Lib.hid (fun W (hb:Below wr.heap.size wr W)=>at_r num W (hQi.out.below hb) hll hkx hxn hno)
       have HKI:=Lib.hid hki
       have HKP:=Lib.hid hkept
       have HXF:=Lib.hid (And.intro hxd (And.intro hxb (And.intro hxp hfind)))
       have HD:=Lib.hid hDl
       clear hcell hkx hxn hxd hxb hxp hno hfind hkept htake hD hDl hnum hki
       go_upto_region 8 with fail
       go_cut [8]from 36 to 49 (fun s8 wx=>∃ (b5:Nat),s8=ptr b5/\wr.heap.size<=b5/\wx.heap[b5]?=some (.cells #[.int .i64 x.r.num,.bool x.r.write,.int .i64 x.r.page,.string x.data,.int .i64 x.r.state,.int .i64 x.r.tries,.int .i64 x.r.after,.bool x.r.alone,.bool x.r.inAir,.string x.answer] 191 (0,0))/\Hid (Below wr.heap.size wr wx))
       case first=>
        go_region_held3 (fun w'=>w'.cell? ⟨q,1,none⟩=some (.slice (some ⟨g2,0,none⟩) l.length rc2)/\w'.cell? ⟨wo.heap.size,3,none⟩=some (.slice (some ⟨rg,0,none⟩) m rc)/\w'.cell? ⟨rg,i,none⟩=some (.int .i64 num)/\w'.cell? ⟨g2,k2*10,none⟩=some (.int .i64 x.r.num)/\w'.cell? ⟨g2,k2*10+1,none⟩=some (.bool x.r.write)/\w'.cell? ⟨g2,k2*10+2,none⟩=some (.int .i64 x.r.page)/\w'.cell? ⟨g2,k2*10+3,none⟩=some (.string x.data)/\w'.cell? ⟨g2,k2*10+4,none⟩=some (.int .i64 x.r.state)/\w'.cell? ⟨g2,k2*10+5,none⟩=some (.int .i64 x.r.tries)/\w'.cell? ⟨g2,k2*10+6,none⟩=some (.int .i64 x.r.after)/\w'.cell? ⟨g2,k2*10+7,none⟩=some (.bool x.r.alone)/\w'.cell? ⟨g2,k2*10+8,none⟩=some (.bool x.r.inAir)/\w'.cell? ⟨g2,k2*10+9,none⟩=some (.string x.answer)) (go_keep)
         (first
         | (go_at_call 110;refine (HAT.out _ (by go_grown)).mono ?_;rintro y w3 ⟨rfl,hB3⟩
            have hB4:Below wr.heap.size wr w3:=Below.trans (by go_grown) (hB3.mono (by simp))
            have v0:w3.cell? ⟨g2,k2*10,none⟩=some (.int .i64 x.r.num):=(hB4.cell (p:=⟨g2,k2*10,none⟩) hgl2).trans p0
            have v1:w3.cell? ⟨g2,k2*10+1,none⟩=some (.bool x.r.write):=(hB4.cell (p:=⟨g2,k2*10+1,none⟩) hgl2).trans p1
            have v2:w3.cell? ⟨g2,k2*10+2,none⟩=some (.int .i64 x.r.page):=(hB4.cell (p:=⟨g2,k2*10+2,none⟩) hgl2).trans p2
            have v3:w3.cell? ⟨g2,k2*10+3,none⟩=some (.string x.data):=(hB4.cell (p:=⟨g2,k2*10+3,none⟩) hgl2).trans p3
            have v4:w3.cell? ⟨g2,k2*10+4,none⟩=some (.int .i64 x.r.state):=(hB4.cell (p:=⟨g2,k2*10+4,none⟩) hgl2).trans p4
            have v5:w3.cell? ⟨g2,k2*10+5,none⟩=some (.int .i64 x.r.tries):=(hB4.cell (p:=⟨g2,k2*10+5,none⟩) hgl2).trans p5
            have v6:w3.cell? ⟨g2,k2*10+6,none⟩=some (.int .i64 x.r.after):=(hB4.cell (p:=⟨g2,k2*10+6,none⟩) hgl2).trans p6
            have v7:w3.cell? ⟨g2,k2*10+7,none⟩=some (.bool x.r.alone):=(hB4.cell (p:=⟨g2,k2*10+7,none⟩) hgl2).trans p7
            have v8:w3.cell? ⟨g2,k2*10+8,none⟩=some (.bool x.r.inAir):=(hB4.cell (p:=⟨g2,k2*10+8,none⟩) hgl2).trans p8
            have v9:w3.cell? ⟨g2,k2*10+9,none⟩=some (.string x.answer):=(hB4.cell (p:=⟨g2,k2*10+9,none⟩) hgl2).trans p9
            have hy1:w3.cell? ⟨q,1,none⟩=some (.slice (some ⟨g2,0,none⟩) l.length rc2):=(hB4.cell (p:=⟨q,1,none⟩) hql2).trans e1
            have hy2:w3.cell? ⟨wo.heap.size,3,none⟩=some (.slice (some ⟨rg,0,none⟩) m rc):=(hB4.cell (p:=⟨wo.heap.size,3,none⟩) hcbl).trans q3
            have hy3:w3.cell? ⟨rg,i,none⟩=some (.int .i64 num):=(hB4.cell (p:=⟨rg,i,none⟩) hrgl).trans hcvi
            have hz2:=hB3.size
            try simp at hz2
            have hm1:q<w3.heap.size:=Nat.lt_of_lt_of_le hql2 hB4.size
            have hm3:q≠w3.heap.size:=by omega
            have hgl3:g2<w3.heap.size:=Nat.lt_of_lt_of_le hgl2 hB4.size
            have hm4:g2≠w3.heap.size:=by omega
            have hm5:=hm3.symm
            have hm6:=hm4.symm
            have hcbl3:wo.heap.size<w3.heap.size:=Nat.lt_of_lt_of_le hcbl hB4.size
            have hrgl3:rg<w3.heap.size:=Nat.lt_of_lt_of_le hrgl hB4.size
            have hm8:wo.heap.size≠w3.heap.size:=by omega
            have hm9:rg≠w3.heap.size:=by omega
            have hm10:=hm8.symm
            have hm11:=hm9.symm
            have hm7:wr.heap.size≠q:=by omega
            try (have zblk:w3.heap[wr.heap.size]?=some (.cells #[.int .i64 0,.bool false,.int .i64 0,.string ⟨#[]⟩,.int .i64 0,.int .i64 0,.int .i64 0,.bool false,.bool false,.string ⟨#[]⟩] 191 (0,0)):=?zval;case zval=>((refine (hB3.block _ (by simp)).trans ?_);exact World.alloc_heap_new _ _))
            try (have zc0:w3.cell? ⟨wr.heap.size,0,none⟩=some (.int .i64 0):=?zval;case zval=>(exact cell_of zblk rfl))
            try (have zc1:w3.cell? ⟨wr.heap.size,1,none⟩=some (.bool false):=?zval;case zval=>(exact cell_of zblk rfl))
            try (have zc2:w3.cell? ⟨wr.heap.size,2,none⟩=some (.int .i64 0):=?zval;case zval=>(exact cell_of zblk rfl))
            try (have zc3:w3.cell? ⟨wr.heap.size,3,none⟩=some (.string ⟨#[]⟩):=?zval;case zval=>(exact cell_of zblk rfl))
            try (have zc4:w3.cell? ⟨wr.heap.size,4,none⟩=some (.int .i64 0):=?zval;case zval=>(exact cell_of zblk rfl))
            try (have zc5:w3.cell? ⟨wr.heap.size,5,none⟩=some (.int .i64 0):=?zval;case zval=>(exact cell_of zblk rfl))
            try (have zc6:w3.cell? ⟨wr.heap.size,6,none⟩=some (.int .i64 0):=?zval;case zval=>(exact cell_of zblk rfl))
            try (have zc7:w3.cell? ⟨wr.heap.size,7,none⟩=some (.bool false):=?zval;case zval=>(exact cell_of zblk rfl))
            try (have zc8:w3.cell? ⟨wr.heap.size,8,none⟩=some (.bool false):=?zval;case zval=>(exact cell_of zblk rfl))
            try (have zc9:w3.cell? ⟨wr.heap.size,9,none⟩=some (.string ⟨#[]⟩):=?zval;case zval=>(exact cell_of zblk rfl))
            try (have zfr:∀ i,w3.frozen? ⟨wr.heap.size,i,none⟩=false:=?zval;case zval=>(exact fun i=>free_of zblk))
            try (have zlt:wr.heap.size<w3.heap.size:=?zval;case zval=>(exact lt_of_heap zblk))
            try (have HZ:=Lib.hid zblk;clear zblk)
            have HX:=Lib.hid hB4
            clear hB4))
        all_goals
         go_wp2_with fail
         go_meet
         case rel=>
          refine⟨_,rfl,?_,?_,?_⟩
          ·omega
          ·first
           | with_reducible exact World.alloc_heap_new _ _
           | exact rr_chain _ _ _ _ _ _ _ _ _ _ HZ.out
          ·refine Lib.hid (HX.out.trans ?_)
           repeat first | with_reducible exact Below.refl _ _ | with_reducible refine Below.alloc ?_ ?_ _ | with_reducible refine Below.setCell ?_ ?_ _
           all_goals (try dsimp only) <;> omega
       case rest=>
        obtain⟨b5,rfl,hb5,hx5,hBc⟩:=hcut
        obtain⟨hxd,hxb,hxp,hfind⟩:=HXF.out
        obtain⟨pg,hpg⟩:∃ pg:Nat,x.r.page=(pg:Int):=⟨x.r.page.toNat,by omega⟩
        have hpg16:pg<16:=by omega
        have y2:wc.cell? ⟨b5,2,none⟩=some (.int .i64 pg):=by rw[<-hpg];exact cell_of hx5 rfl
        have y3:wc.cell? ⟨b5,3,none⟩=some (.string x.data):=cell_of hx5 rfl
        have hRc:=hQi.out.below hBc.out
        have HPUT:=Lib.hid (put_r pg x.r.data x.data wc hRc HD.out hpg16 hxb hxd)
        have HRC:=Lib.hid hRc
        have HPG:=Lib.hid hpg
        have HFI:=Lib.hid hfind
        have HCC:=Lib.hid (hCi.out.trans (chgB hBc.out _))
        have hBB:=ownsRow_chg HB.out (HC0.out.then HCC.out) fun b hb hh=>HV.out b hb (H3.out _ (.inr (.inr (.inr (.inr (.inl hh))))))
        clear hxd hxb hxp hfind hpg hRc hx5
        by_cases hbl:k<b.length
        ·have hblI:(k:Int)<(b.length:Int):=by omega
         have hk0I:(0:Int)<=(k:Int):=by omega
         obtain⟨kg,rfl,_,hkc⟩:=BRow.cell hBB hbl
         cases hf:b.getD k false with
         | false=>
           rw[hf]at hkc
           have HFv:=Lib.hid hf
           clear hf hBB
           go_wp2_with fail
           go_roundg (m - (i+1))
           case measure=>omega
           case rel=>exact ⟨i+1,k+1,rfl,by omega,by rw[HKI.out];omega,by go_num,by go_num,(fun h=>by cases h),Lib.hid (by rw[HKP.out,show St.kept _ [num] _ k _=_ from by simp only[St.kept];exact if_neg (by rw[HFv.out];decide)];exact HRC.out),HCC⟩
         | true=>
           rw[hf]at hkc
           have HFv:=Lib.hid hf
           clear hf hBB
           go_wp2_with fail
           refine HPUT.out.mono ?_
           rintro yy w9 ⟨rfl,hR9,hC9⟩
           have HR9:=Lib.hid hR9
           have HC9:=Lib.hid (HCC.out.then hC9)
           clear hR9 hC9
           go_wp2_with fail
           go_roundg (m - (i+1))
           case measure=>omega
           case rel=>exact ⟨i+1,k+1,rfl,by omega,by rw[HKI.out];omega,by go_num,by go_num,(fun h=>by cases h),Lib.hid (by rw[HKP.out,show St.kept _ [num] _ k _=dput D pg x.r.data from by simp only[St.kept];rw[if_pos HFv.out,HFI.out];show dput D x.r.page x.r.data=_;rw[HPG.out]];exact HR9.out),HC9⟩
        ·have hblI:¬(k:Int)<(b.length:Int):=by omega
         clear hBB
         go_wp2_with fail
         go_roundg (m - (i+1))
         case measure=>omega
         case rel=>exact ⟨i+1,k+1,rfl,by omega,by rw[HKI.out];omega,by go_num,by go_num,(fun h=>by cases h),Lib.hid (by rw[HKP.out,show St.kept _ [num] _ k _=_ from by simp only[St.kept];exact if_neg (by rw[List.getD_eq_getElem?_getD,List.getElem?_eq_none (by omega)];decide)];exact HRC.out),HCC⟩
    ·obtain rfl:i=m:=by omega
     have hall:c.nums.take i=c.nums:=List.take_of_length_le (by rw[HM.out];exact Nat.le_refl _)
     have hw1:wnums fs (j+1)=wnums fs j ++ c.nums.take i:=by
      rw[HSU.out,hall]
      cases cw with
      | true=>rfl
      | false=>
        have:=hcwi rfl
        have h0:c.nums=[]:=List.eq_nil_of_length_eq_zero (by rw[HM.out];exact this)
        rw[h0];rfl
     have HW1:=Lib.hid hw1
     have HAL:=Lib.hid hall
     clear hall hw1 hcwi
     cases cw
     all_goals
      go_wp2_with fail
      go_roundg (n - (j+1))
      case measure=>omega
      case rel=>
       refine⟨j+1,rfl,by omega,by go_num,?_,?_,?_⟩
       ·rw[HW1.out,List.length_append,HB0.out,HAL.out,HM.out];go_num
       ·rw[HW1.out];exact Lib.hid ⟨hQi.out,HC0.out.then hCi.out⟩
       ·rw[HW1.out,List.length_append,HB0.out,HAL.out,HM.out];omega
  ·obtain rfl:j=n:=by omega
   have hw1:wnums fs j=(t.cs.filter (·.write)).flatMap (·.nums):=by
    unfold wnums
    rw[List.take_of_length_le (by have:=HN.out;omega),HR.out.fcs]
   have hQ1:=hQ.out.1
   have hQ2:=hQ.out.2
   rw[hw1]at hQ1
   have HQ1:=Lib.hid hQ1
   have HQ2:=Lib.hid hQ2
   have hfr:∀ i,wr.frozen? ⟨q,i,none⟩=false:=fun i=>free_of hQ1.que
   have d1:=hQ1.c1
   have d2:=hQ1.c2
   have d3:=hQ1.c3
   have d5:=hQ1.c5
   have hql:=lt_of_heap hQ1.que
   rw[HN.out]at d3
   obtain⟨ra,rc,rfl⟩:=own_slice hQ1.reqs
   obtain⟨ta,tc,rfl⟩:=own_slice hQ1.tol
   clear hQ1 hQ2 hw1 hQ
   go_wp2_with fail
   go_end0
   have hs:Chg (fun k=>k=q) wr ((((wr.setCell ⟨q,1,none⟩ (.slice none 0 0)).setCell ⟨q,2,none⟩ (.slice none 0 0)).setCell ⟨q,3,none⟩ (.slice none 0 0)).setCell ⟨q,5,none⟩ (.int .i64 0)):=(((chg_set _).then (chg_set _)).then (chg_set _)).then (chg_set _)
   have hq:=HQ1.out
   refine⟨rfl,⟨[],[],[],.slice none 0 0,.slice none 0 0,.slice none 0 0,dv,⟨?_,World.ownsRow_nil _ _ _ _,World.ownsRow_nil _ _ _ _,⟨World.ownsRow_nil _ _ _ _,(fun c hc=>by cases hc),List.Pairwise.nil⟩,rfl,?_,(fun c hc=>by cases hc)⟩,rrel_crash _,fun k hk=>?_⟩,?_⟩
   ·exact heap_setCell (i:=5) _ (heap_setCell (i:=3) _ (heap_setCell (i:=2) _ (heap_setCell (i:=1) _ hq.que)))
   ·exact ownsRow_chg hq.dsk hs fun k hk e=>(hq.ne_dv hk).1 e
   ·rcases hk with e | e | e | e | e |⟨x,hx,_⟩
    ·exact H3.out _ (.inl e)
    ·cases e
    ·cases e
    ·cases e
    ·exact H3.out _ (.inr (.inr (.inr (.inr (.inl e)))))
    ·cases hx
   ·exact (HQ2.out.mono fun k _ hk=>H3.out _ (.inr (.inr (.inr (.inr (.inl hk)))))).then (hs.mono fun k _ hk=>H3.out _ (.inl hk))
end
section
open Go.RowKit Go.Shelf Go.Lib
set_option maxRecDepth 100000
inductive ErrIs(w:World):Value->Int->Int->Int->Prop
 | nil:ErrIs w .nilIface 0 (-1) 0
 | kind (k:Int) (hk:0<=k/\k<=10):ErrIs w (errK k) k (-1) 0
 | req (b:Nat) (r t k:Int) (hk:0<=k/\k<=10) (h:ReqErr w b r t k):ErrIs w (errR b) k r t
theorem told_any{w:World}{err:Value}{k r t:Int}(hg:ErrVar w)(h:ErrIs w err k r t):Calls Tryx.prog 34 #[err] w fun e w'=>e=.returned (plErr k r t)/\Below w.heap.size w w':=by
 cases h with
 | nil=>exact told_nil w
 | kind k hk=>exact told_K k w hk hg
 | req b r t k hk h=>exact told_R b r t k w hk hg h
abbrev zErr:Obj:=.cells #[.int .i64 0,.int .i64 0,.int .i64 0,.bool false] 39
theorem err_set{W:World}{b:Nat}{x0 x1 x2 x3:Value}{t:TypeId}(y0 y1 y2 y3:Value)(h:W.heap[b]?=some (.cells #[x0,x1,x2,x3] t (0,0))):
  ((((W.setCell ⟨b,0,none⟩ y0).setCell ⟨b,1,none⟩ y1).setCell ⟨b,2,none⟩ y2).setCell ⟨b,3,none⟩ y3).heap[b]?=some (.cells #[y0,y1,y2,y3] t (0,0))/\
  Chg (fun k=>k=b) W ((((W.setCell ⟨b,0,none⟩ y0).setCell ⟨b,1,none⟩ y1).setCell ⟨b,2,none⟩ y2).setCell ⟨b,3,none⟩ y3):=
 ⟨heap_setCell (i:=3) _ (heap_setCell (i:=2) _ (heap_setCell (i:=1) _ (heap_setCell (i:=0) _ h))),(((chg_set _).then (chg_set _)).then (chg_set _)).then (chg_set _)⟩
theorem plRead_of(q:Nat)(page k r t:Int)(w:World)(P:Value->Value->World->Prop)
  (hM:Calls Tryx.prog 46 #[ptr q,.int .i64 page] (w.alloc zErr) fun x w'=>∃ X err,x=.returned (.tuple #[X,err])/\P X err w')
  (hP:∀ X err w',P X err w'->ErrVar w'/\ErrIs w' err k r t/\w'.heap[w.heap.size]?=some zErr):
  Calls Tryx.prog 25 #[ptr q,.int .i64 page] w fun x w'=>∃ X err w1,x=.returned (.tuple #[X,plErr k r t])/\P X err w1/\Chg (fun k=>k=w.heap.size) w1 w':=by
 have HM:=Lib.hid hM
 have HP:=Lib.hid hP
 clear hM hP
 go_enter Tryx.func25,Tryz.ntmps25
 go_wp2_with fail
 refine HM.out.mono ?_
 rintro x w1 ⟨X,err,rfl,hp⟩
 obtain⟨hg,he,hz⟩:=HP.out X err w1 hp
 have HT:=Lib.hid (told_any hg he)
 have HPP:=Lib.hid hp
 have HZ:=Lib.hid hz
 clear hp hg he hz
 go_wp2_with fail
 refine HT.out.mono ?_
 rintro x w2 ⟨rfl,hB⟩
 have hz2:w2.heap[w.heap.size]?=some zErr:=(hB.block _ (lt_of_heap HZ.out)).trans HZ.out
 have z0:w2.cell? ⟨w.heap.size,0,none⟩=some (.int .i64 0):=cell_of hz2 rfl
 have z1:w2.cell? ⟨w.heap.size,1,none⟩=some (.int .i64 0):=cell_of hz2 rfl
 have z2:w2.cell? ⟨w.heap.size,2,none⟩=some (.int .i64 0):=cell_of hz2 rfl
 have z3:w2.cell? ⟨w.heap.size,3,none⟩=some (.bool false):=cell_of hz2 rfl
 have zf:∀ i,w2.frozen? ⟨w.heap.size,i,none⟩=false:=fun i=>free_of hz2
 have HB:=Lib.hid hB
 have HZ2:=Lib.hid hz2
 clear hB hz2
 go_wp2_with fail
 obtain⟨e5,hc5⟩:=err_set (W:=w2) (.int .i64 k) (.int .i64 r) (.int .i64 t) (.bool true) HZ2.out
 obtain⟨W5,hW5⟩:∃ W5,((((w2.setCell ⟨w.heap.size,0,none⟩ (.int .i64 k)).setCell ⟨w.heap.size,1,none⟩ (.int .i64 r)).setCell ⟨w.heap.size,2,none⟩ (.int .i64 t)).setCell ⟨w.heap.size,3,none⟩ (.bool true))=W5:=⟨_,rfl⟩
 rw[hW5]at e5 hc5 ⊢
 have y0:W5.cell? ⟨w.heap.size,0,none⟩=some (.int .i64 k):=cell_of e5 rfl
 have y1:W5.cell? ⟨w.heap.size,1,none⟩=some (.int .i64 r):=cell_of e5 rfl
 have y2:W5.cell? ⟨w.heap.size,2,none⟩=some (.int .i64 t):=cell_of e5 rfl
 have y3:W5.cell? ⟨w.heap.size,3,none⟩=some (.bool true):=cell_of e5 rfl
 refine bodyPost_ret (v:=.tuple #[X,plErr k r t]) (by simp[results,Tryz.results25,go_sem,y0,y1,y2,y3]) rfl ⟨X,err,w1,rfl,HPP.out,(chgB HB.out _).then hc5⟩
theorem plWrite_of(q:Nat)(v:Value)(page k r t:Int)(w:World)(P:Value->Value->World->Prop)
  (hM:Calls Tryx.prog 60 #[ptr q,.int .i64 page,v] (w.alloc zErr) fun x w'=>∃ X err,x=.returned (.tuple #[X,err])/\P X err w')
  (hP:∀ X err w',P X err w'->ErrVar w'/\ErrIs w' err k r t/\w'.heap[w.heap.size]?=some zErr):
  Calls Tryx.prog 33 #[ptr q,.int .i64 page,v] w fun x w'=>∃ X err w1,x=.returned (.tuple #[X,plErr k r t])/\P X err w1/\Chg (fun k=>k=w.heap.size) w1 w':=by
 have HM:=Lib.hid hM
 have HP:=Lib.hid hP
 clear hM hP
 go_enter Tryx.func33,Tryz.ntmps33
 go_wp2_with fail
 refine HM.out.mono ?_
 rintro x w1 ⟨X,err,rfl,hp⟩
 obtain⟨hg,he,hz⟩:=HP.out X err w1 hp
 have HT:=Lib.hid (told_any hg he)
 have HPP:=Lib.hid hp
 have HZ:=Lib.hid hz
 clear hp hg he hz
 go_wp2_with fail
 refine HT.out.mono ?_
 rintro x w2 ⟨rfl,hB⟩
 have hz2:w2.heap[w.heap.size]?=some zErr:=(hB.block _ (lt_of_heap HZ.out)).trans HZ.out
 have z0:w2.cell? ⟨w.heap.size,0,none⟩=some (.int .i64 0):=cell_of hz2 rfl
 have z1:w2.cell? ⟨w.heap.size,1,none⟩=some (.int .i64 0):=cell_of hz2 rfl
 have z2:w2.cell? ⟨w.heap.size,2,none⟩=some (.int .i64 0):=cell_of hz2 rfl
 have z3:w2.cell? ⟨w.heap.size,3,none⟩=some (.bool false):=cell_of hz2 rfl
 have zf:∀ i,w2.frozen? ⟨w.heap.size,i,none⟩=false:=fun i=>free_of hz2
 have HB:=Lib.hid hB
 have HZ2:=Lib.hid hz2
 clear hB hz2
 go_wp2_with fail
 obtain⟨e5,hc5⟩:=err_set (W:=w2) (.int .i64 k) (.int .i64 r) (.int .i64 t) (.bool true) HZ2.out
 obtain⟨W5,hW5⟩:∃ W5,((((w2.setCell ⟨w.heap.size,0,none⟩ (.int .i64 k)).setCell ⟨w.heap.size,1,none⟩ (.int .i64 r)).setCell ⟨w.heap.size,2,none⟩ (.int .i64 t)).setCell ⟨w.heap.size,3,none⟩ (.bool true))=W5:=⟨_,rfl⟩
 rw[hW5]at e5 hc5 ⊢
 have y0:W5.cell? ⟨w.heap.size,0,none⟩=some (.int .i64 k):=cell_of e5 rfl
 have y1:W5.cell? ⟨w.heap.size,1,none⟩=some (.int .i64 r):=cell_of e5 rfl
 have y2:W5.cell? ⟨w.heap.size,2,none⟩=some (.int .i64 t):=cell_of e5 rfl
 have y3:W5.cell? ⟨w.heap.size,3,none⟩=some (.bool true):=cell_of e5 rfl
 refine bodyPost_ret (v:=.tuple #[X,plErr k r t]) (by simp[results,Tryz.results33,go_sem,y0,y1,y2,y3]) rfl ⟨X,err,w1,rfl,HPP.out,(chgB HB.out _).then hc5⟩
theorem plNew_of(d k r t:Int)(w:World)(P:Value->Value->World->Prop)
  (hM:Calls Tryx.prog 59 #[.int .i64 d] (w.alloc zErr) fun x w'=>∃ X err,x=.returned (.tuple #[X,err])/\P X err w')
  (hP:∀ X err w',P X err w'->ErrVar w'/\ErrIs w' err k r t/\w'.heap[w.heap.size]?=some zErr):
  Calls Tryx.prog 32 #[.int .i64 d] w fun x w'=>∃ X err w1,x=.returned (.tuple #[X,plErr k r t])/\P X err w1/\Chg (fun k=>k=w.heap.size) w1 w':=by
 have HM:=Lib.hid hM
 have HP:=Lib.hid hP
 clear hM hP
 go_enter Tryx.func32,Tryz.ntmps32
 go_wp2_with fail
 refine HM.out.mono ?_
 rintro x w1 ⟨X,err,rfl,hp⟩
 obtain⟨hg,he,hz⟩:=HP.out X err w1 hp
 have HT:=Lib.hid (told_any hg he)
 have HPP:=Lib.hid hp
 have HZ:=Lib.hid hz
 clear hp hg he hz
 go_wp2_with fail
 refine HT.out.mono ?_
 rintro x w2 ⟨rfl,hB⟩
 have hz2:w2.heap[w.heap.size]?=some zErr:=(hB.block _ (lt_of_heap HZ.out)).trans HZ.out
 have z0:w2.cell? ⟨w.heap.size,0,none⟩=some (.int .i64 0):=cell_of hz2 rfl
 have z1:w2.cell? ⟨w.heap.size,1,none⟩=some (.int .i64 0):=cell_of hz2 rfl
 have z2:w2.cell? ⟨w.heap.size,2,none⟩=some (.int .i64 0):=cell_of hz2 rfl
 have z3:w2.cell? ⟨w.heap.size,3,none⟩=some (.bool false):=cell_of hz2 rfl
 have zf:∀ i,w2.frozen? ⟨w.heap.size,i,none⟩=false:=fun i=>free_of hz2
 have HB:=Lib.hid hB
 have HZ2:=Lib.hid hz2
 clear hB hz2
 go_wp2_with fail
 obtain⟨e5,hc5⟩:=err_set (W:=w2) (.int .i64 k) (.int .i64 r) (.int .i64 t) (.bool true) HZ2.out
 obtain⟨W5,hW5⟩:∃ W5,((((w2.setCell ⟨w.heap.size,0,none⟩ (.int .i64 k)).setCell ⟨w.heap.size,1,none⟩ (.int .i64 r)).setCell ⟨w.heap.size,2,none⟩ (.int .i64 t)).setCell ⟨w.heap.size,3,none⟩ (.bool true))=W5:=⟨_,rfl⟩
 rw[hW5]at e5 hc5 ⊢
 have y0:W5.cell? ⟨w.heap.size,0,none⟩=some (.int .i64 k):=cell_of e5 rfl
 have y1:W5.cell? ⟨w.heap.size,1,none⟩=some (.int .i64 r):=cell_of e5 rfl
 have y2:W5.cell? ⟨w.heap.size,2,none⟩=some (.int .i64 t):=cell_of e5 rfl
 have y3:W5.cell? ⟨w.heap.size,3,none⟩=some (.bool true):=cell_of e5 rfl
 refine bodyPost_ret (v:=.tuple #[X,plErr k r t]) (by simp[results,Tryz.results32,go_sem,y0,y1,y2,y3]) rfl ⟨X,err,w1,rfl,HPP.out,(chgB HB.out _).then hc5⟩
theorem plComplete_of(q:Nat)(fault:Bool)(n k r t:Int)(w:World)(P:Value->World->Prop)
  (hM:Calls Tryx.prog 40 #[ptr q,.int .i64 n,.bool fault] (w.alloc zErr) fun x w'=>∃ err,x=.returned err/\P err w')
  (hP:∀ err w',P err w'->ErrVar w'/\ErrIs w' err k r t/\w'.heap[w.heap.size]?=some zErr):
  Calls Tryx.prog 19 #[ptr q,.int .i64 n,.bool fault] w fun x w'=>∃ err w1,x=.returned (plErr k r t)/\P err w1/\Chg (fun k=>k=w.heap.size) w1 w':=by
 have HM:=Lib.hid hM
 have HP:=Lib.hid hP
 clear hM hP
 go_enter Tryx.func19,Tryz.ntmps19
 go_wp2_with fail
 refine HM.out.mono ?_
 rintro x w1 ⟨err,rfl,hp⟩
 obtain⟨hg,he,hz⟩:=HP.out err w1 hp
 have HT:=Lib.hid (told_any hg he)
 have HPP:=Lib.hid hp
 have HZ:=Lib.hid hz
 clear hp hg he hz
 go_wp2_with fail
 refine HT.out.mono ?_
 rintro x w2 ⟨rfl,hB⟩
 have hz2:w2.heap[w.heap.size]?=some zErr:=(hB.block _ (lt_of_heap HZ.out)).trans HZ.out
 have z0:w2.cell? ⟨w.heap.size,0,none⟩=some (.int .i64 0):=cell_of hz2 rfl
 have z1:w2.cell? ⟨w.heap.size,1,none⟩=some (.int .i64 0):=cell_of hz2 rfl
 have z2:w2.cell? ⟨w.heap.size,2,none⟩=some (.int .i64 0):=cell_of hz2 rfl
 have z3:w2.cell? ⟨w.heap.size,3,none⟩=some (.bool false):=cell_of hz2 rfl
 have zf:∀ i,w2.frozen? ⟨w.heap.size,i,none⟩=false:=fun i=>free_of hz2
 have HB:=Lib.hid hB
 have HZ2:=Lib.hid hz2
 clear hB hz2
 go_wp2_with fail
 obtain⟨e5,hc5⟩:=err_set (W:=w2) (.int .i64 k) (.int .i64 r) (.int .i64 t) (.bool true) HZ2.out
 obtain⟨W5,hW5⟩:∃ W5,((((w2.setCell ⟨w.heap.size,0,none⟩ (.int .i64 k)).setCell ⟨w.heap.size,1,none⟩ (.int .i64 r)).setCell ⟨w.heap.size,2,none⟩ (.int .i64 t)).setCell ⟨w.heap.size,3,none⟩ (.bool true))=W5:=⟨_,rfl⟩
 rw[hW5]at e5 hc5 ⊢
 have y0:W5.cell? ⟨w.heap.size,0,none⟩=some (.int .i64 k):=cell_of e5 rfl
 have y1:W5.cell? ⟨w.heap.size,1,none⟩=some (.int .i64 r):=cell_of e5 rfl
 have y2:W5.cell? ⟨w.heap.size,2,none⟩=some (.int .i64 t):=cell_of e5 rfl
 have y3:W5.cell? ⟨w.heap.size,3,none⟩=some (.bool true):=cell_of e5 rfl
 refine bodyPost_ret (v:=plErr k r t) (by simp[results,Tryz.results19,go_sem,y0,y1,y2,y3]) rfl ⟨err,w1,rfl,HPP.out,(chgB HB.out _).then hc5⟩
abbrev zAns:Obj:=.cells #[.slice none 0 0,.int .i64 0] 43
theorem ErrIs.chg{w W:World}{err:Value}{k r t:Int}(h:ErrIs w err k r t){S:Nat->Prop}(hc:Chg S w W)(hS:∀ b,err=errR b->¬S b):ErrIs W err k r t:=by
 cases h with
 | nil=>exact .nil
 | kind k hk=>exact .kind k hk
 | req b r t k hk h=>exact .req b r t k hk (h.chg hc (hS b rfl))
theorem plPoll_of(q:Nat)(n k r t:Int)(w:World)(P:Value->Int->Value->World->Prop)
  (hM:Calls Tryx.prog 36 #[ptr q,.int .i64 n] ((w.alloc zAns).alloc zErr) fun x w'=>∃ va vn vc tr err,x=.returned (.tuple #[.agg #[.slice va vn vc,.int .i64 tr],err])/\P (.slice va vn vc) tr err w')
  (hP:∀ v tr err w',P v tr err w'->ErrVar w'/\ErrIs w' err k r t/\w'.heap[w.heap.size]?=some zAns/\w'.heap[w.heap.size+1]?=some zErr):
  Calls Tryx.prog 16 #[ptr q,.int .i64 n] w fun x w'=>∃ v tr err w1,x=.returned (.tuple #[.agg #[v,.int .i64 tr],plErr k r t])/\P v tr err w1/\w.heap.size+2<=w1.heap.size/\Chg (fun k=>k=w.heap.size\/k=w.heap.size+1) w1 w':=by
 have HM:=Lib.hid hM
 have HP:=Lib.hid hP
 clear hM hP
 go_enter Tryx.func16,Tryz.ntmps16
 go_wp2_with fail
 refine HM.out.mono ?_
 rintro x w1 ⟨va,vn,vc,tr,err,rfl,hp⟩
 obtain⟨hg,he,hza,hze⟩:=HP.out _ tr err w1 hp
 obtain⟨W2,hW2⟩:∃ W2,w1.alloc (.cells #[.slice va vn vc,.int .i64 tr] 43)=W2:=⟨_,rfl⟩
 have hB2:Below w1.heap.size w1 W2:=by rw[<-hW2];exact (Below.refl _ _).alloc (Nat.le_refl _) _
 have hr2:W2.heap[w1.heap.size]?=some (.cells #[.slice va vn vc,.int .i64 tr] 43 (0,0)):=by rw[<-hW2];exact World.alloc_heap_new w1 _
 have a0:W2.cell? ⟨w1.heap.size,0,none⟩=some (.slice va vn vc):=cell_of hr2 rfl
 have a1:W2.cell? ⟨w1.heap.size,1,none⟩=some (.int .i64 tr):=cell_of hr2 rfl
 have HG:=Lib.hid (hg.chg (chgB hB2 fun _=>False) fun x=>x)
 have HE:=Lib.hid (he.chg (chgB hB2 fun _=>False) fun _ _ x=>x)
 have HA:=Lib.hid ((hB2.block _ (lt_of_heap hza)).trans hza)
 have HZ:=Lib.hid ((hB2.block _ (lt_of_heap hze)).trans hze)
 have HPP:=Lib.hid hp
 have HB2:=Lib.hid hB2
 have hlt2:=lt_of_heap hr2
 have hl1:=lt_of_heap hze
 clear hp hg he hza hze hB2 hr2
 go_wp2_with fail
 have hn1:w1.heap.size≠w.heap.size:=by omega
 have hn2:w1.heap.size≠w.heap.size+1:=by omega
 have hn3:w.heap.size≠w1.heap.size:=by omega
 have hn4:w.heap.size+1≠w1.heap.size:=by omega
 go_region_held3 (fun w'=>w'.cell? ⟨w1.heap.size,0,none⟩=some (.slice va vn vc)/\w'.cell? ⟨w1.heap.size,1,none⟩=some (.int .i64 tr)) (go_keep)
  (first
    | (go_at_call 34;refine (told_any (k:=k) (r:=r) (t:=t) ?_ ?_).mono ?_;exact HG.out;exact HE.out.chg ((Chg.refl (fun _=>False) W2).drew) fun _ _ x=>x
       rintro e w3 ⟨rfl,hB3⟩
       have e0:w3.cell? ⟨w1.heap.size,0,none⟩=some (.slice va vn vc):=(hB3.cell (p:=⟨w1.heap.size,0,none⟩) hlt2).trans a0
       have e1:w3.cell? ⟨w1.heap.size,1,none⟩=some (.int .i64 tr):=(hB3.cell (p:=⟨w1.heap.size,1,none⟩) hlt2).trans a1
       have z0:w3.cell? ⟨w.heap.size,0,none⟩=some (.slice none 0 0):=cell_of ((hB3.block _ (lt_of_heap HA.out)).trans HA.out) rfl
       have z1:w3.cell? ⟨w.heap.size,1,none⟩=some (.int .i64 0):=cell_of ((hB3.block _ (lt_of_heap HA.out)).trans HA.out) rfl
       have zf:∀ i,w3.frozen? ⟨w.heap.size,i,none⟩=false:=fun i=>free_of ((hB3.block _ (lt_of_heap HA.out)).trans HA.out)
       have x0:w3.cell? ⟨w.heap.size+1,0,none⟩=some (.int .i64 0):=cell_of ((hB3.block _ (lt_of_heap HZ.out)).trans HZ.out) rfl
       have x1:w3.cell? ⟨w.heap.size+1,1,none⟩=some (.int .i64 0):=cell_of ((hB3.block _ (lt_of_heap HZ.out)).trans HZ.out) rfl
       have x2:w3.cell? ⟨w.heap.size+1,2,none⟩=some (.int .i64 0):=cell_of ((hB3.block _ (lt_of_heap HZ.out)).trans HZ.out) rfl
       have x3:w3.cell? ⟨w.heap.size+1,3,none⟩=some (.bool false):=cell_of ((hB3.block _ (lt_of_heap HZ.out)).trans HZ.out) rfl
       have xf:∀ i,w3.frozen? ⟨w.heap.size+1,i,none⟩=false:=fun i=>free_of ((hB3.block _ (lt_of_heap HZ.out)).trans HZ.out)))
 obtain⟨f5,fc5⟩:=ans_set (W:=w3) (.slice va vn vc) (.int .i64 tr) ((hB3.block _ (lt_of_heap HA.out)).trans HA.out)
 obtain⟨W4,hW4⟩:∃ W4,(w3.setCell ⟨w.heap.size,0,none⟩ (.slice va vn vc)).setCell ⟨w.heap.size,1,none⟩ (.int .i64 tr)=W4:=⟨_,rfl⟩
 rw[hW4]at f5 fc5 ⊢
 have hz4:W4.heap[w.heap.size+1]?=some zErr:=(fc5.block _ (Nat.lt_of_lt_of_le (lt_of_heap HZ.out) hB3.size) (by omega)).trans ((hB3.block _ (lt_of_heap HZ.out)).trans HZ.out)
 obtain⟨g5,gc5⟩:=err_set (W:=W4) (.int .i64 k) (.int .i64 r) (.int .i64 t) (.bool true) hz4
 obtain⟨W5,hW5⟩:∃ W5,((((W4.setCell ⟨w.heap.size+1,0,none⟩ (.int .i64 k)).setCell ⟨w.heap.size+1,1,none⟩ (.int .i64 r)).setCell ⟨w.heap.size+1,2,none⟩ (.int .i64 t)).setCell ⟨w.heap.size+1,3,none⟩ (.bool true))=W5:=⟨_,rfl⟩
 rw[hW5]at g5 gc5 ⊢
 have h5:W5.heap[w.heap.size]?=some (.cells #[.slice va vn vc,.int .i64 tr] 43 (0,0)):=(gc5.block _ (lt_of_heap f5) (by omega)).trans f5
 have y0:W5.cell? ⟨w.heap.size+1,0,none⟩=some (.int .i64 k):=cell_of g5 rfl
 have y1:W5.cell? ⟨w.heap.size+1,1,none⟩=some (.int .i64 r):=cell_of g5 rfl
 have y2:W5.cell? ⟨w.heap.size+1,2,none⟩=some (.int .i64 t):=cell_of g5 rfl
 have y3:W5.cell? ⟨w.heap.size+1,3,none⟩=some (.bool true):=cell_of g5 rfl
 have u0:W5.cell? ⟨w.heap.size,0,none⟩=some (.slice va vn vc):=cell_of h5 rfl
 have u1:W5.cell? ⟨w.heap.size,1,none⟩=some (.int .i64 tr):=cell_of h5 rfl
 have hfin:Chg (fun k=>k=w.heap.size\/k=w.heap.size+1) w1 W5:=(((chgB HB2.out _).drew.of_below hB3).then (fc5.mono fun _ _ h=>.inl h)).then (gc5.mono fun _ _ h=>.inr h)
 go_wp2_with fail
 refine bodyPost_ret (v:=.tuple #[.agg #[.slice va vn vc,.int .i64 tr],plErr k r t]) (by simp[results,Tryz.results16,go_sem,y0,y1,y2,y3,u0,u1]) rfl ⟨_,tr,err,w1,rfl,HPP.out,by omega,hfin⟩
end
end Go.Proofs.YticobikhndlejaaGreatDoor
