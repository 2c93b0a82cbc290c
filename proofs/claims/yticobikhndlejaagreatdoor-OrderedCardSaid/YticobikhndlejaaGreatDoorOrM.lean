/- Part 13 of the proof (see the last part). -/
import Derived.Test.YticobikhndlejaaGreatDoorOrL
namespace Go.Proofs.YticobikhndlejaaGreatDoor
section
open Go.RowKit Go.Shelf Go.Lib
set_option maxRecDepth 100000
set_option maxHeartbeats 8000000
theorem complete_no(q:Nat)(s:Sta)(F:Nat->Prop)(w:World)(k:Int)(fault:Bool)(h:QAt w q s F)(hk:k<0\/(s.cs.length:Int)<=k):
  Calls Tryx.prog 40 #[ptr q,.int .i64 k,.bool fault] w fun x w'=>x=.returned (errK 10)/\Below w.heap.size w w':=by
 obtain⟨tb,mb,clock,fv,hq,hF⟩:=h
 have c2:=hq.c2
 obtain⟨fa,fc,rfl⟩:=own_slice hq.fl
 clear hq hF
 by_cases h0:k<0
 ·have d0:decide (k<0)=true:=by simpa using h0
  go_enter Tryx.func40,Tryz.ntmps40
  go_wp2_with fail
  go_ret
  exact⟨rfl,Below.refl _ _⟩
 ·have d0:decide (k<0)=false:=by simpa using h0
  have d1:decide (k>=(s.cs.length:Int))=true:=by simp;omega
  go_enter Tryx.func40,Tryz.ntmps40
  go_wp2_with fail
  go_ret
  exact⟨rfl,Below.refl _ _⟩
theorem complete_any(q:Nat)(s:Sta)(F:Nat->Prop)(w:World)(k:Nat)(fault:Bool)(c:Cmd×Value)(h:QAt w q s F)(hk:s.cs[k]?=some c)(hn:0<=s.now/\s.now<2 ^ 60)(h4:s.cs.length<=4)(hlen:c.1.nums.length<=1000000)
  (hall:∀ j (hj:j<c.1.nums.length),∃ e,LandOk (landsS fault {s with cs:=s.cs.eraseIdx k} (c.1.nums.take j)) (c.1.nums[j]'hj) e):
  Calls Tryx.prog 40 #[ptr q,.int .i64 k,.bool fault] w fun x w'=>x=.returned .nilIface/\QAt w' q (landsS fault {s with cs:=s.cs.eraseIdx k} c.1.nums) F/\Chg F w w':=by
 obtain⟨tb,mb,clock,fv,hq,hF⟩:=h
 have c2:=hq.c2
 obtain⟨hkl,hck⟩:=List.getElem?_eq_some_iff.1 hk
 obtain⟨n,hnn⟩:∃ n,s.cs.length=n:=⟨_,rfl⟩
 obtain⟨g,cap,cur,rfl,_,hg2,hg3,hg4,hg5,hg6⟩:∃ g cap cur,fv=.slice (some ⟨g,0,none⟩) n cap/\0<=g/\w.heap[g]?=some (.cells cur 48 (0,0))/\n<=cap/\cap<=maxLen/\cur.size=cap*4/\cur.toList.take (n*4)=s.cs.flatMap cmdCells:=by
  rcases hq.fl.2 with ⟨_,h0⟩ | h1
  ·omega
  ·rw[hnn]at h1;exact h1
 rw[hnn]at hkl
 have d0:decide ((k:Int)<0)=false:=by simp
 have d1:decide ((k:Int)>=(n:Int))=false:=by simp;omega
 have hki:(k:Int)<(n:Int):=by omega
 have hcell:∀ i v,(cmdCells c)[i]?=some v->w.cell? ⟨g,k*4+i,none⟩=some v:=fun i v hv=>by
  refine cell_of hg2 ?_
  have hi:i<4:=(List.getElem?_eq_some_iff.1 hv).1
  have hfl:∀ (l:List (Cmd×Value)) (k:Nat),l[k]?=some c->(l.flatMap cmdCells)[k*4+i]?=some v:=fun l=>by
   induction l with
   | nil=>intro k hk;simp at hk
   | cons x l ih=>
     intro k hk
     match k,hk with
     | 0,hk=>
       simp at hk;subst hk
       rw[List.flatMap_cons,List.getElem?_append_left (by simp[cmdCells];omega)]
       simpa using hv
     | k+1,hk=>
       rw[List.flatMap_cons,List.getElem?_append_right (by simp[cmdCells];omega)]
       have:=ih k (by simpa using hk)
       rw[show (k+1)*4+i - (cmdCells x).length=k*4+i from by simp[cmdCells];omega]
       exact this
  have h1:=hfl s.cs k hk
  rw[<-hg6,List.getElem?_take_of_lt (by omega)]at h1
  rw[<-Array.getElem?_toList];exact h1
 obtain⟨b,v⟩:=c
 have z0:w.cell? ⟨g,k*4,none⟩=some (.bool b.write):=hcell 0 _ rfl
 have z1:w.cell? ⟨g,k*4+1,none⟩=some (.int .i64 b.page):=hcell 1 _ rfl
 have z2:w.cell? ⟨g,k*4+2,none⟩=some (.int .i64 b.count):=hcell 2 _ rfl
 have z3:w.cell? ⟨g,k*4+3,none⟩=some v:=hcell 3 _ rfl
 have hmem:(b,v)∈s.cs:=by rw[<-hck];exact List.getElem_mem _
 have hrow:w.ownsRow 0 3 1 v b.nums.length (b.nums.map fun n=>Value.int .i64 n):=hq.rows _ hmem
 obtain⟨m,hm⟩:∃ m,b.nums.length=m:=⟨_,rfl⟩
 rw[hm]at hrow
 obtain⟨va,vc,rfl⟩:=own_slice hrow
 have h1c:∀ c∈s.cs,c.2.oneCell'=true:=fun c hc=>by
  obtain⟨a,d,e⟩:=own_slice (hq.rows c hc)
  rw[e];rfl
 obtain⟨W1,hW1⟩:∃ W1,w.alloc (.cells #[.bool b.write,.int .i64 b.page,.int .i64 b.count,.slice va m vc] 48)=W1:=⟨_,rfl⟩
 have hB1:Below w.heap.size w W1:=by rw[<-hW1];exact (Below.refl _ _).alloc (Nat.le_refl _) _
 have hr1:W1.heap[w.heap.size]?=some (.cells #[.bool b.write,.int .i64 b.page,.int .i64 b.count,.slice va m vc] 48 (0,0)):=by rw[<-hW1];exact World.alloc_heap_new w _
 have hs1:W1.heap.size=w.heap.size+1:=by rw[<-hW1];simp
 have c2':W1.cell? ⟨q,2,none⟩=some (.slice (some ⟨g,0,none⟩) n cap):=by rw[<-hnn];exact (hB1.cell (p:=⟨q,2,none⟩) (lt_of_heap hq.que)).trans (by rw[hnn];exact c2)
 have HB1:=Lib.hid hB1
 have HR1:=Lib.hid hr1
 have HQ:=Lib.hid hq
 have HF:=Lib.hid hF
 have HROW:=Lib.hid hrow
 have HM:=Lib.hid hmem
 have H1:=Lib.hid h1c
 have HG2:=Lib.hid hg2
 have HG5:=Lib.hid hg5
 have HG6:=Lib.hid hg6
 have HA:=Lib.hid hall
 have hqlt:=lt_of_heap hq.que
 clear hB1 hr1 hq hF hrow hcell hmem h1c hg2 hg5 hg6 hall hck hk
 go_enter Tryx.func40,Tryz.ntmps40
 go_wp2_with fail
 rw[show (k:Int)+1=((k+1:Nat):Int)from by omega]
 refine (del_any g n cap k (k+1) rfl cur s.cs W1 hnn hkl ((HB1.out.block g (lt_of_heap HG2.out)).trans HG2.out) hg3 HG5.out HG6.out H1.out).mono ?_
 rintro x w2 ⟨rfl,hc2,cur2,e1,e2,e3⟩
 have hgl:=lt_of_heap HG2.out
 have hqg:q≠g:=HQ.out.ne_qf rfl
 have hq2:w2.heap[q]?=some (.cells (qCells tb (.slice (some ⟨g,0,none⟩) n cap) s) 89 (0,0)):=(hc2.block q (by omega) hqg).trans ((HB1.out.block q hqlt).trans HQ.out.que)
 have f2:w2.frozen? ⟨q,2,none⟩=false:=free_of hq2
 have g2:w2.cell? ⟨q,2,none⟩=some (.slice (some ⟨g,0,none⟩) n cap):=cell_of hq2 rfl
 have hQ3:=HQ.out.dropc HB1.out hc2 (by omega) hg4 hnn e1 e2 e3 hkl
 obtain⟨W3,hW3⟩:∃ W3,w2.setCell ⟨q,2,none⟩ (.slice (some ⟨g,0,none⟩) (n - 1:Nat) cap)=W3:=⟨_,rfl⟩
 rw[hW3]at hQ3
 have hc3:Chg (fun i=>i=g\/i=q) w W3:=by
  rw[<-hW3]
  exact ((chgB HB1.out _).then (hc2.mono fun _ _ h=>.inl h)).then ((chg_set _).mono fun _ _ h=>.inr h)
 have hr3:W3.heap[w.heap.size]?=some (.cells #[.bool b.write,.int .i64 b.page,.int .i64 b.count,.slice va m vc] 48 (0,0)):=by
  rw[<-hW3]
  refine (heap_setCell_ne _ (by show w.heap.size≠q;omega)).trans ((hc2.block _ (by omega) (by omega)).trans HR1.out)
 have y3:W3.cell? ⟨w.heap.size,3,none⟩=some (.slice va m vc):=cell_of hr3 rfl
 have HQ3:=Lib.hid hQ3
 have HC3:=Lib.hid hc3
 clear hc2 e1 e2 e3 hq2 hQ3 hc3 hr3
 go_wp2_with fail
 have hrow3:W3.ownsRow 0 3 1 (.slice va m vc) m (b.nums.map fun n=>Value.int .i64 n):=ownsRow_chg HROW.out HC3.out fun i hi hh=>by
  obtain⟨cr,hcr⟩:=own_heap HROW.out hi
  rcases hh with e | e
  ·rw[e,HG2.out]at hcr;simp at hcr
  ·exact HQ.out.ne_qr HM.out (k:=i) hi e.symm
 have HR3:=Lib.hid hrow3
 have hmN:m=b.nums.length:=hm.symm
 have HMN:=Lib.hid hmN
 clear hrow3 hm hmN
 go_loopg [43] m (fun kk i wr=>∃ j:Nat,kk=m - j/\j<=m/\i=.int .i64 j/\QB wr q tb mb clock (.slice (some ⟨g,0,none⟩) (n - 1:Nat) cap) (landsS fault {s with cs:=s.cs.eraseIdx k} (b.nums.take j))/\Chg (fun k=>k=q\/k=mb\/∃ e∈s.es,k=e.p) W3 wr)
 case atStart=>exact ⟨0,by simp,Nat.zero_le _,rfl,HQ3.out,Chg.refl _ _⟩
 case round=>
  obtain⟨j,rfl,hj,rfl,hQr,hCr⟩:=hrel
  by_cases hlt:j<m
  ·have hjb:j<b.nums.length:=by have:=HMN.out;omega
   obtain⟨e,hLe⟩:=HA.out j hjb
   obtain⟨sj,hsj⟩:∃ sj,landsS fault {s with cs:=s.cs.eraseIdx k} (b.nums.take j)=sj:=⟨_,rfl⟩
   simp only[hsj]at hLe
   rw[hsj]at hQr
   obtain⟨num,hnum⟩:∃ num,b.nums[j]'hjb=num:=⟨_,rfl⟩
   rw[hnum]at hLe
   have hnow:sj.now=s.now:=by rw[<-hsj];exact (landsS_same _ _ _).2
   have hnx:landsS fault {s with cs:=s.cs.eraseIdx k} (b.nums.take (j+1))=landS fault sj num:=by
    rw[<-hsj,<-hnum]
    unfold landsS
    rw[List.take_succ_eq_append_getElem hjb,List.foldl_append];rfl
   have hpe:∃ y∈s.es,y.p=e.p:=by
    have:=hLe.mem
    rw[<-hsj]at this
    exact landsS_p (s:={s with cs:=s.cs.eraseIdx k}) this
   obtain⟨gr,ca,cr,hva,hgr2,hgr6⟩:∃ gr ca cr,(Value.slice va m vc)=.slice (some ⟨gr,0,none⟩) m ca/\W3.heap[gr]?=some (.cells cr 3 (0,0))/\cr.toList.take (m*1)=b.nums.map fun n=>Value.int .i64 n:=by
    rcases HR3.out.2 with ⟨_,h0⟩ |⟨g,c,cur,x1,x2,x3,x4,x5,x6,x7⟩
    ·omega
    ·exact⟨g,c,cur,x1,x3,x7⟩
   obtain⟨rfl,rfl⟩:va=some ⟨gr,0,none⟩/\vc=ca:=by injection hva with a1 a2 a3;exact⟨a1,a3⟩
   have hngr:¬(gr=q\/gr=mb\/∃ e∈s.es,gr=e.p):=by
    rintro (e | e |⟨x,hx,e⟩)
    ·exact ne_of_heap hgr2 HQ3.out.que (by simp) e
    ·exact ne_of_heap hgr2 HQ3.out.tab.map (by simp) e
    ·exact ne_of_heap hgr2 (HQ3.out.tab.reqs x hx) (by simp) e
   have hcn:wr.cell? ⟨gr,j,none⟩=some (.int .i64 num):=by
    rw[<-hnum]
    exact (hCr.cell (p:=⟨gr,j,none⟩) (lt_of_heap hgr2) hngr).trans (row_int hgr2 hgr6 HMN.out j hjb)
   have hltI:(j:Int)<(m:Int):=by omega
   have hc1r:=hQr.c1
   have HQr:=Lib.hid hQr
   have HCr:=Lib.hid hCr
   have HLe:=Lib.hid hLe
   have HNX:=Lib.hid hnx
   have HPE:=Lib.hid hpe
   have HNW:=Lib.hid hnow
   clear hQr hCr hLe hnx hpe hnow hsj hnum hgr6 hva hngr hgr2
   go_wp2_with fail
   have hget:=get_yes tb mb clock sj.last sj.held sj.es wr HQr.out.tab e HLe.out.mem
   rw[HLe.out.num]at hget
   refine hget.mono ?_
   rintro x w5 ⟨rfl,rfl⟩
   go_wp2_with fail
   refine (land_all q tb mb clock _ sj w5 fault num e HQr.out HLe.out (by rw[HNW.out];exact hn)).mono ?_
   rintro x w6 ⟨rfl,hQ6,hC6⟩
   have HQ6:=Lib.hid hQ6
   have HC6:=Lib.hid hC6
   clear hQ6 hC6
   go_wp2_with fail
   go_roundg (m - (j+1))
   case measure=>omega
   case rel=>
    refine⟨j+1,rfl,by omega,by go_num,by rw[HNX.out];exact HQ6.out,HCr.out.then (HC6.out.mono fun i _ hi=>?_)⟩
    rcases hi with h | h | h
    ·exact .inl h
    ·exact .inr (.inl h)
    ·obtain⟨y,hy,hyp⟩:=HPE.out
     exact .inr (.inr ⟨y,hy,h.trans hyp.symm⟩)
  ·obtain rfl:j=m:=by omega
   have HQr:=Lib.hid hQr
   have HCr:=Lib.hid hCr
   clear hQr hCr
   go_wp2_with fail
   go_ret
   have htk:b.nums.take j=b.nums:=by rw[HMN.out];exact List.take_length
   have hfin:=HQr.out
   rw[htk]at hfin
   refine⟨rfl,⟨tb,mb,clock,_,hfin,fun i hi=>HF.out i ?_⟩,?_⟩
   ·rcases hi with h | h | h | h |⟨x,hx,h⟩ |⟨c,hc,h⟩
    ·exact .inl h
    ·exact .inr (.inl h)
    ·exact .inr (.inr (.inl h))
    ·exact .inr (.inr (.inr (.inl h)))
    ·obtain⟨y,hy,hyp⟩:=landsS_p (s:={s with cs:=s.cs.eraseIdx k}) hx
     exact .inr (.inr (.inr (.inr (.inl ⟨y,hy,h.trans hyp.symm⟩))))
    ·rw[(landsS_same _ _ _).1]at hc
     exact .inr (.inr (.inr (.inr (.inr ⟨c,(List.eraseIdx_sublist _ _).subset hc,h⟩))))
   ·refine (HC3.out.mono fun i _ hi=>HF.out i ?_).then (HCr.out.mono fun i _ hi=>HF.out i ?_)
    ·rcases hi with h | h
     ·exact .inr (.inr (.inr (.inl (by rw[h];rfl))))
     ·exact .inl h
    ·rcases hi with h | h |⟨x,hx,h⟩
     ·exact .inl h
     ·exact .inr (.inr (.inl h))
     ·exact .inr (.inr (.inr (.inr (.inl ⟨x,hx,h⟩))))
end
section
open Go.RowKit Go.Shelf Go.Lib
set_option maxRecDepth 100000
end
section
def St.Soon(t:St):Prop:=∀ r∈t.rs,r.after<=t.now+8
theorem sent_soon{t:St}(h:t.Soon)(c:Cmd):(t.sent c).Soon:=fun r hr=>by
 obtain⟨x,hx,rfl⟩:=List.mem_map.1 hr
 have:=h x hx
 show (if x.num∈c.nums then sentR x else x).after<=t.now+8
 split
 ·exact this
 ·exact this
theorem landR_soon{r:Req}(now:Int)(h:r.after<=now+8)(disk:List Int)(fault:Bool):(St.landR now disk fault r).after<=now+8:=by
 unfold St.landR
 simp only
 split
 ·split
  ·exact h
  ·split
   ·exact h
   ·simp only;omega
 ·exact h
theorem land_soon{t:St}(h:t.Soon)(fault:Bool)(n:Int):(t.land fault n).Soon:=by
 unfold St.land
 split
 ·exact h
 ·intro r hr
  obtain⟨h1,_⟩:=List.mem_filter.1 hr
  obtain⟨x,hx,rfl⟩:=List.mem_map.1 h1
  have:=h x hx
  show (if _ then _ else _:Req).after<=t.now+8
  split
  ·exact landR_soon t.now this t.disk fault
  ·exact this
theorem lands_soon(fault:Bool):∀ (ns:List Int) (t:St),t.Soon->(ns.foldl (St.land fault) t).Soon
 | [],_,h=>h
 | n :: ns,t,h=>lands_soon fault ns (t.land fault n) (land_soon h fault n)
theorem complete_soon{t t':St}(h:t.Soon){k:Nat}{fault:Bool}(hc:t.complete k fault=some t'):t'.Soon:=by
 unfold St.complete at hc
 split at hc
 ·cases hc
 ·simp only[Option.some.injEq]at hc
  subst hc
  exact lands_soon fault _ _ h
theorem tick_soon{t:St}(h:t.Soon):t.tick.Soon:=fun r hr=>by
 have:=h r hr
 show r.after<=t.now+1+8
 omega
theorem soon_new(d:Nat):(St.new d).Soon:=fun _ h=>by cases h
theorem soon_add{t:St}(h:t.Soon)(hn:0<=t.now)(w:Bool)(p:Int)(d:B4):(t.add w p d).Soon:=fun r hr=>by
 rcases List.mem_append.1 hr with hr | hr
 ·exact h r hr
 ·obtain rfl:=List.mem_singleton.1 hr
  show (0:Int)<=t.now+8
  omega
theorem soon_tell{t:St}(h:t.Soon)(n:Int):(t.tell n).Soon:=fun r hr=>by
 obtain⟨h1,_⟩:=List.mem_filter.1 (show r∈St.tellRs t.rs n from hr)
 obtain⟨x,hx,rfl⟩:=List.mem_map.1 h1
 have:=h x hx
 show (if _ then _ else _:Req).after<=t.now+8
 split
 ·exact this
 ·exact this
theorem soon_give{t:St}(h:t.Soon)(n:Int):(t.give n).Soon:=fun r hr=>by
 obtain⟨x,hx,rfl⟩:=List.mem_map.1 (show r∈t.rs.map _ from hr)
 have:=h x hx
 show (if _ then _ else _:Req).after<=t.now+8
 split
 ·exact this
 ·exact this
def BOk(d:B4):Prop:=(0<=d.a/\d.a<=255)/\(0<=d.b/\d.b<=255)/\(0<=d.c/\d.c<=255)/\(0<=d.d/\d.d<=255)
def Req.live(r:Req):Bool:=(r.state == 0) || r.inAir
structure ROk(r:Req):Prop where
 page:0<=r.page/\r.page<16
 st:0<=r.state/\r.state<=4
 tries:0<=r.tries/\r.tries<=4
 try3:r.live=true->r.tries<=3
 air:r.inAir=true->r.state=1\/r.state=4
 uair:r.state=1->r.inAir=true
 told:r.told=true->r.state=4/\r.inAir=true
 byte:BOk r.data
structure RsOk(last:Int)(rs:List Req)(air:List Int):Prop where
 nums:rs.Pairwise (·.num < ·.num)
 num:∀ r∈rs,1<=r.num/\r.num<=last
 ok:∀ r∈rs,ROk r
 nodup:air.Nodup
 fly:∀ n∈air,∃ r∈rs,r.num=n/\r.inAir=true
 airs:∀ r∈rs,r.inAir=true->r.num∈air
 free:∀ r∈rs,r.inAir=true->∀ o∈rs,o.blocks r=false
structure St.OkA(t:St)(air:List Int):Prop where
 depth:1<=t.depth/\t.depth<=4
 head:t.head<=16
 dlen:t.disk.length=64
 dbyte:∀ b∈t.disk,0<=b/\b<=255
 last:0<=t.last
 now:0<=t.now
 rs:RsOk t.last t.rs air
 held:t.held=((t.rs.filter fun r=>!r.told).length:Int)
 h40:t.held<=40
 soon:t.Soon
structure CmdOk(rs:List Req)(c:Cmd):Prop where
 count:1<=c.count/\c.count<=4
 page:c.page+c.count<=16
 len:c.count<=c.nums.length
 wlen:c.write=true->c.nums.length=c.count
 ins:∀ n∈c.nums,∃ r∈rs,r.num=n/\r.write=c.write/\(c.page:Int)<=r.page/\r.page<c.page+c.count
 all:∀ p:Int,(c.page:Int)<=p->p<c.page+c.count->∃ r∈rs,r.num∈c.nums/\r.page=p
structure St.Ok(t:St):Prop where
 a:t.OkA (t.cs.flatMap (·.nums))
 len:t.cs.length<=t.depth
 cmds:∀ c∈t.cs,CmdOk t.rs c
theorem blocks_live{o r:Req}(h:o.blocks r=true):o.live=true:=by
 simp[Req.blocks]at h;simp[Req.live];exact h.2.2.2
theorem blocks_eq{o r o' r':Req}(h1:o'.num=o.num)(h2:o'.page=o.page)(h3:o'.write=o.write)(h4:r'.num=r.num)(h5:r'.page=r.page)(h6:r'.write=r.write)(hl:o'.live=true->o.live=true)(h:o.blocks r=false):o'.blocks r'=false:=by
 cases hb:o'.blocks r' with
 | false=>rfl
 | true=>
   have hl':=hl (blocks_live hb)
   have:o.blocks r=true:=by
    simp[Req.blocks,h1,h2,h3,h4,h5,h6]at hb
    simp[Req.live]at hl'
    simp[Req.blocks,hb,hl']
   rw[this]at h;exact h
theorem rnum_inj{rs:List Req}(h:rs.Pairwise (·.num < ·.num)){a b:Req}(ha:a∈rs)(hb:b∈rs)(he:a.num=b.num):a=b:=by
 induction rs with
 | nil=>cases ha
 | cons x l ih=>
   rw[List.pairwise_cons]at h
   rcases List.mem_cons.1 ha with e | ha' <;> rcases List.mem_cons.1 hb with e' | hb'
   ·rw[e,e']
   ·have:=h.1 b hb';rw[e]at he;omega
   ·have:=h.1 a ha';rw[e']at he;omega
   ·exact ih h.2 ha' hb'
theorem find_num{rs:List Req}(h:rs.Pairwise (·.num < ·.num)){r:Req}(hr:r∈rs):(rs.find? fun x=>x.num == r.num)=some r:=by
 cases hf:rs.find? fun x=>x.num == r.num with
 | none=>exact absurd (List.find?_eq_none.1 hf r hr) (by simp)
 | some x=>
   have h1:=List.find?_some hf
   have h2:=List.mem_of_find?_eq_some hf
   simp at h1
   rw[rnum_inj h h2 hr h1]
theorem RsOk.map{last:Int}{rs:List Req}{air air':List Int}(h:RsOk last rs air)(f:Req->Req)(hn:∀ r,(f r).num=r.num)(hp:∀ r,(f r).page=r.page)(hw:∀ r,(f r).write=r.write)
  (hok:∀ r∈rs,ROk (f r)) (hl:∀ r∈rs,(f r).live=true->r.live=true) (hnd:air'.Nodup) (hfly:∀ n∈air',∃ r∈rs,r.num=n/\(f r).inAir=true) (hairs:∀ r∈rs,(f r).inAir=true->r.num∈air')
  (hfree:∀ r∈rs,(f r).inAir=true->r.inAir=true\/∀ o∈rs,o.blocks r=false):RsOk last (rs.map f) air':=by
 refine⟨List.pairwise_map.2 (h.nums.imp fun {a b} hab=>by rw[hn,hn];exact hab),fun r hr=>?_,fun r hr=>?_,hnd,fun n hn'=>?_,fun r hr ha=>?_,fun r hr ha o ho=>?_⟩
 ·obtain⟨x,hx,rfl⟩:=List.mem_map.1 hr
  rw[hn];exact h.num x hx
 ·obtain⟨x,hx,rfl⟩:=List.mem_map.1 hr
  exact hok x hx
 ·obtain⟨r,hr,h1,h2⟩:=hfly n hn'
  exact⟨f r,List.mem_map_of_mem hr,by rw[hn];exact h1,h2⟩
 ·obtain⟨x,hx,rfl⟩:=List.mem_map.1 hr
  rw[hn];exact hairs x hx ha
 ·obtain⟨x,hx,rfl⟩:=List.mem_map.1 hr
  obtain⟨y,hy,rfl⟩:=List.mem_map.1 ho
  refine blocks_eq (hn y) (hp y) (hw y) (hn x) (hp x) (hw x) (hl y hy) ?_
  rcases hfree x hx ha with h1 | h1
  ·exact h.free x hx h1 y hy
  ·exact h1 y hy
theorem RsOk.filter{last:Int}{rs:List Req}{air:List Int}(h:RsOk last rs air)(p:Req->Bool)(hp:∀ r∈rs,r.inAir=true->p r=true):RsOk last (rs.filter p) air:=
 ⟨h.nums.filter _,fun r hr=>h.num r (List.mem_filter.1 hr).1,fun r hr=>h.ok r (List.mem_filter.1 hr).1,h.nodup,fun n hn=>by
   obtain⟨r,hr,h1,h2⟩:=h.fly n hn
   exact⟨r,List.mem_filter.2 ⟨hr,hp r hr h2⟩,h1,h2⟩,fun r hr=>h.airs r (List.mem_filter.1 hr).1,fun r hr ha o ho=>h.free r (List.mem_filter.1 hr).1 ha o (List.mem_filter.1 ho).1⟩
theorem RsOk.add{last:Int}{rs:List Req}{air:List Int}(h:RsOk last rs air)(hl:0<=last)(w:Bool)(p:Int)(hp:0<=p/\p<16)(d:B4)(hd:BOk d):RsOk (last+1) (rs ++ [newReq (last+1) w p d]) air:=by
 refine⟨?_,fun r hr=>?_,fun r hr=>?_,h.nodup,fun n hn=>?_,fun r hr ha=>?_,fun r hr ha o ho=>?_⟩
 ·rw[List.pairwise_append]
  refine⟨h.nums,by simp,fun a ha b hb=>?_⟩
  have:=h.num a ha
  rw[List.mem_singleton.1 hb];show a.num<last+1;omega
 ·rcases List.mem_append.1 hr with hr | hr
  ·have:=h.num r hr;omega
  ·rw[List.mem_singleton.1 hr];show 1<=last+1/\last+1<=last+1;omega
 ·rcases List.mem_append.1 hr with hr | hr
  ·exact h.ok r hr
  ·rw[List.mem_singleton.1 hr]
   exact⟨hp,by simp[newReq],by simp[newReq],by simp[newReq],by simp[newReq],by simp[newReq],by simp[newReq],hd⟩
 ·obtain⟨r,hr,h1,h2⟩:=h.fly n hn
  exact⟨r,List.mem_append_left _ hr,h1,h2⟩
 ·rcases List.mem_append.1 hr with hr | hr
  ·exact h.airs r hr ha
  ·rw[List.mem_singleton.1 hr]at ha;simp[newReq]at ha
 ·rcases List.mem_append.1 hr with hr | hr
  ·rcases List.mem_append.1 ho with ho | ho
   ·exact h.free r hr ha o ho
   ·rw[List.mem_singleton.1 ho]
    have:=h.num r hr
    have h2:¬(last+1<r.num):=by omega
    simp[Req.blocks,newReq,h2]
  ·rw[List.mem_singleton.1 hr]at ha;simp[newReq]at ha
theorem ok_new{d:Nat}(h:1<=d/\d<=4):(St.new d).Ok:=
 ⟨⟨h,by simp[St.new],by simp[St.new],fun b hb=>by simp[St.new]at hb;omega,by simp[St.new],by simp[St.new],⟨by simp[St.new],by simp[St.new],by simp[St.new],by simp[St.new],by simp[St.new],by simp[St.new],by simp[St.new]⟩,by simp[St.new],by simp[St.new],soon_new d⟩,by simp[St.new],by simp[St.new]⟩
theorem CmdOk.mono{rs rs':List Req}{c:Cmd}(h:CmdOk rs c)(hr:∀ r∈rs,r.num∈c.nums->∃ r'∈rs',r'.num=r.num/\r'.write=r.write/\r'.page=r.page):CmdOk rs' c:=by
 refine⟨h.count,h.page,h.len,h.wlen,fun n hn=>?_,fun p h1 h2=>?_⟩
 ·obtain⟨r,hm,e1,e2,e3,e4⟩:=h.ins n hn
  obtain⟨r',hm',f1,f2,f3⟩:=hr r hm (e1 ▸ hn)
  exact⟨r',hm',by omega,f2.trans e2,by omega,by omega⟩
 ·obtain⟨r,hm,e1,e2⟩:=h.all p h1 h2
  obtain⟨r',hm',f1,f2,f3⟩:=hr r hm e1
  exact⟨r',hm',f1 ▸ e1,by omega⟩
theorem CmdOk.air{t:St}(h:t.Ok){c:Cmd}(hc:c∈t.cs){n:Int}(hn:n∈c.nums):∃ r∈t.rs,r.num=n/\r.inAir=true:=
 h.a.rs.fly n (List.mem_flatMap.2 ⟨c,hc,hn⟩)
theorem ok_add{t:St}(h:t.Ok)(hh:t.held<40)(w:Bool)(p:Int)(hp:0<=p/\p<16)(d:B4)(hd:BOk d):(t.add w p d).Ok:=by
 refine⟨⟨h.a.depth,h.a.head,h.a.dlen,h.a.dbyte,?_,h.a.now,h.a.rs.add h.a.last w p hp d hd,?_,?_,soon_add h.a.soon h.a.now w p d⟩,h.len,fun c hc=>(h.cmds c hc).mono fun r hr _=>⟨r,List.mem_append_left _ hr,rfl,rfl,rfl⟩⟩
 ·have:=h.a.last;simp only[St.add];omega
 ·have:=h.a.held
  simp only[St.add,List.filter_append,List.length_append]
  simp[newReq];omega
 ·simp only[St.add];omega
theorem ok_tick{t:St}(h:t.Ok):t.tick.Ok:=
 ⟨⟨h.a.depth,h.a.head,h.a.dlen,h.a.dbyte,h.a.last,by have:=h.a.now;simp only[St.tick];omega,h.a.rs,h.a.held,h.a.h40,tick_soon h.a.soon⟩,h.len,h.cmds⟩
theorem find_some{t:St}{n:Int}{r:Req}(h:t.find n=some r):r∈t.rs/\r.num=n/\r.told=false:=by
 have h1:=List.find?_some h
 have h2:=List.mem_of_find?_eq_some h
 simp at h1
 exact⟨h2,h1.1,h1.2⟩
theorem filter_len_map{rs:List Req}(f:Req->Req)(p:Req->Bool)(hp:∀ r∈rs,p (f r)=p r):((rs.map f).filter p).length=(rs.filter p).length:=by
 rw[List.filter_map,List.length_map]
 congr 1
 exact List.filter_congr fun r hr=>hp r hr
theorem ok_give{t:St}(h:t.Ok){n:Int}{r:Req}(hf:t.find n=some r):(t.give n).Ok:=by
 obtain⟨hr,hn,ht⟩:=find_some hf
 have key:∀ x∈t.rs,x.num=n->x=r:=fun x hx hxn=>rnum_inj h.a.rs.nums hx hr (by omega)
 have hair:∀ x:Req,(if x.num=n then St.giveR x else x).inAir=x.inAir:=fun x=>by split <;> rfl
 refine⟨⟨h.a.depth,h.a.head,h.a.dlen,h.a.dbyte,h.a.last,h.a.now,h.a.rs.map _ (fun x=>by split <;> rfl) (fun x=>by split <;> rfl) (fun x=>by split <;> rfl) (fun x hx=>?_) (fun x hx=>?_) h.a.rs.nodup (fun m hm=>?_) (fun x hx ha=>?_) (fun x hx ha=>?_),?_,h.a.h40,soon_give h.a.soon n⟩,h.len,fun c hc=>(h.cmds c hc).mono fun x hx _=>⟨_,List.mem_map_of_mem hx,?_⟩⟩
 ·have ho:=h.a.rs.ok x hx
  split
  ·rename_i hxn
   have hxr:=key x hx hxn
   exact⟨ho.page,by simp[St.giveR],ho.tries,fun hl=>ho.try3 (by simp[Req.live,St.giveR]at hl;simp[Req.live,hl]),fun _=>.inr rfl,by simp[St.giveR],fun h=>by rw[hxr]at h;simp[St.giveR,ht]at h,ho.byte⟩
  ·exact ho
 ·split
  ·intro hl
   simp[Req.live,St.giveR]at hl
   simp[Req.live,hl]
  ·exact id
 ·obtain⟨x,hx,h1,h2⟩:=h.a.rs.fly m hm
  exact⟨x,hx,h1,by rw[hair];exact h2⟩
 ·rw[hair]at ha;exact h.a.rs.airs x hx ha
 ·rw[hair]at ha;exact .inl ha
 ·show t.held=_
  rw[h.a.held]
  simp only[St.give]
  rw[filter_len_map]
  intro x _
  split <;> rfl
 ·refine⟨?_,?_,?_⟩ <;> (split <;> rfl)
theorem filter_split{rs:List Req}(h:rs.Pairwise (·.num < ·.num)){r:Req}(hr:r∈rs):∃ l1 l2,rs=l1 ++ r :: l2/\(∀ x∈l1,x.num≠r.num)/\(∀ x∈l2,x.num≠r.num):=by
 obtain⟨l1,l2,rfl⟩:=List.append_of_mem hr
 rw[List.pairwise_append,List.pairwise_cons]at h
 exact⟨l1,l2,rfl,fun x hx=>by have:=h.2.2 x hx r (by simp);omega,fun x hx=>by have:=h.2.1.1 x hx;omega⟩
theorem map_split{l1 l2:List Req}{r:Req}(f:Req->Req)(h1:∀ x∈l1,x.num≠r.num)(h2:∀ x∈l2,x.num≠r.num):((l1 ++ r :: l2).map fun x=>if x.num=r.num then f x else x)=l1 ++ f r :: l2:=by
 have g:∀ l:List Req,(∀ x∈l,x.num≠r.num)->(l.map fun x=>if x.num=r.num then f x else x)=l:=fun l hl=>by
  conv=>rhs;rw[<-List.map_id l]
  exact List.map_congr_left fun x hx=>if_neg (hl x hx)
 rw[List.map_append,List.map_cons,g l1 h1,g l2 h2,if_pos rfl]
theorem drop_split{l1 l2:List Req}{r:Req}(hn:∀ x∈l1,x.num≠r.num)(hn2:∀ x∈l2,x.num≠r.num)(y:Req)(hy:y.num=r.num):((l1 ++ y :: l2).filter fun x=>!(x.num == r.num && (x.told && !x.inAir)))=if y.told && !y.inAir then l1 ++ l2 else l1 ++ y :: l2:=by
 have g:∀ l:List Req,(∀ x∈l,x.num≠r.num)->(l.filter fun x=>!(x.num == r.num && (x.told && !x.inAir)))=l:=fun l hl=>List.filter_eq_self.2 fun x hx=>by simp[hl x hx]
 rw[List.filter_append,g l1 hn]
 cases hc:y.told && !y.inAir with
 | true=>rw [List.filter_cons_of_neg (by simp[hy,hc]),g l2 hn2];rfl
 | false=>rw [List.filter_cons_of_pos (by simp[hy,hc]),g l2 hn2];rfl
theorem ok_tell{t:St}(h:t.Ok){n:Int}{r:Req}(hf:t.find n=some r)(hs:2<=r.state):(t.tell n).Ok:=by
 obtain⟨hr,hn,ht⟩:=find_some hf
 have key:∀ x∈t.rs,x.num=n->x=r:=fun x hx hxn=>rnum_inj h.a.rs.nums hx hr (by omega)
 have hair:∀ x:Req,(if x.num=n then tellR x else x).inAir=x.inAir:=fun x=>by split <;> rfl
 have hro:=h.a.rs.ok r hr
 have hcm:∀ c∈t.cs,CmdOk (St.tellRs t.rs n) c:=fun c hc=>(h.cmds c hc).mono fun x hx hxc=>by
  obtain⟨y,hy,hyn,hya⟩:=CmdOk.air h hc hxc
  have hxy:=rnum_inj h.a.rs.nums hy hx hyn
  refine⟨if x.num=n then tellR x else x,List.mem_filter.2 ⟨List.mem_map_of_mem hx,?_⟩,?_⟩
  ·have:=hair x
   rw[this,<-hxy,hya];simp
  ·refine⟨?_,?_,?_⟩ <;> (split <;> rfl)
 have hheld:t.held - 1=(((St.tellRs t.rs n).filter fun r=>!r.told).length:Int):=by
  rw[h.a.held]
  obtain⟨l1,l2,e,h1,h2⟩:=filter_split h.a.rs.nums hr
  unfold St.tellRs
  subst hn
  rw[e,map_split tellR h1 h2,drop_split h1 h2 (tellR r) rfl]
  have ha:(tellR r).told=true:=rfl
  rw[List.filter_append,List.filter_cons_of_pos (by simp[ht])]
  split
  ·simp[List.filter_append];omega
  ·rw[List.filter_append,List.filter_cons_of_neg (by simp[ha])];simp;omega
 refine⟨⟨h.a.depth,h.a.head,h.a.dlen,h.a.dbyte,h.a.last,h.a.now,?_,hheld,by have:=h.a.h40;simp only[St.tell];omega,soon_tell h.a.soon n⟩,h.len,hcm⟩
 show RsOk t.last (St.tellRs t.rs n) _
 by_cases ha:r.inAir=true
 ·have hst:r.state=4:=by rcases hro.air ha with h1 | h1 <;> omega
  refine RsOk.filter (h.a.rs.map _ (fun x=>by split <;> rfl) (fun x=>by split <;> rfl) (fun x=>by split <;> rfl) (fun x hx=>?_) (fun x hx=>?_) h.a.rs.nodup (fun m hm=>?_) (fun x hx ha=>?_) (fun x hx ha=>?_)) _ ?_
  ·have ho:=h.a.rs.ok x hx
   split
   ·rename_i hxn
    have hxr:=key x hx hxn
    subst hxr
    exact⟨ho.page,ho.st,ho.tries,ho.try3,ho.air,ho.uair,fun _=>⟨hst,ha⟩,ho.byte⟩
   ·exact ho
  ·split <;> exact id
  ·obtain⟨x,hx,h1,h2⟩:=h.a.rs.fly m hm
   exact⟨x,hx,h1,by rw[hair];exact h2⟩
  ·rw[hair]at ha;exact h.a.rs.airs x hx ha
  ·rw[hair]at ha;exact .inl ha
  ·intro x _ hxa
   simp[hxa]
 ·have ha':r.inAir=false:=by simpa using ha
  have he:St.tellRs t.rs n=t.rs.filter fun x=>x.num != n:=by
   obtain⟨l1,l2,e,h1,h2⟩:=filter_split h.a.rs.nums hr
   unfold St.tellRs
   subst hn
   have g:∀ l:List Req,(∀ x∈l,x.num≠r.num)->(l.filter fun x=>x.num != r.num)=l:=fun l hl=>List.filter_eq_self.2 fun x hx=>by simpa using hl x hx
   rw[e,map_split tellR h1 h2,drop_split h1 h2 (tellR r) rfl,List.filter_append,g l1 h1,List.filter_cons_of_neg (by simp),g l2 h2]
   simp[tellR,ha']
  rw[he]
  refine h.a.rs.filter _ fun x hx hxa=>?_
  simp only[bne_iff_ne,ne_eq]
  intro hxn
  have:=key x hx hxn
  subst this
  exact ha hxa
theorem mem_byPageR{l:List Req}{r:Req}:r∈byPageR l↔r∈l/\0<=r.page/\r.page<16:=by
 unfold byPageR
 simp only[List.mem_flatMap,List.mem_range,List.mem_filter,beq_iff_eq]
 constructor
 ·rintro⟨p,hp,hr,he⟩;exact⟨hr,by omega,by omega⟩
 ·rintro⟨hr,h1,h2⟩;exact⟨r.page.toNat,by omega,hr,by omega⟩
theorem byPageR_nodup{l:List Req}(h:l.Nodup):(byPageR l).Nodup:=by
 unfold byPageR List.Nodup
 refine List.pairwise_flatMap.2 ⟨fun p _=>h.filter _,(List.pairwise_lt_range (n:=16)).imp fun {p q} hpq x hx y hy e=>?_⟩
 have h2:=(List.mem_filter.1 hx).2
 have h3:=(List.mem_filter.1 hy).2
 subst e
 simp at h2 h3;omega
theorem nodup_of_nums{l:List Req}(h:l.Pairwise (·.num < ·.num)):l.Nodup:=h.imp fun hlt e=>by subst e;omega
theorem mem_readyR{now:Int}{l:List Req}{r:Req}(h:r∈readyR now l):r∈l/\r.state=0/\r.after<=now/\∀ o∈l,o.blocks r=false:=by
 have h1:=List.mem_filter.1 h
 have h2:=(mem_byPageR.1 h1.1).1
 have h3:=h1.2
 simp only[isReadyR,Bool.and_eq_true,beq_iff_eq,decide_eq_true_eq,Bool.not_eq_true']at h3
 refine⟨h2,h3.1,h3.2.1,fun o ho=>?_⟩
 have:=List.any_eq_false.1 h3.2.2 o ho
 simpa using this
theorem ready_mem{now:Int}{l:List Req}{r:Req}(hr:r∈l)(hp:0<=r.page/\r.page<16)(h0:r.state=0)(ha:r.after<=now)(hb:∀ o∈l,o.blocks r=false):r∈readyR now l:=by
 refine List.mem_filter.2 ⟨mem_byPageR.2 ⟨hr,hp⟩,?_⟩
 have h1:(l.any fun o=>o.blocks r)=false:=List.any_eq_false.2 fun o ho=>by simp[hb o ho]
 simp[isReadyR,h0,ha,h1]
theorem wrapAt_lt16{head i:Nat}(h:head<=16)(hi:i<16):wrapAt head i<16:=by unfold wrapAt;split <;> omega
theorem beginE_spec{ne:Nat->Bool}{head p:Nat}(hh:head<=16)(h:beginE ne head=some p):p<16/\ne p=true:=by
 unfold beginE at h
 have h1:=List.find?_some h
 have h2:=List.mem_of_find?_eq_some h
 obtain⟨i,hi,rfl⟩:=List.mem_map.1 h2
 exact⟨wrapAt_lt16 hh (List.mem_range.1 hi),h1⟩
theorem beginE_no{ne:Nat->Bool}{head:Nat}(hh:head<=16)(h:beginE ne head=none)(k:Nat)(hk:k<16):ne k=false:=by
 unfold beginE at h
 rw[List.find?_eq_none]at h
 by_cases hc:head<=k
 ·have:=h (wrapAt head (k - head)) (List.mem_map_of_mem (List.mem_range.2 (by omega)))
  unfold wrapAt at this
  rw[if_neg (by omega),show head+(k - head)=k from by omega]at this
  simpa using this
 ·have:=h (wrapAt head (k+16 - head)) (List.mem_map_of_mem (List.mem_range.2 (by omega)))
  unfold wrapAt at this
  rw[if_pos (by omega),show head+(k+16 - head) - 16=k from by omega]at this
  simpa using this
theorem takeWhile_stop(q:Nat->Bool):∀ m,((List.range m).takeWhile q).length<m->q ((List.range m).takeWhile q).length=false
 | 0,h=>by simp at h
 | m+1,h=>by
   rw[List.range_succ,List.takeWhile_append]at h ⊢
   split at h
   ·rename_i hc
    rw[if_pos hc]
    have h1:((List.range m).takeWhile q).length=m:=by simpa using hc
    rw[List.length_append,List.length_range]at h ⊢
    cases hq:q m with
    | true=>rw [List.takeWhile_cons_of_pos hq]at h;simp at h
    | false=>rw [List.takeWhile_cons_of_neg (by simp[hq])];simpa using hq
   ·rename_i hc
    rw[if_neg hc]
    have h2:((List.range m).takeWhile q).length<=m:=by
     have:=(List.takeWhile_sublist (l:=List.range m) q).length_le;simpa using this
    have h1:((List.range m).takeWhile q).length≠m:=fun e=>hc (by simpa using e)
    exact takeWhile_stop q m (by omega)
theorem runLenR_spec(K:Nat->List Req)(p m:Nat):runLenR K p m<=m/\(∀ i,i<runLenR K p m->K (p+i)≠[])/\(runLenR K p m<m->K (p+runLenR K p m)=[]):=by
 unfold runLenR
 generalize hq:(fun i=>!(K (p+i)).isEmpty)=q
 obtain⟨bs,hb⟩:∃ bs,(List.range m).takeWhile q ++ bs=List.range m:=⟨_,List.takeWhile_append_dropWhile⟩
 have hle:((List.range m).takeWhile q).length<=m:=by
  have:=(List.takeWhile_sublist (l:=List.range m) q).length_le;simpa using this
 have hget:∀ i,i<((List.range m).takeWhile q).length->((List.range m).takeWhile q)[i]?=some i:=fun i hi=>by
  have:=congrArg (fun l=>l[i]?) hb
  simp only[List.getElem?_append_left hi]at this
  rw[this,List.getElem?_range (by omega)]
 refine⟨hle,fun i hi=>?_,fun hlt=>?_⟩
 ·have h1:=hget i hi
  have h2:i∈(List.range m).takeWhile q:=List.mem_of_getElem? h1
  have h3:q i=true:=by
   have:=List.all_takeWhile (l:=List.range m) (p:=q)
   exact List.all_eq_true.1 this i h2
  rw[<-hq]at h3
  simpa using h3
 ·subst hq
  have:=takeWhile_stop _ m hlt
  simpa using this
theorem mem_gatherR{K:Nat->List Req}{p n:Nat}{r:Req}:r∈gatherR K p n↔∃ i,i<n/\r∈K (p+i):=by
 unfold gatherR;simp
theorem mem_kindR{L:List Req}{w:Bool}{k:Nat}{r:Req}:r∈kindR L w k↔r∈L/\r.page=(k:Int)/\r.write=w/\r.alone=false:=by
 unfold kindR pageR isKindR
 simp only[List.mem_filter,beq_iff_eq,Bool.and_eq_true,Bool.not_eq_true']
 exact⟨fun ⟨⟨a,b⟩,c,d⟩=>⟨a,b,c,d⟩,fun ⟨a,b,c,d⟩=>⟨⟨a,b⟩,c,d⟩⟩
structure Sel(L:List Req)(head p n:Nat)(sel:List Req):Prop where
 p16:p<16
 n1:1<=n
 n4:n<=4
 pn:p+n<=16
 first:beginE (fun k=>decide (0<(pageR L k).length)) head=some p
 mem:∀ r∈sel,r∈L/\(p:Int)<=r.page/\r.page<p+n
 all:∀ k:Nat,k<n->∃ r∈sel,r.page=((p+k:Nat):Int)
 form:∃ f t,pageR L p=f :: t/\((f.alone=true/\n=1/\sel=[f])\/(f.alone=false/\sel=gatherR (kindR L f.write) p n/\(∀ i,i<n->kindR L f.write (p+i)≠[])/\(n<4->p+n<16->kindR L f.write (p+n)=[])))
theorem nextR_spec{L:List Req}{head:Nat}(hh:head<=16):(nextR L head=(0,0,[])/\∀ k,k<16->pageR L k=[])\/∃ p n f t,nextR L head=(p,n,f :: t)/\Sel L head p n (f :: t):=by
 unfold nextR
 cases hb:beginE (fun k=>decide (0<(pageR L k).length)) head with
 | none=>exact .inl ⟨rfl,fun k hk=>by have:=beginE_no hh hb k hk;simpa using this⟩
 | some p=>
   obtain⟨hp16,hne⟩:=beginE_spec hh hb
   obtain⟨f,t,hft⟩:∃ f t,pageR L p=f :: t:=by
    cases hpl:pageR L p with
    | nil=>simp [hpl]at hne
    | cons f t=>exact ⟨f,t,rfl⟩
   have hfm:=List.mem_filter.1 (show f∈pageR L p from by rw[hft];simp)
   have hfp:f.page=(p:Int):=by simpa using hfm.2
   simp only[hft]
   cases hal:f.alone with
   | true=>exact .inr ⟨p,1,f,[],rfl,hp16,by omega,by omega,by omega,hb,fun r hr=>by rw[List.mem_singleton.1 hr];exact⟨hfm.1,by omega,by omega⟩,fun k hk=>⟨f,by simp,by rw[hfp];omega⟩,⟨f,t,hft,.inl ⟨hal,rfl,rfl⟩⟩⟩
   | false=>
     simp only[Bool.false_eq_true,if_false]
     obtain⟨h1,h2,h3⟩:=runLenR_spec (kindR L f.write) p (min 4 (16 - p))
     obtain⟨n,hn⟩:∃ n,runLenR (kindR L f.write) p (min 4 (16 - p))=n:=⟨_,rfl⟩
     rw[hn]at h1 h2 h3 ⊢
     have hfk:f∈kindR L f.write p:=mem_kindR.2 ⟨hfm.1,hfp,rfl,hal⟩
     have hn1:1<=n:=by
      rcases Nat.eq_zero_or_pos n with h0 | h0
      ·subst h0
       have:=h3 (by omega)
       rw[show p+0=p from rfl]at this
       rw[this]at hfk;cases hfk
      ·exact h0
     have hg:∃ x l,gatherR (kindR L f.write) p n=x :: l:=by
      have:f∈gatherR (kindR L f.write) p n:=mem_gatherR.2 ⟨0,hn1,hfk⟩
      cases hg:gatherR (kindR L f.write) p n with
      | nil=>rw [hg]at this;cases this
      | cons x l=>exact ⟨x,l,rfl⟩
     obtain⟨x,l,hxl⟩:=hg
     refine .inr ⟨p,n,x,l,by rw[hxl],?_⟩
     rw[<-hxl]
     refine⟨hp16,hn1,by omega,by omega,hb,fun r hr=>?_,fun k hk=>?_,⟨f,t,hft,.inr ⟨hal,rfl,h2,fun a b=>h3 (by omega)⟩⟩⟩
     ·obtain⟨i,hi,hm⟩:=mem_gatherR.1 hr
      obtain⟨m1,m2,_⟩:=mem_kindR.1 hm
      exact⟨m1,by rw[m2];omega,by rw[m2];omega⟩
     ·cases hk2:kindR L f.write (p+k)with
      | nil=>exact absurd hk2 (h2 k hk)
      | cons y m=>
        have hy:y∈kindR L f.write (p+k):=by rw[hk2];simp
        exact⟨y,mem_gatherR.2 ⟨k,hk,hy⟩,(mem_kindR.1 hy).2.1⟩
theorem Sel.kind{L:List Req}{head p n:Nat}{sel:List Req}(h:Sel L head p n sel):∃ w,∀ r∈sel,r.write=w:=by
 obtain⟨f,t,_,⟨_,_,e⟩ |⟨_,e,_⟩⟩:=h.form
 ·exact⟨f.write,fun r hr=>by rw[e]at hr;rw[List.mem_singleton.1 hr]⟩
 ·exact⟨f.write,fun r hr=>by
   rw[e]at hr
   obtain⟨i,_,hm⟩:=mem_gatherR.1 hr
   exact (mem_kindR.1 hm).2.2.1⟩
theorem len_one{l:List Req}(hn:l.Nodup)(h:∀ a∈l,∀ b∈l,a=b):l.length<=1:=by
 match l,hn,h with
 | [],_,_=>simp
 | [_],_,_=>simp
 | a :: b :: t,hn,h=>
   have:=h a (by simp) b (by simp)
   subst this
   simp at hn
theorem gather_nodup{L:List Req}(hL:L.Nodup)(w:Bool)(p n:Nat):(gatherR (kindR L w) p n).Nodup:=by
 unfold gatherR List.Nodup
 refine List.pairwise_flatMap.2 ⟨fun i _=>(hL.filter _).filter _,(List.pairwise_lt_range (n:=n)).imp fun {i j} hij x hx y hy e=>?_⟩
 have h1:=(mem_kindR.1 hx).2.1
 have h2:=(mem_kindR.1 hy).2.1
 subst e
 omega
theorem gather_succR(K:Nat->List Req)(a j:Nat):gatherR K a (j+1)=gatherR K a j ++ K (a+j):=by simp[gatherR,List.range_succ,List.flatMap_append]
theorem gather_len_ge{K:Nat->List Req}{p:Nat}:∀ n,(∀ i,i<n->K (p+i)≠[])->n<=(gatherR K p n).length
 | 0,_=>by simp
 | n+1,h=>by
   rw[gather_succR,List.length_append]
   have:=gather_len_ge n fun i hi=>h i (by omega)
   have h2:0<(K (p+n)).length:=List.length_pos_iff.2 (h n (by omega))
   omega
theorem gather_len_le{K:Nat->List Req}{p:Nat}:∀ n,(∀ i,i<n->(K (p+i)).length<=1)->(gatherR K p n).length<=n
 | 0,_=>by simp[gatherR]
 | n+1,h=>by
   rw[gather_succR,List.length_append]
   have:=gather_len_le n fun i hi=>h i (by omega)
   have h2:=h n (by omega)
   omega
theorem ready_alone{now:Int}{rs:List Req}(hs:rs.Pairwise (·.num < ·.num)){a b:Req}(ha:a∈readyR now rs)(hb:b∈readyR now rs)(hp:a.page=b.page)(hw:a.write=true):a=b:=by
 obtain⟨a1,a2,a3,a4⟩:=mem_readyR ha
 obtain⟨b1,b2,b3,b4⟩:=mem_readyR hb
 by_cases h:a.num=b.num
 ·exact rnum_inj hs a1 b1 h
 ·rcases Int.lt_or_gt_of_ne h with hlt | hlt
  ·have:=b4 a a1
   simp[Req.blocks,hlt,hp,hw,a2]at this
  ·have:=a4 b b1
   simp[Req.blocks,hp,hw,b2]at this
   omega
theorem cmd_some{t:St}(h:t.head<=16){c:Cmd}(hc:t.cmd=some c):t.cs.length<t.depth/\∃ f l,Sel (readyR t.now t.rs) t.head c.page c.count (f :: l)/\c.write=f.write/\c.nums=(f :: l).map (·.num):=by
 unfold St.cmd at hc
 split at hc
 ·cases hc
 ·rename_i hd
  refine⟨by omega,?_⟩
  rcases nextR_spec (L:=readyR t.now t.rs) h with ⟨h1,_⟩ |⟨p,n,f,l,h1,hS⟩
  ·rw[h1]at hc;cases hc
  ·rw[h1]at hc
   simp only[Option.some.injEq]at hc
   subst hc
   exact⟨f,l,hS,rfl,rfl⟩
theorem cmd_none{t:St}(h:t.head<=16)(hc:t.cmd=none):t.depth<=t.cs.length\/∀ k,k<16->pageR (readyR t.now t.rs) k=[]:=by
 unfold St.cmd at hc
 split at hc
 ·exact .inl ‹_›
 ·rcases nextR_spec (L:=readyR t.now t.rs) h with ⟨h1,h2⟩ |⟨p,n,f,l,h1,hS⟩
  ·exact .inr h2
  ·rw[h1]at hc;cases hc
theorem Sel.numsIn{t:St}{head p n:Nat}{sel:List Req}(hs:t.rs.Pairwise (·.num < ·.num))(h:Sel (readyR t.now t.rs) head p n sel){r:Req}(hr:r∈t.rs)(hn:r.num∈sel.map (·.num)):r∈sel:=by
 obtain⟨x,hx,e⟩:=List.mem_map.1 hn
 have:=rnum_inj hs (mem_readyR (h.mem x hx).1).1 hr e
 rwa [this]at hx
theorem Sel.nodup{t:St}{head p n:Nat}{sel:List Req}(hs:t.rs.Pairwise (·.num < ·.num))(h:Sel (readyR t.now t.rs) head p n sel):(sel.map (·.num)).Nodup:=by
 have hL:(readyR t.now t.rs).Nodup:=(byPageR_nodup (nodup_of_nums hs)).filter _
 have h1:sel.Nodup:=by
  obtain⟨f,l,_,⟨_,_,e⟩ |⟨_,e,_⟩⟩:=h.form
  ·rw[e];simp
  ·rw[e];exact gather_nodup hL _ _ _
 refine List.pairwise_map.2 (h1.imp_of_mem fun {a b} ha hb hab e=>hab ?_)
 exact rnum_inj hs (mem_readyR (h.mem a ha).1).1 (mem_readyR (h.mem b hb).1).1 e
theorem ok_sent{t:St}(h:t.Ok){c:Cmd}(hc:t.cmd=some c):(t.sent c).Ok:=by
 obtain⟨hd,f,l,hS,hw,hns⟩:=cmd_some h.a.head hc
 obtain⟨sel,hsel⟩:∃ sel,f :: l=sel:=⟨_,rfl⟩
 have hfs:f∈sel:=by rw[<-hsel];simp
 rw[hsel]at hS hns
 obtain⟨w,hkind⟩:=hS.kind
 have hcw:c.write=w:=hw.trans (hkind f hfs)
 have hs:=h.a.rs.nums
 have hin:∀ r∈t.rs,r.num∈c.nums->r∈sel:=fun r hr hn=>hS.numsIn hs hr (hns ▸ hn)
 have hto:∀ r∈sel,r∈t.rs/\r.num∈c.nums/\r.state=0/\∀ o∈t.rs,o.blocks r=false:=fun r hr=>by
  obtain⟨a,b,_,d⟩:=mem_readyR (hS.mem r hr).1
  exact⟨a,by rw[hns];exact List.mem_map_of_mem hr,b,d⟩
 have hair:∀ r∈t.rs,r.num∈c.nums->r.inAir=false:=fun r hr hn=>by
  cases ha:r.inAir with
  | false=>rfl
  | true=>have:=(h.a.rs.ok r hr).air ha;have:=(hto r (hin r hr hn)).2.2.1;omega
 have hnd:(t.cs.flatMap (·.nums) ++ c.nums).Nodup:=by
  rw[List.nodup_append]
  refine⟨h.a.rs.nodup,hns ▸ hS.nodup hs,fun a ha b hb e=>?_⟩
  subst e
  obtain⟨r,hr,h1,h2⟩:=h.a.rs.fly a ha
  subst h1
  rw[hair r hr hb]at h2;cases h2
 have hfl:(t.sent c).cs.flatMap (·.nums)=t.cs.flatMap (·.nums) ++ c.nums:=by simp[St.sent]
 have hrs:RsOk t.last ((t.rs.map fun r=>if r.num∈c.nums then sentR r else r)) (t.cs.flatMap (·.nums) ++ c.nums):=by
  refine h.a.rs.map _ (fun x=>by split <;> rfl) (fun x=>by split <;> rfl) (fun x=>by split <;> rfl) (fun x hx=>?_) (fun x hx=>?_) hnd (fun m hm=>?_) (fun x hx ha=>?_) (fun x hx ha=>?_)
  ·have ho:=h.a.rs.ok x hx
   split
   ·rename_i hm
    have h0:=(hto x (hin x hx hm)).2.2.1
    refine⟨ho.page,by simp[sentR],ho.tries,fun _=>ho.try3 (by simp[Req.live,h0]),fun _=>.inl rfl,fun _=>rfl,fun ht=>?_,ho.byte⟩
    have:=(ho.told ht).1
    omega
   ·exact ho
  ·split
   ·rename_i hm
    intro _
    have h0:=(hto x (hin x hx hm)).2.2.1
    simp[Req.live,h0]
   ·exact id
  ·rcases List.mem_append.1 hm with hm | hm
   ·obtain⟨x,hx,h1,h2⟩:=h.a.rs.fly m hm
    exact⟨x,hx,h1,by split <;> first | rfl | exact h2⟩
   ·rw[hns]at hm
    obtain⟨x,hx,rfl⟩:=List.mem_map.1 hm
    exact⟨x,(hto x hx).1,rfl,by rw[if_pos (hto x hx).2.1];rfl⟩
  ·split at ha
   ·exact List.mem_append_right _ ‹_›
   ·exact List.mem_append_left _ (h.a.rs.airs x hx ha)
  ·split at ha
   ·exact .inr (hto x (hin x hx ‹_›)).2.2.2
   ·exact .inl ha
 refine⟨⟨h.a.depth,by have:=hS.pn;simp only[St.sent];omega,h.a.dlen,h.a.dbyte,h.a.last,h.a.now,by rw[hfl];exact hrs,?_,h.a.h40,sent_soon h.a.soon c⟩,by simp only[St.sent,List.length_append,List.length_singleton];omega,fun x hx=>?_⟩
 ·show t.held=_
  rw[h.a.held]
  simp only[St.sent]
  rw[filter_len_map]
  intro x _
  split <;> rfl
 ·have hmono:∀ (nums:List Int),∀ r∈t.rs,r.num∈nums->∃ r'∈(t.sent c).rs,r'.num=r.num/\r'.write=r.write/\r'.page=r.page:=fun _ r hr _=>
   ⟨_,List.mem_map_of_mem hr,by split <;> rfl,by split <;> rfl,by split <;> rfl⟩
  rcases List.mem_append.1 hx with hx | hx
  ·exact (h.cmds x hx).mono (hmono _)
  ·rw[List.mem_singleton.1 hx]
   refine CmdOk.mono (rs:=t.rs) ⟨⟨hS.n1,hS.n4⟩,hS.pn,?_,?_,?_,?_⟩ (hmono _)
   ·rw[hns,List.length_map]
    obtain⟨g,m,_,⟨_,e1,e⟩ |⟨_,e,e2,_⟩⟩:=hS.form
    ·rw[e,e1];simp
    ·rw[e];exact gather_len_ge _ e2
   ·intro hwt
    rw[hns,List.length_map]
    obtain⟨g,m,hg,⟨_,e1,e⟩ |⟨_,e,e2,_⟩⟩:=hS.form
    ·rw[e,e1];simp
    ·have h1:=gather_len_ge _ e2
     have hgw:g.write=true:=by
      have h2:f∈gatherR (kindR (readyR t.now t.rs) g.write) c.page c.count:=e ▸ hfs
      obtain⟨i,_,hm⟩:=mem_gatherR.1 h2
      rw[<-(mem_kindR.1 hm).2.2.1,<-hw];exact hwt
     have hL:(readyR t.now t.rs).Nodup:=(byPageR_nodup (nodup_of_nums hs)).filter _
     have h2:=gather_len_le (K:=kindR (readyR t.now t.rs) g.write) (p:=c.page) c.count fun i _=>len_one ((hL.filter _).filter _) fun a ha b hb=>by
      obtain⟨a1,a2,a3,_⟩:=mem_kindR.1 ha
      obtain⟨b1,b2,b3,_⟩:=mem_kindR.1 hb
      exact ready_alone hs a1 b1 (a2.trans b2.symm) (a3.trans hgw)
     rw[e];omega
   ·intro n hn
    rw[hns]at hn
    obtain⟨r,hr,rfl⟩:=List.mem_map.1 hn
    exact⟨r,(hto r hr).1,rfl,(hkind r hr).trans hcw.symm,(hS.mem r hr).2.1,(hS.mem r hr).2.2⟩
   ·intro p h1 h2
    obtain⟨r,hr,e⟩:=hS.all (p - c.page).toNat (by omega)
    exact⟨r,(hto r hr).1,(hto r hr).2.1,by omega⟩
theorem dput_len(d:List Int)(p:Int)(b:B4):(dput d p b).length=d.length:=by simp[dput]
theorem mem_dput{d:List Int}{p:Int}{b:B4}{x:Int}(h:x∈dput d p b):x∈d\/x=b.a\/x=b.b\/x=b.c\/x=b.d:=by
 unfold dput at h
 rcases List.mem_or_eq_of_mem_set h with h | h
 ·rcases List.mem_or_eq_of_mem_set h with h | h
  ·rcases List.mem_or_eq_of_mem_set h with h | h
   ·rcases List.mem_or_eq_of_mem_set h with h | h
    ·exact .inl h
    ·exact .inr (.inl h)
   ·exact .inr (.inr (.inl h))
  ·exact .inr (.inr (.inr (.inl h)))
 ·exact .inr (.inr (.inr (.inr h)))
theorem dput_byte{d:List Int}{p:Int}{b:B4}(h:∀ x∈d,0<=x/\x<=255)(hb:BOk b):∀ x∈dput d p b,0<=x/\x<=255:=fun x hx=>by
 obtain⟨h1,h2,h3,h4⟩:=hb
 rcases mem_dput hx with h' | h' | h' | h' | h'
 ·exact h x h'
 ·rw[h'];exact h1
 ·rw[h'];exact h2
 ·rw[h'];exact h3
 ·rw[h'];exact h4
theorem dget_byte{d:List Int}(h:∀ x∈d,0<=x/\x<=255)(p:Int):BOk (dget d p):=by
 have g:∀ i,0<=d.getD i 0/\d.getD i 0<=255:=fun i=>by
  rw[List.getD_eq_getElem?_getD]
  cases hi:d[i]? with
  | none=>simp
  | some x=>simpa using h x (List.mem_of_getElem? hi)
 exact⟨g _,g _,g _,g _⟩
theorem landR_num(now:Int)(disk:List Int)(fault:Bool)(r:Req):(St.landR now disk fault r).num=r.num/\(St.landR now disk fault r).page=r.page/\(St.landR now disk fault r).write=r.write/\(St.landR now disk fault r).inAir=false/\(St.landR now disk fault r).told=r.told:=by
 unfold St.landR
 simp only
 split
 ·split
  ·exact⟨rfl,rfl,rfl,rfl,rfl⟩
  ·split <;> exact⟨rfl,rfl,rfl,rfl,rfl⟩
 ·exact⟨rfl,rfl,rfl,rfl,rfl⟩
theorem okA_land{t:St}{n:Int}{air:List Int}(h:t.OkA (n :: air))(fault:Bool):(t.land fault n).OkA air:=by
 obtain⟨r,hr,hrn,hra⟩:=h.rs.fly n (by simp)
 have key:∀ x∈t.rs,x.num=n->x=r:=fun x hx hxn=>rnum_inj h.rs.nums hx hr (by omega)
 subst hrn
 have hf:=find_num h.rs.nums hr
 have hro:=h.rs.ok r hr
 have hlo:=landR_num t.now t.disk fault r
 have hnum:∀ x,(if x.num=r.num then St.landR t.now t.disk fault x else x).num=x.num:=fun x=>by split;exact (landR_num ..).1;rfl
 have hpage:∀ x,(if x.num=r.num then St.landR t.now t.disk fault x else x).page=x.page:=fun x=>by split;exact (landR_num ..).2.1;rfl
 have hwr:∀ x,(if x.num=r.num then St.landR t.now t.disk fault x else x).write=x.write:=fun x=>by split;exact (landR_num ..).2.2.1;rfl
 have hnd:=h.rs.nodup
 rw[List.nodup_cons]at hnd
 have hairx:∀ x∈t.rs,(if x.num=r.num then St.landR t.now t.disk fault x else x).inAir=true->x.inAir=true/\x.num≠r.num:=fun x hx ha=>by
  split at ha
  ·rw[(landR_num ..).2.2.2.1]at ha;cases ha
  ·exact⟨ha,‹_›⟩
 have hbd:BOk (if !fault && !r.write then dget t.disk r.page else r.data):=by
  split
  ·exact dget_byte h.dbyte _
  ·exact hro.byte
 have hdrop:∀ x∈t.rs,x.num=r.num->x.told=false->ROk (St.landR t.now t.disk fault x):=fun x hx hxn ht=>by
  have hxr:=key x hx hxn
  subst hxr
  have h3:=hro.try3 (by simp[Req.live,hra])
  have h4:=hro.tries
  unfold St.landR
  simp only
  split
  ·split
   ·exact⟨hro.page,by simp,by simp;omega,by simp[Req.live],by simp,by simp,by simp[ht],hbd⟩
   ·split
    ·exact⟨hro.page,by simp,by simp;omega,by simp[Req.live],by simp,by simp,by simp[ht],hbd⟩
    ·exact⟨hro.page,by simp,by simp;omega,by simp;omega,by simp,by simp,by simp[ht],hbd⟩
  ·rename_i hs1
   have hs4:x.state=4:=by rcases hro.air hra with h1 | h1 <;> omega
   exact⟨hro.page,by simp[hs4],by simp;omega,by simp[Req.live,hs4],by simp,by simp[hs4],by simp[ht],hbd⟩
 have hrs:RsOk t.last (((t.rs.filter fun x=>!(x.num == r.num && x.told)).map fun x=>if x.num=r.num then St.landR t.now t.disk fault x else x)) air:=by
  have hfil:∀ x∈t.rs.filter fun x=>!(x.num == r.num && x.told),x∈t.rs/\(x.num=r.num->x.told=false):=fun x hx=>by
   obtain⟨h1,h2⟩:=List.mem_filter.1 hx
   refine⟨h1,fun e=>?_⟩
   simpa[e]using h2
  refine⟨?_,fun x hx=>?_,fun x hx=>?_,hnd.2,fun m hm=>?_,fun x hx ha=>?_,fun x hx ha o ho=>?_⟩
  ·refine List.pairwise_map.2 ((h.rs.nums.filter _).imp fun {a b} hab=>?_)
   rw[hnum,hnum];exact hab
  ·obtain⟨y,hy,rfl⟩:=List.mem_map.1 hx
   rw[hnum];exact h.rs.num y (hfil y hy).1
  ·obtain⟨y,hy,rfl⟩:=List.mem_map.1 hx
   split
   ·rename_i e;exact hdrop y (hfil y hy).1 e ((hfil y hy).2 e)
   ·exact h.rs.ok y (hfil y hy).1
  ·obtain⟨y,hy,h1,h2⟩:=h.rs.fly m (List.mem_cons_of_mem _ hm)
   have hne:y.num≠r.num:=fun e=>hnd.1 (by rw[<-e,h1];exact hm)
   exact⟨_,List.mem_map_of_mem (List.mem_filter.2 ⟨hy,by simp[hne]⟩),by rw[if_neg hne];exact h1,by rw[if_neg hne];exact h2⟩
  ·obtain⟨y,hy,rfl⟩:=List.mem_map.1 hx
   obtain⟨h1,h2⟩:=hairx y (hfil y hy).1 ha
   rw[hnum]
   have:=h.rs.airs y (hfil y hy).1 h1
   rcases List.mem_cons.1 this with e | e
   ·exact absurd e h2
   ·exact e
  ·obtain⟨y,hy,rfl⟩:=List.mem_map.1 hx
   obtain⟨z,hz,rfl⟩:=List.mem_map.1 ho
   obtain⟨h1,h2⟩:=hairx y (hfil y hy).1 ha
   refine blocks_eq (hnum z) (hpage z) (hwr z) (hnum y) (hpage y) (hwr y) (fun hl=>?_) (h.rs.free y (hfil y hy).1 h1 z (hfil z hz).1)
   split at hl
   ·rename_i e
    rw[key z (hfil z hz).1 e];simp[Req.live,hra]
   ·exact hl
 have he:((t.rs.map fun x=>if x.num=r.num then St.landR t.now t.disk fault x else x).filter fun x=>!(x.num == r.num && (x.told && !x.inAir)))=((t.rs.filter fun x=>!(x.num == r.num && x.told)).map fun x=>if x.num=r.num then St.landR t.now t.disk fault x else x):=by
  rw[List.filter_map]
  congr 1
  refine List.filter_congr fun x hx=>?_
  simp only[Function.comp]
  by_cases e:x.num=r.num
  ·rw[if_pos e]
   have:=landR_num t.now t.disk fault x
   rw[this.1,this.2.2.2.1,this.2.2.2.2];simp[e]
  ·have e':(x.num == r.num)=false:=by simpa using e
   rw[if_neg e,e'];rfl
 have hL:t.land fault r.num={t with rs:=((t.rs.filter fun x=>!(x.num == r.num && x.told)).map fun x=>if x.num=r.num then St.landR t.now t.disk fault x else x),disk:=St.landD t.disk fault r}:=by
  unfold St.land
  rw[hf,<-he]
 rw[hL]
 refine⟨h.depth,h.head,?_,?_,h.last,h.now,hrs,?_,h.h40,by have:=land_soon h.soon fault r.num;rw[hL]at this;exact this⟩
 ·show (St.landD t.disk fault r).length=64
  unfold St.landD
  split
  ·rw[dput_len];exact h.dlen
  ·exact h.dlen
 ·show ∀ b∈St.landD t.disk fault r,0<=b/\b<=255
  unfold St.landD
  split
  ·exact dput_byte h.dbyte hro.byte
  ·exact h.dbyte
 ·show t.held=_
  rw[h.held,List.filter_map,List.length_map,List.filter_filter]
  congr 2
  refine List.filter_congr fun x hx=>?_
  simp only[Function.comp]
  by_cases e:x.num=r.num
  ·rw[if_pos e,(landR_num ..).2.2.2.2];cases x.told <;> simp[e]
  ·rw[if_neg e];simp[e]
theorem land_same{t:St}(fault:Bool)(n:Int):(t.land fault n).depth=t.depth/\(t.land fault n).cs=t.cs/\(t.land fault n).head=t.head/\(t.land fault n).now=t.now/\(t.land fault n).last=t.last/\(t.land fault n).held=t.held:=by
 unfold St.land
 split <;> exact⟨rfl,rfl,rfl,rfl,rfl,rfl⟩
theorem okA_lands(fault:Bool):∀ (ns:List Int) (t:St) (air:List Int),t.OkA (ns ++ air)->(ns.foldl (St.land fault) t).OkA air
 | [],_,_,h=>h
 | n :: ns,_,air,h=>okA_lands fault ns _ air (okA_land (n:=n) h fault)
theorem lands_same(fault:Bool):∀ (ns:List Int) (t:St),(ns.foldl (St.land fault) t).depth=t.depth/\(ns.foldl (St.land fault) t).cs=t.cs/\(ns.foldl (St.land fault) t).head=t.head/\(ns.foldl (St.land fault) t).now=t.now/\(ns.foldl (St.land fault) t).last=t.last/\(ns.foldl (St.land fault) t).held=t.held
 | [],_=>⟨rfl,rfl,rfl,rfl,rfl,rfl⟩
 | n :: ns,t=>by
   obtain⟨a1,a2,a3,a4,a5,a6⟩:=land_same (t:=t) fault n
   obtain⟨b1,b2,b3,b4,b5,b6⟩:=lands_same fault ns (t.land fault n)
   exact⟨b1.trans a1,b2.trans a2,b3.trans a3,b4.trans a4,b5.trans a5,b6.trans a6⟩
theorem land_keeps{t:St}(fault:Bool)(n:Int){r:Req}(hr:r∈t.rs)(hn:r.num≠n):r∈(t.land fault n).rs:=by
 unfold St.land
 split
 ·exact hr
 ·refine List.mem_filter.2 ⟨List.mem_map.2 ⟨r,hr,if_neg hn⟩,by simp[hn]⟩
theorem lands_keep(fault:Bool):∀ (ns:List Int) {t:St} {r:Req},r∈t.rs->r.num ∉ ns->r∈(ns.foldl (St.land fault) t).rs
 | [],_,_,h,_=>h
 | n :: ns,_,_,h,hn=>by
   rw[List.mem_cons,not_or]at hn
   exact lands_keep fault ns (land_keeps fault n h hn.1) hn.2
theorem perm_erase{α:Type}{l:List α}{k:Nat}{a:α}(hk:k<l.length)(h:l[k]=a):l.Perm (a :: l.eraseIdx k):=by
 have e1:l=l.take k ++ a :: l.drop (k+1):=by
  conv=>lhs;rw[<-List.take_append_drop k l,List.drop_eq_getElem_cons hk,h]
 have e2:l.eraseIdx k=l.take k ++ l.drop (k+1):=List.eraseIdx_eq_take_drop_succ ..
 rw[e2]
 conv=>lhs;rw[e1]
 exact List.perm_middle
theorem ok_complete{t t':St}(h:t.Ok){k:Nat}{fault:Bool}(hc:t.complete k fault=some t'):t'.Ok:=by
 unfold St.complete at hc
 cases hk:t.cs[k]? with
 | none=>rw [hk]at hc;cases hc
 | some c=>
   rw[hk]at hc
   simp only[Option.some.injEq]at hc
   obtain⟨hlt,hck⟩:=List.getElem?_eq_some_iff.1 hk
   have hperm:(t.cs.flatMap (·.nums)).Perm (c.nums ++ (t.cs.eraseIdx k).flatMap (·.nums)):=by
    have h1:t.cs.Perm (c :: t.cs.eraseIdx k):=perm_erase hlt hck
    have:=h1.flatMap_right (·.nums)
    simpa using this
   have hA:({t with cs:=t.cs.eraseIdx k}:St).OkA (c.nums ++ (t.cs.eraseIdx k).flatMap (·.nums)):=
    ⟨h.a.depth,h.a.head,h.a.dlen,h.a.dbyte,h.a.last,h.a.now,⟨h.a.rs.nums,h.a.rs.num,h.a.rs.ok,hperm.nodup_iff.1 h.a.rs.nodup,fun n hn=>h.a.rs.fly n (hperm.mem_iff.2 hn),fun r hr ha=>hperm.mem_iff.1 (h.a.rs.airs r hr ha),h.a.rs.free⟩,h.a.held,h.a.h40,h.a.soon⟩
   have hL:=okA_lands fault c.nums _ _ hA
   obtain⟨a1,a2,a3,a4,a5,a6⟩:=lands_same fault c.nums {t with cs:=t.cs.eraseIdx k}
   have hnd:=hA.rs.nodup
   rw[List.nodup_append]at hnd
   subst hc
   refine⟨by rw[a2];exact hL,?_,fun x hx=>?_⟩
   ·rw[a2,a1]
    show (t.cs.eraseIdx k).length<=t.depth
    have:=h.len
    exact Nat.le_trans (List.length_eraseIdx_le _ _) this
   ·rw[a2]at hx
    have hx':x∈t.cs:=(List.eraseIdx_sublist _ _).subset hx
    refine (h.cmds x hx').mono fun r hr hrx=>⟨r,lands_keep fault c.nums (t:={t with cs:=t.cs.eraseIdx k}) hr fun hm=>?_,rfl,rfl,rfl⟩
    exact hnd.2.2 r.num hm r.num (List.mem_flatMap.2 ⟨x,hx,hrx⟩) rfl
end
section
open Go.RowKit Go.Shelf Go.Lib
def Sta.er(s:Sta):St:=⟨s.depth,s.es.map (·.r),s.last,s.held,s.cs.map (·.1),s.now,s.head,s.disk⟩
def QT(w:World)(q:Nat)(t:St)(F:Nat->Prop):Prop:=∃ s,QAt w q s F/\s.er=t
structure St.Small(t:St):Prop where
 last:t.last<900000
 now:t.now<2 ^ 59
theorem QT.kept{w W:World}{q:Nat}{t:St}{F:Nat->Prop}(h:QT w q t F){S:Nat->Prop}(hc:Chg S w W)(hn:∀ k,F k->¬S k):QT W q t F:=by
 obtain⟨s,h1,h2⟩:=h
 exact⟨s,h1.kept hc hn,h2⟩
theorem QT.below{w W:World}{q:Nat}{t:St}{F:Nat->Prop}(h:QT w q t F)(hb:Below w.heap.size w W):QT W q t F:=h.kept (chgB hb fun _=>False) fun _ _ x=>x
theorem QT.mono{w:World}{q:Nat}{t:St}{F G:Nat->Prop}(h:QT w q t F)(hFG:∀ k,F k->G k):QT w q t G:=by
 obtain⟨s,h1,h2⟩:=h
 exact⟨s,h1.mono hFG,h2⟩
theorem QT.lt{w:World}{q:Nat}{t:St}{F:Nat->Prop}(h:QT w q t F):QT w q t fun k=>F k/\k<w.heap.size:=by
 obtain⟨s,⟨tb,mb,clock,fv,h1,h2⟩,h3⟩:=h
 exact⟨s,⟨tb,mb,clock,fv,h1,fun k hk=>⟨h2 k hk,h1.foot_lt hk⟩⟩,h3⟩
theorem QT.qlt{w:World}{q:Nat}{t:St}{F:Nat->Prop}(h:QT w q t F):q<w.heap.size/\F q:=by
 obtain⟨s,⟨tb,mb,clock,fv,h1,h2⟩,h3⟩:=h
 exact⟨h1.foot_lt (.inl rfl),h2 q (.inl rfl)⟩
theorem nums_len{last:Int}:∀ {rs:List Req} (lo:Int),rs.Pairwise (·.num < ·.num)->(∀ r∈rs,lo<r.num/\r.num<=last)->lo<=last->(rs.length:Int)<=last - lo
 | [],_,_,_,h=>by simp;omega
 | r :: rs,lo,hp,hr,h=>by
   rw[List.pairwise_cons]at hp
   have h1:=hr r (by simp)
   have:=nums_len (last:=last) r.num hp.2 (fun x hx=>⟨hp.1 x hx,(hr x (by simp[hx])).2⟩) h1.2
   simp;omega
theorem ok_len{t:St}(h:t.Ok):(t.rs.length:Int)<=t.last:=by
 have:=nums_len (last:=t.last) 0 h.a.rs.nums (fun r hr=>by have:=h.a.rs.num r hr;omega) h.a.last
 omega
theorem er_find{s:Sta}{n:Int}:s.er.find n=(findE s.es n).map (·.r):=by
 unfold St.find findE Sta.er
 simp only[List.find?_map]
 rfl
theorem er_find_none{s:Sta}{n:Int}(h:s.er.find n=none):findE s.es n=none:=by
 rw[er_find]at h
 simpa using h
theorem er_find_some{s:Sta}{n:Int}{r:Req}(h:s.er.find n=some r):∃ e,findE s.es n=some e/\e.r=r:=by
 rw[er_find]at h
 simpa[Option.map_eq_some_iff]using h
theorem land_er{es:List Ent}(hok:EntsOk es){e:Ent}(he:e∈es)(f:Req->Req)(hf:(f e.r).num=e.r.num):
  (landE (updE es e.r.num f) ⟨f e.r,e.p,e.born⟩).map (·.r)=((es.map (·.r)).map fun r=>if r.num=e.r.num then f r else r).filter fun r=>!(r.num == e.r.num && (r.told && !r.inAir)):=by
 obtain⟨l1,l2,rfl,h1,h2⟩:=hok.split he
 have g1:∀ x∈l1.map (·.r),x.num≠e.r.num:=fun x hx=>by obtain⟨y,hy,rfl⟩:=List.mem_map.1 hx;exact h1 y hy
 have g2:∀ x∈l2.map (·.r),x.num≠e.r.num:=fun x hx=>by obtain⟨y,hy,rfl⟩:=List.mem_map.1 hx;exact h2 y hy
 rw[List.map_append,List.map_cons,map_split f g1 g2,drop_split g1 g2 (f e.r) hf,updE_split f rfl h1 h2]
 unfold landE
 simp only
 split
 ·have hd:dropE (l1 ++⟨f e.r,e.p,e.born⟩ :: l2) (f e.r).num=l1 ++ l2:=dropE_split (e:=⟨f e.r,e.p,e.born⟩) (fun x hx=>by show x.r.num≠(f e.r).num;rw[hf];exact h1 x hx) (fun x hx=>by show x.r.num≠(f e.r).num;rw[hf];exact h2 x hx)
  rw[hd,List.map_append]
 ·rw[List.map_append,List.map_cons]
theorem er_tell{s:Sta}(hok:EntsOk s.es){e:Ent}{n:Int}(he:e∈s.es)(hn:e.r.num=n):({s with es:=tellE s.es e,held:=s.held - 1}:Sta).er=s.er.tell n:=by
 subst hn
 unfold Sta.er St.tell St.tellRs tellE
 simp only
 rw[land_er hok he tellR rfl]
theorem er_give{s:Sta}{n:Int}(f:Req->Req):({s with es:=updE s.es n f}:Sta).er={s.er with rs:=s.er.rs.map fun r=>if r.num=n then f r else r}:=by
 unfold Sta.er updE
 simp only[List.map_map]
 congr 1
 refine List.map_congr_left fun x _=>?_
 simp only[Function.comp]
 split <;> rfl
theorem er_land{s:Sta}(hok:EntsOk s.es)(fault:Bool)(n:Int):(landS fault s n).er=s.er.land fault n:=by
 cases hf:s.es.find? fun e=>e.r.num == n with
 | none=>
   have hf2:(s.er.rs.find? fun r=>r.num == n)=none:=by
    unfold Sta.er
    simp only[List.find?_map]
    rw[show ((fun r:Req=>r.num == n) ∘ fun e:Ent=>e.r)=fun e:Ent=>e.r.num == n from rfl,hf];rfl
   unfold landS St.land
   rw[hf,hf2]
 | some e=>
   have he:=List.mem_of_find?_eq_some hf
   have hn:=List.find?_some hf
   simp at hn
   subst hn
   have hf2:(s.er.rs.find? fun r=>r.num == e.r.num)=some e.r:=by
    unfold Sta.er
    simp only[List.find?_map]
    rw[show ((fun r:Req=>r.num == e.r.num) ∘ fun x:Ent=>x.r)=fun x:Ent=>x.r.num == e.r.num from rfl,hf];rfl
   unfold landS St.land
   rw[hf,hf2]
   have h1:=landR_num s.now s.disk fault e.r
   have h2:updE s.es e.r.num (fun _=>St.landR s.now s.disk fault e.r)=updE s.es e.r.num (St.landR s.now s.disk fault):=by
    refine List.map_congr_left fun x hx=>?_
    split
    ·rename_i hh
     obtain⟨l1,l2,e1,g1,g2⟩:=hok.split he
     have hxe:x=e:=by
      rw[e1]at hx
      rcases List.mem_append.1 hx with hx | hx
      ·exact absurd hh (g1 x hx)
      ·rcases List.mem_cons.1 hx with hx | hx
       ·exact hx
       ·exact absurd hh (g2 x hx)
     rw[hxe]
    ·rfl
   unfold Sta.er
   simp only
   rw[h2,land_er hok he (St.landR s.now s.disk fault) h1.1]
theorem er_ok{s:Sta}(h:s.er.Ok)(hl:s.er.Small):EntsOk s.es:=by
 refine⟨fun e he=>?_,fun e he=>?_,?_⟩
 ·exact (h.a.rs.ok e.r (List.mem_map_of_mem he)).page
 ·have:=h.a.rs.num e.r (List.mem_map_of_mem he)
  have h2:=hl.last
  have:s.er.last=s.last:=rfl
  omega
 ·have:=h.a.rs.nums
  exact (List.pairwise_map (f:=fun e:Ent=>e.r) (R:=fun x y:Req=>x.num<y.num)).1 this
end
end Go.Proofs.YticobikhndlejaaGreatDoor
