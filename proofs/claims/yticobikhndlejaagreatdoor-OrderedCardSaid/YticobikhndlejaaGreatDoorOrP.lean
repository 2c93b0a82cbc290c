/- Part 16 of the proof (see the last part). -/
import Derived.Test.YticobikhndlejaaGreatDoorOrO
import Derived.Deep.CutRange
import Derived.StillTailTactics
namespace Go.Proofs.YticobikhndlejaaGreatDoor
section
open Go.RowKit Go.Shelf Go.Lib
set_option maxRecDepth 100000
set_option maxHeartbeats 8000000
theorem KB.cells{w:World}{wo q:Nat}{rv:Value}{F:Nat->Prop}{t:St}{rs:List KReq}(h:KB w wo q rv F t rs){i:Nat}{r:KReq}(hi:rs[i]?=some r):∃ g cap cur,rv=.slice (some ⟨g,0,none⟩) rs.length cap/\w.heap[g]?=some (.cells cur 32 (0,0))/\rs.length<=cap/\cap<=maxLen/\cur.size=cap*6/\cur.toList.take (rs.length*6)=rs.flatMap kCells/\
  ∀ j v,(kCells r)[j]?=some v->w.cell? ⟨g,i*6+j,none⟩=some v:=by
 have hil:=(List.getElem?_eq_some_iff.1 hi).1
 rcases h.row.2 with ⟨_,h0⟩ |⟨g,cap,cur,e,_,h3,h4,h5,h6,h7⟩
 ·omega
 ·refine⟨g,cap,cur,e,h3,h4,h5,h6,h7,fun j v hv=>cell_of h3 ?_⟩
  have hj:j<6:=(List.getElem?_eq_some_iff.1 hv).1
  have hfl:∀ (l:List KReq) (k:Nat),l[k]?=some r->(l.flatMap kCells)[k*6+j]?=some v:=fun l=>by
   induction l with
   | nil=>intro k hk;simp at hk
   | cons x l ih=>
     intro k hk
     match k,hk with
     | 0,hk=>
       simp at hk;subst hk
       rw[List.flatMap_cons,List.getElem?_append_left (by simp[kCells];omega)]
       simpa using hv
     | k+1,hk=>
       rw[List.flatMap_cons,List.getElem?_append_right (by simp[kCells];omega)]
       have:=ih k (by simpa using hk)
       rw[show (k+1)*6+j - (kCells x).length=k*6+j from by simp[kCells];omega]
       exact this
  have h1:=hfl rs i hi
  rw[<-h7,List.getElem?_take_of_lt (by omega)]at h1
  rw[<-Array.getElem?_toList];exact h1
theorem own_ge{w:World}{base:Nat}{t:TypeId}{size n k:Nat}{v:Value}{xs:List Value}(h:w.ownsRow base t size v n xs)(hk:v.ownBlock=some k):base<=k:=by
 rcases h.2 with ⟨rfl,_⟩ |⟨g,c,cur,rfl,h2,_⟩
 ·cases hk
 ·cases hk;exact h2
def PD(d:Option B4)(dv:Value)(n:Nat)(F':Nat->Prop)(w:World):Prop:=
 match d with
 | none=>dv=.slice none 0 0
 | some b=>(∀ k,dv.ownBlock=some k->¬F' k)/\w.ownsRow n 5 1 dv 4 (b4Cells b)
theorem PD.chg{d:Option B4}{dv:Value}{n m:Nat}{F' S:Nat->Prop}{w w':World}(h:PD d dv n F' w)(hc:Chg S w w')(hS:∀ k,n<=k->¬S k)(hm:m<=n):PD d dv m F' w':=by
 cases d with
 | none=>exact h
 | some b=>exact ⟨h.1,ownsRow_low (ownsRow_chg h.2 hc fun k hk=>hS k (own_ge h.2 hk)) hm⟩
theorem PD.slice{d:Option B4}{dv:Value}{n:Nat}{F':Nat->Prop}{w:World}(h:PD d dv n F' w):∃ a b c,dv=.slice a b c:=by
 cases d with
 | none=>exact ⟨_,_,_,h⟩
 | some b=>
   obtain⟨a,c,e⟩:=own_slice h.2
   exact⟨_,_,_,e⟩
theorem poll_rel{d:Option B4}{dv:Value}{nc m q:Nat}{t':St}{F F':Nat->Prop}{W0 w2 wx:World}(hm:m<=W0.heap.size)(hnc:W0.heap.size<=nc)(hq:QT w2 q t' F')(hF:∀ k,F' k->(F k/\k<m)\/nc<=k)(hc:Chg (fun k=>F k/\k<m) W0 w2)(hp:PD d dv nc F' w2)(hS:Chg (fun k=>W0.heap.size<=k/\k<nc) w2 wx):
  QT wx q t' F'/\(∀ k,F' k->(F k/\k<m)\/W0.heap.size<=k)/\Chg (fun k=>F k/\k<m) W0 wx/\PD d dv W0.heap.size F' wx:=
 ⟨hq.kept hS fun k hk hs=>(hF k hk).elim (fun h=>by have:=h.2;have:=hs.1;omega) (fun h=>by have:=hs.2;omega),fun k hk=>(hF k hk).imp_right fun h=>by omega,hc.trans (hS.mono fun k _ hk=>.inr hk.1),hp.chg hS (fun k hk hs=>by have:=hs.2;omega) hnc⟩
theorem flat_set(r':KReq)(a0 a1 a2 a3 a4 a5:Value)(h:kCells r'=[a0,a1,a2,a3,a4,a5]):∀ (rs:List KReq) (i:Nat),i<rs.length->
  (rs.set i r').flatMap kCells=((((((rs.flatMap kCells).set (i*6) a0).set (i*6+1) a1).set (i*6+2) a2).set (i*6+3) a3).set (i*6+4) a4).set (i*6+5) a5
 | [],_,hi=>by simp at hi
 | x :: rs,0,_=>by
   simp only[List.set_cons_zero,List.flatMap_cons,h]
   simp[kCells,List.set_append]
 | x :: rs,i+1,hi=>by
   have ih:=flat_set r' a0 a1 a2 a3 a4 a5 h rs i (by simpa using hi)
   simp only[List.set_cons_succ,List.flatMap_cons,ih]
   have hl:(kCells x).length=6:=rfl
   have e:∀ (l:List Value) (j:Nat) (v:Value),(kCells x ++ l).set ((i+1)*6+j) v=kCells x ++ l.set (i*6+j) v:=fun l j v=>by
    rw[List.set_append,if_neg (by omega)]
    congr 2
    omega
   have e0:∀ (l:List Value) (v:Value),(kCells x ++ l).set ((i+1)*6) v=kCells x ++ l.set (i*6) v:=fun l v=>e l 0 v
   rw[e0,e,e,e,e,e]
theorem flat_len:∀ (l:List KReq),(l.flatMap kCells).length=l.length*6
 | []=>rfl
 | x :: l=>by rw[List.flatMap_cons,List.length_append,flat_len l];simp[kCells];omega
theorem KB.set{w W0 wc W5:World}{wo q g cap n m:Nat}{F F':Nat->Prop}{t t':St}{rs:List KReq}{i:Nat}{cur:Array Value}(h:KB w wo q (.slice (some ⟨g,0,none⟩) rs.length cap) F t rs)(hlen:rs.length=n)(hi:i<n)
  (h1:w.heap[g]?=some (.cells cur 32 (0,0))) (h2:rs.length<=cap/\cap<=maxLen) (h3:cur.size=cap*6) (h4:cur.toList.take (rs.length*6)=rs.flatMap kCells)
  (hB:Below w.heap.size w W0) (hm:m=w.heap.size) (hm0:m<W0.heap.size) (hq:QT wc q t' F') (hF:∀ k,F' k->(F k/\k<m)\/W0.heap.size<=k) (hc:Chg (fun k=>F k/\k<m) W0 wc) (hc5:Chg (fun k=>k=m) wc W5)
  (r':KReq) (a0 a1 a2 a3 a4 a5:Value) (hr:kCells r'=[a0,a1,a2,a3,a4,a5]):
  let wf:=(((((W5.setCell ⟨g,i*6,none⟩ a0).setCell ⟨g,i*6+1,none⟩ a1).setCell ⟨g,i*6+2,none⟩ a2).setCell ⟨g,i*6+3,none⟩ a3).setCell ⟨g,i*6+4,none⟩ a4).setCell ⟨g,i*6+5,none⟩ a5
  KB wf wo q (.slice (some ⟨g,0,none⟩) rs.length cap) F' t' (rs.set i r')/\(∀ k,F' k->F k\/w.heap.size<=k)/\Chg (KFoot wo (.slice (some ⟨g,0,none⟩) rs.length cap) F) w wf:=by
 intro wf
 have hglt:=lt_of_heap h1
 have hwlt:=lt_of_heap h.blk
 have hgw:wo≠g:=h.ne rfl
 have hgF:¬F g:=h.nor g rfl
 have hs0:=hB.size
 have hc0:Chg (fun k=>F k/\k<m) w wc:=(chgB hB _).then hc
 have hcw:Chg (fun k=>F k/\k<m) w W5:=hc0.trans (hc5.mono fun k _ hk=>.inr (by omega))
 have h5:W5.heap[g]?=some (.cells cur 32 (0,0)):=(hcw.block g hglt fun hh=>hgF hh.1).trans h1
 have hset:Chg (fun k=>k=g) W5 wf:=((((((Chg.refl (fun k=>k=g) W5).setCell (p:=⟨g,i*6,none⟩) (.inl rfl) a0).setCell (p:=⟨g,i*6+1,none⟩) (.inl rfl) a1).setCell (p:=⟨g,i*6+2,none⟩) (.inl rfl) a2).setCell (p:=⟨g,i*6+3,none⟩) (.inl rfl) a3).setCell (p:=⟨g,i*6+4,none⟩) (.inl rfl) a4).setCell (p:=⟨g,i*6+5,none⟩) (.inl rfl) a5
 have hgF':¬F' g:=fun hk=>(hF g hk).elim (fun x=>hgF x.1) fun x=>by omega
 have hwF':¬F' wo:=fun hk=>(hF wo hk).elim (fun x=>h.now x.1) fun x=>by omega
 have hcwf:Chg (fun k=>(F k/\k<m)\/k=g) w wf:=(hcw.mono fun k _ hk=>.inl hk).then (hset.mono fun k _ hk=>.inr hk)
 refine⟨⟨?_,⟨?_,.inr ⟨g,cap,(((((cur.setIfInBounds (i*6) a0).setIfInBounds (i*6+1) a1).setIfInBounds (i*6+2) a2).setIfInBounds (i*6+3) a3).setIfInBounds (i*6+4) a4).setIfInBounds (i*6+5) a5,?_,Nat.zero_le _,?_,?_,h2.2,?_,?_⟩⟩,?_,hwF',?_⟩,fun k hk=>(hF k hk).imp (fun x=>x.1) fun x=>by omega,hcwf.mono fun k _ hk=>hk.elim (fun x=>.inl x.1) fun x=>.inr (.inr (by rw[x];rfl))⟩
 ·exact (hcwf.block wo hwlt fun hh=>hh.elim (fun x=>h.now x.1) hgw).trans h.blk
 ·rw[flat_len]
 ·simp
 ·exact heap_setCell _ (heap_setCell _ (heap_setCell _ (heap_setCell _ (heap_setCell _ (heap_setCell _ h5)))))
 ·simpa using h2.1
 ·simp[h3]
 ·simp only[Array.toList_setIfInBounds]
  rw[flat_set r' a0 a1 a2 a3 a4 a5 hr rs i (by omega),<-h4]
  simp only[List.length_set]
  simp only[List.take_set]
 ·refine (hq.kept hc5 fun k hk hh=>?_).kept hset fun k hk hh=>hgF' (hh ▸ hk)
  rcases hF k hk with x | x
  ·omega
  ·omega
 ·intro k hk hk2
  have:g=k:=by simpa[Value.ownBlock]using hk
  subst this
  exact hgF' hk2
inductive POut(num:Int)(wrt:Bool)(page:Int)(data:ByteArray)(how:Int)(read:ByteArray):Option B4->Int->Int->Int->Int->KReq->Prop
 | write (tr:Int) (h:1<=tr/\tr<=4) (hw:wrt=true):POut num wrt page data how read none tr 0 (-1) 0 ⟨num,wrt,page,data,1,⟨#[]⟩⟩
 | read (b:B4) (tr:Int) (h:1<=tr/\tr<=4) (hb:BOk b) (hw:wrt=false):POut num wrt page data how read (some b) tr 0 (-1) 0 ⟨num,wrt,page,data,1,strOfNums [b.a,b.b,b.c,b.d]⟩
 | bad:POut num wrt page data how read none 0 7 num 4 ⟨num,wrt,page,data,2,read⟩
 | pend (tt:Int) (h:0<=tt/\tt<=3) (h0:how=0):POut num wrt page data how read none 0 6 num tt ⟨num,wrt,page,data,how,read⟩
 | gone (tt:Int) (h:how=3\/how=4):POut num wrt page data how read none 0 8 num tt ⟨num,wrt,page,data,how,read⟩
 | told (h:how=3\/how=4):POut num wrt page data how read none 0 5 (-1) 0 ⟨num,wrt,page,data,how,read⟩
theorem kpoll_any(wo q:Nat)(rv:Value)(F:Nat->Prop)(t t':St)(rs:List KReq)(w:World)(i:Nat)(num:Int)(wrt:Bool)(page:Int)(data:ByteArray)(how:Int)(read:ByteArray)(r':KReq)(d:Option B4)(tr k rr tt:Int)(h:KB w wo q rv F t rs)(hg:ErrVar w)(hi:rs[i]?=some ⟨num,wrt,page,data,how,read⟩)(hh:how≠1/\how≠2)
  (hP:∀ W,QT W q t (fun k=>F k/\k<w.heap.size)->ErrVar W->Calls Tryx.prog 16 #[ptr q,.int .i64 num] W fun y w'=>∃ dv F',y=.returned (.tuple #[.agg #[dv,.int .i64 tr],plErr k rr tt])/\QT w' q t' F'/\(∀ k,F' k->(F k/\k<w.heap.size)\/W.heap.size<=k)/\Chg (fun k=>F k/\k<w.heap.size) W w'/\PD d dv W.heap.size F' w')
  (hO:POut num wrt page data how read d tr k rr tt r'):
  Calls Tryx.prog 27 #[ptr wo,.int .i64 i] w fun y w'=>y=.returned (.bool true)/\∃ F',KB w' wo q rv F' t' (rs.set i r')/\(∀ k,F' k->F k\/w.heap.size<=k)/\Chg (KFoot wo rv F) w w':=by
 have HKo:=Lib.hid h
 have h:=h.lt
 obtain⟨g,cap,cur,rfl,hg2,hg3,hg4,hg5,hg6,hcell⟩:=h.cells hi
 obtain⟨n,hn⟩:∃ n,rs.length=n:=⟨_,rfl⟩
 have hil:i<n:=by rw[<-hn];exact (List.getElem?_eq_some_iff.1 hi).1
 have hiI:(i:Int)<(n:Int):=by omega
 have hi0:(0:Int)<=(i:Int):=by omega
 have p0:w.cell? ⟨g,i*6,none⟩=some (.int .i64 num):=hcell 0 _ rfl
 have p1:w.cell? ⟨g,i*6+1,none⟩=some (.bool wrt):=hcell 1 _ rfl
 have p2:w.cell? ⟨g,i*6+2,none⟩=some (.int .i64 page):=hcell 2 _ rfl
 have p3:w.cell? ⟨g,i*6+3,none⟩=some (.string data):=hcell 3 _ rfl
 have p4:w.cell? ⟨g,i*6+4,none⟩=some (.int .i64 how):=hcell 4 _ rfl
 have p5:w.cell? ⟨g,i*6+5,none⟩=some (.string read):=hcell 5 _ rfl
 have hh1:(how == 1)=false:=by simpa using hh.1
 have hh2:(how == 2)=false:=by simpa using hh.2
 have c0:=h.c0
 have c1:=h.c1
 rw[hn]at c1
 have hwlt:=lt_of_heap h.blk
 have hglt:=lt_of_heap hg2
 obtain⟨W0,hW0⟩:∃ W0,w.alloc (.cells #[.int .i64 num,.bool wrt,.int .i64 page,.string data,.int .i64 how,.string read] 32)=W0:=⟨_,rfl⟩
 have hB0:Below w.heap.size w W0:=by rw[<-hW0];exact (Below.refl _ _).alloc (Nat.le_refl _) _
 have hs0:W0.heap.size=w.heap.size+1:=by rw[<-hW0];simp
 have hr0:W0.heap[w.heap.size]?=some (.cells #[.int .i64 num,.bool wrt,.int .i64 page,.string data,.int .i64 how,.string read] 32 (0,0)):=by rw[<-hW0];exact World.alloc_heap_new w _
 have hK0:=h.below hB0
 have HK:=Lib.hid h
 have HK0:=Lib.hid hK0
 have HG:=Lib.hid (hg.chg (chgB hB0 fun _=>False) fun x=>x)
 have HB0:=Lib.hid hB0
 have HR0:=Lib.hid hr0
 have HG2:=Lib.hid (And.intro hg5 hg6)
 have HI:=Lib.hid hi
 have q0:W0.cell? ⟨wo,0,none⟩=some (ptr q):=hK0.c0
 have q1:W0.cell? ⟨w.heap.size,0,none⟩=some (.int .i64 num):=cell_of hr0 rfl
 have q4:W0.cell? ⟨w.heap.size,4,none⟩=some (.int .i64 how):=cell_of hr0 rfl
 have hPP:∀ W,Below W0.heap.size W0 W->Calls Tryx.prog 16 #[ptr q,.int .i64 num] W fun y w'=>∃ va vn vc F' nc,y=.returned (.tuple #[.agg #[.slice va vn vc,.int .i64 tr],plErr k rr tt])/\nc=W.heap.size/\W0.heap.size<=nc/\QT w' q t' F'/\(∀ k,F' k->(F k/\k<w.heap.size)\/nc<=k)/\Chg (fun k=>F k/\k<w.heap.size) W w'/\Chg (fun k=>F k/\k<w.heap.size) W0 w'/\PD d (.slice va vn vc) nc F' w':=fun W hB=>
  (hP W (hK0.que.below hB) ((hg.chg (chgB hB0 fun _=>False) fun x=>x).chg (chgB hB fun _=>False) fun x=>x)).mono fun y w' ⟨dv,F',e1,e2,e3,e4,e5⟩=>by
    obtain⟨va,vn,vc,rfl⟩:=e5.slice
    exact⟨va,vn,vc,F',_,e1,rfl,hB.size,e2,e3,e4,(chgB hB _).then e4,e5⟩
 have HP:=Lib.hid hPP
 clear hPP
 have hlt0:w.heap.size<W0.heap.size:=by omega
 have hne0:w.heap.size≠W0.heap.size:=by omega
 have hwl0:wo<W0.heap.size:=by omega
 have hne1:wo≠W0.heap.size:=by omega
 have hne2:wo≠W0.heap.size+1:=by omega
 have hne3:w.heap.size≠W0.heap.size+1:=by omega
 have hne4:w.heap.size<W0.heap.size+1:=by omega
 have hne5:wo<W0.heap.size+1:=by omega
 have hne6:wo≠w.heap.size:=by omega
 have hnf1:=hne1.symm
 have hnf2:=hne2.symm
 have hnf3:=hne3.symm
 have hnf0:=hne0.symm
 have HS:=Lib.hid hs0
 clear hs0 h hg hcell hg5 hg6 hi hB0 hr0 hK0 hP
 go_enter Tryx.func27,Tryz.ntmps27
 go_wp2_with fail
 go_cut [6,7]from 24 to 33 (fun s6 s7 wx=>∃ b6 b7 dv F',s6=ptr b6/\s7=ptr b7/\W0.heap.size<=b6/\W0.heap.size<=b7/\wx.cell? ⟨b6,0,none⟩=some dv/\wx.cell? ⟨b6,1,none⟩=some (.int .i64 tr)/\wx.cell? ⟨b7,0,none⟩=some (.int .i64 k)/\wx.cell? ⟨b7,1,none⟩=some (.int .i64 rr)/\wx.cell? ⟨b7,2,none⟩=some (.int .i64 tt)/\wx.cell? ⟨b7,3,none⟩=some (.bool true)/\QT wx q t' F'/\(∀ k,F' k->(F k/\k<w.heap.size)\/W0.heap.size<=k)/\Chg (fun k=>F k/\k<w.heap.size) W0 wx/\PD d dv W0.heap.size F' wx)
 case first=>
  go_region_held3 (fun w'=>w'.cell? ⟨wo,0,none⟩=some (ptr q)/\w'.cell? ⟨w.heap.size,0,none⟩=some (.int .i64 num)) (go_keep)
   (first
     | (go_at_call 16;refine (HP.out _ (by go_grown)).mono ?_;rintro y w2 ⟨va,vn,vc,F',nc,rfl,hncW,hnc0,hq2,hF2,hc2,hc3,hp2⟩
        have hy0:w2.cell? ⟨wo,0,none⟩=some (ptr q):=(hc2.cell (p:=⟨wo,0,none⟩) (by simp;omega) (fun hh=>HK.out.now hh)).trans (by go_keep)
        have hy1:w2.cell? ⟨w.heap.size,0,none⟩=some (.int .i64 num):=(hc2.cell (p:=⟨w.heap.size,0,none⟩) (by simp;omega) (fun hh=>absurd hh.2 (Nat.lt_irrefl _))).trans (by go_keep)
        have hz2:=hc2.size
        try simp at hz2
        have hm1:wo<w2.heap.size:=by omega
        have hm2:w.heap.size<w2.heap.size:=by omega
        have hm3:wo≠w2.heap.size:=by omega
        have hm4:w.heap.size≠w2.heap.size:=by omega
        have hm7:=hm3.symm
        have hm8:=hm4.symm
        have hm9:w2.heap.size+1≠wo:=by omega
        have hm10:w2.heap.size+1≠w.heap.size:=by omega
        have hm5:wo≠w2.heap.size+1:=by omega
        have hm6:w.heap.size≠w2.heap.size+1:=by omega
        try (have hla:W0.heap.size<w2.heap.size:=?zval;case zval=>omega)
        try (have hlb:W0.heap.size+1<w2.heap.size:=?zval;case zval=>omega)
        try (have hna:W0.heap.size≠w2.heap.size:=?zval;case zval=>omega)
        try (have hnb:W0.heap.size+1≠w2.heap.size:=?zval;case zval=>omega)
        try (have hnc:w2.heap.size≠W0.heap.size:=?zval;case zval=>omega)
        try (have hnd:w2.heap.size≠W0.heap.size+1:=?zval;case zval=>omega)
        try (have zaA0:w2.cell? ⟨W0.heap.size,0,none⟩=some (.slice none 0 0):=?zval;case zval=>(refine (hc2.cell (p:=⟨W0.heap.size,0,none⟩) ?_ ?_).trans ?_ <;> first | (intro hh;have hh:W0.heap.size<w.heap.size:=hh.2;have:=HS.out;omega) | (simp;done) | (go_simp;done) | (simp;omega) | omega))
        try (have zaA1:w2.cell? ⟨W0.heap.size,1,none⟩=some (.int .i64 0):=?zval;case zval=>(refine (hc2.cell (p:=⟨W0.heap.size,1,none⟩) ?_ ?_).trans ?_ <;> first | (intro hh;have hh:W0.heap.size<w.heap.size:=hh.2;have:=HS.out;omega) | (simp;done) | (go_simp;done) | (simp;omega) | omega))
        try (have zaE0:w2.cell? ⟨W0.heap.size,0,none⟩=some (.int .i64 0):=?zval;case zval=>(refine (hc2.cell (p:=⟨W0.heap.size,0,none⟩) ?_ ?_).trans ?_ <;> first | (intro hh;have hh:W0.heap.size<w.heap.size:=hh.2;have:=HS.out;omega) | (simp;done) | (go_simp;done) | (simp;omega) | omega))
        try (have zaE1:w2.cell? ⟨W0.heap.size,1,none⟩=some (.int .i64 0):=?zval;case zval=>(refine (hc2.cell (p:=⟨W0.heap.size,1,none⟩) ?_ ?_).trans ?_ <;> first | (intro hh;have hh:W0.heap.size<w.heap.size:=hh.2;have:=HS.out;omega) | (simp;done) | (go_simp;done) | (simp;omega) | omega))
        try (have zaE2:w2.cell? ⟨W0.heap.size,2,none⟩=some (.int .i64 0):=?zval;case zval=>(refine (hc2.cell (p:=⟨W0.heap.size,2,none⟩) ?_ ?_).trans ?_ <;> first | (intro hh;have hh:W0.heap.size<w.heap.size:=hh.2;have:=HS.out;omega) | (simp;done) | (go_simp;done) | (simp;omega) | omega))
        try (have zaE3:w2.cell? ⟨W0.heap.size,3,none⟩=some (.bool false):=?zval;case zval=>(refine (hc2.cell (p:=⟨W0.heap.size,3,none⟩) ?_ ?_).trans ?_ <;> first | (intro hh;have hh:W0.heap.size<w.heap.size:=hh.2;have:=HS.out;omega) | (simp;done) | (go_simp;done) | (simp;omega) | omega))
        try (have zfa:∀ i,w2.frozen? ⟨W0.heap.size,i,none⟩=false:=?zval;case zval=>(intro i;refine (hc2.frozen (p:=⟨W0.heap.size,i,none⟩) ?_ ?_).trans ?_ <;> first | (intro hh;have hh:W0.heap.size<w.heap.size:=hh.2;have:=HS.out;omega) | (simp;done) | (go_simp;done) | (simp;omega) | omega))
        try (have zbA0:w2.cell? ⟨W0.heap.size+1,0,none⟩=some (.slice none 0 0):=?zval;case zval=>(refine (hc2.cell (p:=⟨W0.heap.size+1,0,none⟩) ?_ ?_).trans ?_ <;> first | (intro hh;have hh:W0.heap.size+1<w.heap.size:=hh.2;have:=HS.out;omega) | (simp;done) | (go_simp;done) | (simp;omega) | omega))
        try (have zbA1:w2.cell? ⟨W0.heap.size+1,1,none⟩=some (.int .i64 0):=?zval;case zval=>(refine (hc2.cell (p:=⟨W0.heap.size+1,1,none⟩) ?_ ?_).trans ?_ <;> first | (intro hh;have hh:W0.heap.size+1<w.heap.size:=hh.2;have:=HS.out;omega) | (simp;done) | (go_simp;done) | (simp;omega) | omega))
        try (have zbE0:w2.cell? ⟨W0.heap.size+1,0,none⟩=some (.int .i64 0):=?zval;case zval=>(refine (hc2.cell (p:=⟨W0.heap.size+1,0,none⟩) ?_ ?_).trans ?_ <;> first | (intro hh;have hh:W0.heap.size+1<w.heap.size:=hh.2;have:=HS.out;omega) | (simp;done) | (go_simp;done) | (simp;omega) | omega))
        try (have zbE1:w2.cell? ⟨W0.heap.size+1,1,none⟩=some (.int .i64 0):=?zval;case zval=>(refine (hc2.cell (p:=⟨W0.heap.size+1,1,none⟩) ?_ ?_).trans ?_ <;> first | (intro hh;have hh:W0.heap.size+1<w.heap.size:=hh.2;have:=HS.out;omega) | (simp;done) | (go_simp;done) | (simp;omega) | omega))
        try (have zbE2:w2.cell? ⟨W0.heap.size+1,2,none⟩=some (.int .i64 0):=?zval;case zval=>(refine (hc2.cell (p:=⟨W0.heap.size+1,2,none⟩) ?_ ?_).trans ?_ <;> first | (intro hh;have hh:W0.heap.size+1<w.heap.size:=hh.2;have:=HS.out;omega) | (simp;done) | (go_simp;done) | (simp;omega) | omega))
        try (have zbE3:w2.cell? ⟨W0.heap.size+1,3,none⟩=some (.bool false):=?zval;case zval=>(refine (hc2.cell (p:=⟨W0.heap.size+1,3,none⟩) ?_ ?_).trans ?_ <;> first | (intro hh;have hh:W0.heap.size+1<w.heap.size:=hh.2;have:=HS.out;omega) | (simp;done) | (go_simp;done) | (simp;omega) | omega))
        try (have zfb:∀ i,w2.frozen? ⟨W0.heap.size+1,i,none⟩=false:=?zval;case zval=>(intro i;refine (hc2.frozen (p:=⟨W0.heap.size+1,i,none⟩) ?_ ?_).trans ?_ <;> first | (intro hh;have hh:W0.heap.size+1<w.heap.size:=hh.2;have:=HS.out;omega) | (simp;done) | (go_simp;done) | (simp;omega) | omega))
        have HQ2:=Lib.hid (And.intro hq2 (And.intro hF2 (And.intro hc3 hp2)))
        clear hq2 hF2 hc2 hc3 hp2))
  all_goals
   go_wp2_with fail
   go_meet
   case rel=>
    obtain⟨hq2,hF2,hc3,hp2⟩:=HQ2.out
    refine⟨_,_,.slice va vn vc,F',rfl,rfl,?_,?_,?_,?_,?_,?_,?_,?_,poll_rel (by have:=HS.out;omega) hnc0 hq2 hF2 hc3 hp2 ?_⟩
    rotate_left 8
    ·simp at hncW
     repeat first | with_reducible exact Chg.refl _ _ | with_reducible refine Chg.alloc ?_ _ | with_reducible refine Chg.setCell ?_ (.inl ⟨?_,?_⟩) _
     all_goals (dsimp only;omega)
    ·omega
    ·omega
    all_goals (first | (simp;done) | (go_simp;done))
 case rest=>
  obtain⟨b6,b7,dv,F',rfl,rfl,hb6,hb7,x0,x1,y0,y1,y2,y3,hq2,hF2,hc3,hp2⟩:=hcut
  have m4:wc.cell? ⟨w.heap.size,4,none⟩=some (.int .i64 how):=(hc3.cell (p:=⟨w.heap.size,4,none⟩) (by simp;omega) (fun hh=>absurd hh.2 (Nat.lt_irrefl _))).trans q4
  have HQ2:=Lib.hid (And.intro hq2 (And.intro hF2 (And.intro hc3 hp2)))
  have hc3z:=hc3
  clear hq2 hF2 hc3 hp2
  have hwc:=hc3z.size
  have hblk:wc.heap[w.heap.size]?=some (.cells #[.int .i64 num,.bool wrt,.int .i64 page,.string data,.int .i64 how,.string read] 32 (0,0)):=(hc3z.block _ (by omega) (fun hh=>absurd hh.2 (Nat.lt_irrefl _))).trans HR0.out
  have hwo:wc.cell? ⟨wo,1,none⟩=some (.slice (some ⟨g,0,none⟩) n cap):=(hc3z.cell (p:=⟨wo,1,none⟩) (by simp;omega) (fun hh=>HK.out.now hh)).trans ((HB0.out.cell (p:=⟨wo,1,none⟩) hwlt).trans c1)
  have hgb:wc.heap[g]?=some (.cells cur 32 (0,0)):=(hc3z.block g (by omega) (fun hh=>HK.out.nor g rfl hh)).trans ((HB0.out.block g hglt).trans hg2)
  clear hc3z
  cases hO with
  | write tr htr hw=>
    have e0:dv=.slice none 0 0:=HQ2.out.2.2.2
    subst e0
    subst hw
    go_wp2_with fail
    refine (fine_yes wc).mono ?_
    rintro x w3 ⟨rfl,hb3⟩
    have k0:=(hb3.cell (p:=⟨b6,0,none⟩) (lt_of_cell x0)).trans x0
    have k1:=(hb3.cell (p:=⟨b6,1,none⟩) (lt_of_cell x1)).trans x1
    have hrb:=(hb3.block _ (lt_of_heap hblk)).trans hblk
    have k2:w3.cell? ⟨w.heap.size,1,none⟩=some (.bool true):=cell_of hrb rfl
    have k3:=hb3.size
    have k4:w3.cell? ⟨w.heap.size,4,none⟩=some (.int .i64 how):=cell_of hrb rfl
    have k5:w3.cell? ⟨w.heap.size,5,none⟩=some (.string read):=cell_of hrb rfl
    have k6:=fun j=>free_of (i:=j) hrb
    have t1:¬tr<1:=by omega
    have t2:¬tr>4:=by omega
    have hcv:∀ W:World,(convert 41 9 (.slice none 0 0)).run Tryx.prog W=.ok (.string ⟨#[]⟩) W:=fun W=>run_convert_bytes_nil (P:=Tryx.prog) W 41 5 Tryx.underlying41 Tryx.underlying5 0 0 9 Tryx.underlying9
    go_wp2_with fail
    obtain⟨W4,hW4⟩:∃ W4,(w3.setCell ⟨w.heap.size,4,none⟩ (.int .i64 1)).setCell ⟨w.heap.size,5,none⟩ (.string ⟨#[]⟩)=W4:=⟨_,rfl⟩
    have h4b:W4.heap[w.heap.size]?=some (.cells #[.int .i64 num,.bool true,.int .i64 page,.string data,.int .i64 1,.string ⟨#[]⟩] 32 (0,0)):=by rw[<-hW4];exact heap_setCell _ (heap_setCell _ hrb)
    have h4c:Chg (fun k=>k=w.heap.size) wc W4:=by rw[<-hW4];exact ((chgB hb3 (fun k=>k=w.heap.size)).setCell (p:=⟨w.heap.size,4,none⟩) (.inl rfl) _).setCell (p:=⟨w.heap.size,5,none⟩) (.inl rfl) _
    have h4o:W4.cell? ⟨wo,1,none⟩=some (.slice (some ⟨g,0,none⟩) n cap):=(h4c.cell (p:=⟨wo,1,none⟩) (lt_of_cell hwo) hne6).trans hwo
    have h4g:W4.heap[g]?=some (.cells cur 32 (0,0)):=(h4c.block g (lt_of_heap hgb) (by omega)).trans hgb
    have hcs:cur.size=cap*6:=HG2.out.1
    clear k0 k1 k2 k3 k4 k5 k6 hrb
    rw[hW4]
    have p0:W4.cell? ⟨w.heap.size,0,none⟩=some (.int .i64 num):=cell_of h4b rfl
    have p1:W4.cell? ⟨w.heap.size,1,none⟩=some (.bool true):=cell_of h4b rfl
    have p2:W4.cell? ⟨w.heap.size,2,none⟩=some (.int .i64 page):=cell_of h4b rfl
    have p3:W4.cell? ⟨w.heap.size,3,none⟩=some (.string data):=cell_of h4b rfl
    have p4:W4.cell? ⟨w.heap.size,4,none⟩=some (.int .i64 1):=cell_of h4b rfl
    have p5:W4.cell? ⟨w.heap.size,5,none⟩=some (.string ⟨#[]⟩):=cell_of h4b rfl
    go_still_tail 6,(by kernel_rfl)
    change wpList _ _ _ _ _ W4.drew
    obtain⟨W5,hW5⟩:∃ W5,W4.drew=W5:=⟨_,rfl⟩
    rw[hW5]
    have h5g:W5.heap[g]?=some (.cells cur 32 (0,0)):=by rw[<-hW5];exact h4g
    have h5c:Chg (fun k=>k=w.heap.size) wc W5:=by rw[<-hW5];exact h4c.drew
    have pg:∀ j,W5.frozen? ⟨g,i*6+j,none⟩=false:=fun j=>free_of h5g
    have pg0:W5.frozen? ⟨g,i*6,none⟩=false:=pg 0
    have pc:∀ j,j<6->∃ v,W5.cell? ⟨g,i*6+j,none⟩=some v:=fun j hj=>⟨_,cell_of h5g (Array.getElem?_eq_getElem (by omega))⟩
    obtain⟨v0,q0z⟩:=pc 0 (by omega)
    have q0:W5.cell? ⟨g,i*6,none⟩=some v0:=q0z
    clear q0z
    obtain⟨v1,q1⟩:=pc 1 (by omega)
    obtain⟨v2,q2⟩:=pc 2 (by omega)
    obtain⟨v3,q3⟩:=pc 3 (by omega)
    obtain⟨v4,q4⟩:=pc 4 (by omega)
    obtain⟨v5,q5⟩:=pc 5 (by omega)
    have HW:=Lib.hid (And.intro h4c (And.intro hW5 (And.intro h5g h5c)))
    clear pc h4c hW5 h5g h5c h4b h4g h4o hW4 hb3 hcs
    go_wp2_with fail
    go_ret
    obtain⟨z1,z2,z3⟩:=HKo.out.set (m:=w.heap.size) hn hil hg2 ⟨hg3,hg4⟩ HG2.out.1 HG2.out.2 HB0.out rfl hlt0 HQ2.out.1 HQ2.out.2.1 HQ2.out.2.2.1 HW.out.2.2.2 ⟨num,true,page,data,1,⟨#[]⟩⟩ _ _ _ _ _ _ rfl
    exact⟨rfl,F',z1,z2,z3⟩
  | read b tr htr hb hw=>
    obtain⟨hp1,hp2⟩:=(show (∀ k,dv.ownBlock=some k->¬F' k)/\wc.ownsRow W0.heap.size 5 1 dv 4 (b4Cells b)from HQ2.out.2.2.2)
    rcases hp2.2 with ⟨_,h0⟩ |⟨g2,cap2,cur2,rfl,u1,u2,u3,u4,u5,u6⟩
    ·simp at h0
    subst hw
    have u8:∀ j v,(b4Cells b)[j]?=some v->cur2[j]?=some v:=fun j v hv=>by
     have hj:j<4:=(List.getElem?_eq_some_iff.1 hv).1
     rw[<-u6,List.getElem?_take_of_lt (by omega)]at hv
     rw[<-Array.getElem?_toList];exact hv
    have n1:g2≠w.heap.size:=by omega
    go_wp2_with fail
    refine (fine_yes wc).mono ?_
    rintro x w3 ⟨rfl,hb3⟩
    have k0:=(hb3.cell (p:=⟨b6,0,none⟩) (lt_of_cell x0)).trans x0
    have k1:=(hb3.cell (p:=⟨b6,1,none⟩) (lt_of_cell x1)).trans x1
    have e0:=(hb3.cell (p:=⟨b7,0,none⟩) (lt_of_cell y0)).trans y0
    have e1:=(hb3.cell (p:=⟨b7,1,none⟩) (lt_of_cell y1)).trans y1
    have e2:=(hb3.cell (p:=⟨b7,2,none⟩) (lt_of_cell y2)).trans y2
    have hrb:=(hb3.block _ (lt_of_heap hblk)).trans hblk
    have k2:w3.cell? ⟨w.heap.size,0,none⟩=some (.int .i64 num):=cell_of hrb rfl
    have k7:w3.cell? ⟨w.heap.size,1,none⟩=some (.bool false):=cell_of hrb rfl
    have k3:=hb3.size
    have k4:w3.cell? ⟨w.heap.size,4,none⟩=some (.int .i64 how):=cell_of hrb rfl
    have k5:w3.cell? ⟨w.heap.size,5,none⟩=some (.string read):=cell_of hrb rfl
    have k6:=fun j=>free_of (i:=j) hrb
    have t1:¬tr<1:=by omega
    have t2:¬tr>4:=by omega
    have hcv:(convert 41 9 (.slice (some ⟨g2,0,none⟩) 4 cap2)).run Tryx.prog (w3.setCell ⟨w.heap.size,4,none⟩ (.int .i64 1))=.ok (.string (strOfNums [b.a,b.b,b.c,b.d])) (w3.setCell ⟨w.heap.size,4,none⟩ (.int .i64 1)):=by
     refine run_convert_bytes_arg (P:=Tryx.prog) _ 41 5 Tryx.underlying41 Tryx.underlying5 g2 0 4 cap2 [b.a,b.b,b.c,b.d] rfl (fun j hj=>?_) 9 Tryx.underlying9
     refine cell_of ((heap_setCell_ne _ n1).trans ((hb3.block _ (lt_of_heap u2)).trans u2)) (u8 (0+j) (.int .u8 ([b.a,b.b,b.c,b.d].getD j 0)) ?_)
     rcases j with _ | _ | _ | _ | j
     ·rfl
     ·rfl
     ·rfl
     ·rfl
     ·omega
    obtain⟨sd,hsd⟩:∃ sd,strOfNums [b.a,b.b,b.c,b.d]=sd:=⟨_,rfl⟩
    rw[hsd]at hcv
    have HSD:=Lib.hid hsd
    clear hsd u2 u3 u4 u5 u6 u8 hp1 hp2
    go_wp2_with fail
    obtain⟨W4,hW4⟩:∃ W4,(w3.setCell ⟨w.heap.size,4,none⟩ (.int .i64 1)).setCell ⟨w.heap.size,5,none⟩ (.string sd)=W4:=⟨_,rfl⟩
    have h4b:W4.heap[w.heap.size]?=some (.cells #[.int .i64 num,.bool false,.int .i64 page,.string data,.int .i64 1,.string sd] 32 (0,0)):=by rw[<-hW4];exact heap_setCell _ (heap_setCell _ hrb)
    have h4c:Chg (fun k=>k=w.heap.size) wc W4:=by rw[<-hW4];exact ((chgB hb3 (fun k=>k=w.heap.size)).setCell (p:=⟨w.heap.size,4,none⟩) (.inl rfl) _).setCell (p:=⟨w.heap.size,5,none⟩) (.inl rfl) _
    have h4o:W4.cell? ⟨wo,1,none⟩=some (.slice (some ⟨g,0,none⟩) n cap):=(h4c.cell (p:=⟨wo,1,none⟩) (lt_of_cell hwo) hne6).trans hwo
    have h4g:W4.heap[g]?=some (.cells cur 32 (0,0)):=(h4c.block g (lt_of_heap hgb) (by omega)).trans hgb
    have hcs:cur.size=cap*6:=HG2.out.1
    clear k0 k1 k2 k3 k4 k5 k6 k7 e0 e1 e2 hrb
    rw[hW4]
    have p0:W4.cell? ⟨w.heap.size,0,none⟩=some (.int .i64 num):=cell_of h4b rfl
    have p1:W4.cell? ⟨w.heap.size,1,none⟩=some (.bool false):=cell_of h4b rfl
    have p2:W4.cell? ⟨w.heap.size,2,none⟩=some (.int .i64 page):=cell_of h4b rfl
    have p3:W4.cell? ⟨w.heap.size,3,none⟩=some (.string data):=cell_of h4b rfl
    have p4:W4.cell? ⟨w.heap.size,4,none⟩=some (.int .i64 1):=cell_of h4b rfl
    have p5:W4.cell? ⟨w.heap.size,5,none⟩=some (.string sd):=cell_of h4b rfl
    go_still_tail 6,(by kernel_rfl)
    change wpList _ _ _ _ _ W4.drew
    obtain⟨W5,hW5⟩:∃ W5,W4.drew=W5:=⟨_,rfl⟩
    rw[hW5]
    have h5g:W5.heap[g]?=some (.cells cur 32 (0,0)):=by rw[<-hW5];exact h4g
    have h5c:Chg (fun k=>k=w.heap.size) wc W5:=by rw[<-hW5];exact h4c.drew
    have pg:∀ j,W5.frozen? ⟨g,i*6+j,none⟩=false:=fun j=>free_of h5g
    have pg0:W5.frozen? ⟨g,i*6,none⟩=false:=pg 0
    have pc:∀ j,j<6->∃ v,W5.cell? ⟨g,i*6+j,none⟩=some v:=fun j hj=>⟨_,cell_of h5g (Array.getElem?_eq_getElem (by omega))⟩
    obtain⟨v0,q0z⟩:=pc 0 (by omega)
    have q0:W5.cell? ⟨g,i*6,none⟩=some v0:=q0z
    clear q0z
    obtain⟨v1,q1⟩:=pc 1 (by omega)
    obtain⟨v2,q2⟩:=pc 2 (by omega)
    obtain⟨v3,q3⟩:=pc 3 (by omega)
    obtain⟨v4,q4⟩:=pc 4 (by omega)
    obtain⟨v5,q5⟩:=pc 5 (by omega)
    have HW:=Lib.hid (And.intro h4c (And.intro hW5 (And.intro h5g h5c)))
    clear pc h4c hW5 h5g h5c h4b h4g h4o hW4 hb3 hcs
    go_wp2_with fail
    go_ret
    obtain⟨z1,z2,z3⟩:=HKo.out.set (m:=w.heap.size) hn hil hg2 ⟨hg3,hg4⟩ HG2.out.1 HG2.out.2 HB0.out rfl hlt0 HQ2.out.1 HQ2.out.2.1 HQ2.out.2.2.1 HW.out.2.2.2 ⟨num,false,page,data,1,sd⟩ _ _ _ _ _ _ rfl
    rw[HSD.out]
    exact⟨rfl,F',z1,z2,z3⟩
  | bad=>
    go_wp2_with fail
    refine (fine_no 7 num 4 (by omega) wc).mono ?_
    rintro x w3 ⟨rfl,hb3⟩
    have k0:=(hb3.cell (p:=⟨b6,0,none⟩) (lt_of_cell x0)).trans x0
    have k1:=(hb3.cell (p:=⟨b6,1,none⟩) (lt_of_cell x1)).trans x1
    have e0:=(hb3.cell (p:=⟨b7,0,none⟩) (lt_of_cell y0)).trans y0
    have e1:=(hb3.cell (p:=⟨b7,1,none⟩) (lt_of_cell y1)).trans y1
    have e2:=(hb3.cell (p:=⟨b7,2,none⟩) (lt_of_cell y2)).trans y2
    have hrb:=(hb3.block _ (lt_of_heap hblk)).trans hblk
    have k2:w3.cell? ⟨w.heap.size,0,none⟩=some (.int .i64 num):=cell_of hrb rfl
    have k7:w3.cell? ⟨w.heap.size,1,none⟩=some (.bool wrt):=cell_of hrb rfl
    have k3:=hb3.size
    have k4:w3.cell? ⟨w.heap.size,4,none⟩=some (.int .i64 how):=cell_of hrb rfl
    have k5:w3.cell? ⟨w.heap.size,5,none⟩=some (.string read):=cell_of hrb rfl
    have k6:=fun j=>free_of (i:=j) hrb
    go_wp2_with fail
    obtain⟨W4,hW4⟩:∃ W4,w3.setCell ⟨w.heap.size,4,none⟩ (.int .i64 2)=W4:=⟨_,rfl⟩
    have h4b:W4.heap[w.heap.size]?=some (.cells #[.int .i64 num,.bool wrt,.int .i64 page,.string data,.int .i64 2,.string read] 32 (0,0)):=by rw[<-hW4];exact heap_setCell _ hrb
    have h4c:Chg (fun k=>k=w.heap.size) wc W4:=by rw[<-hW4];exact ((chgB hb3 (fun k=>k=w.heap.size)).setCell (p:=⟨w.heap.size,4,none⟩) (.inl rfl) _)
    have h4o:W4.cell? ⟨wo,1,none⟩=some (.slice (some ⟨g,0,none⟩) n cap):=(h4c.cell (p:=⟨wo,1,none⟩) (lt_of_cell hwo) hne6).trans hwo
    have h4g:W4.heap[g]?=some (.cells cur 32 (0,0)):=(h4c.block g (lt_of_heap hgb) (by omega)).trans hgb
    have hcs:cur.size=cap*6:=HG2.out.1
    clear k0 k1 k2 k3 k4 k5 k6 k7 e0 e1 e2 hrb
    rw[hW4]
    have p0:W4.cell? ⟨w.heap.size,0,none⟩=some (.int .i64 num):=cell_of h4b rfl
    have p1:W4.cell? ⟨w.heap.size,1,none⟩=some (.bool wrt):=cell_of h4b rfl
    have p2:W4.cell? ⟨w.heap.size,2,none⟩=some (.int .i64 page):=cell_of h4b rfl
    have p3:W4.cell? ⟨w.heap.size,3,none⟩=some (.string data):=cell_of h4b rfl
    have p4:W4.cell? ⟨w.heap.size,4,none⟩=some (.int .i64 2):=cell_of h4b rfl
    have p5:W4.cell? ⟨w.heap.size,5,none⟩=some (.string read):=cell_of h4b rfl
    go_still_tail 6,(by kernel_rfl)
    change wpList _ _ _ _ _ W4.drew
    obtain⟨W5,hW5⟩:∃ W5,W4.drew=W5:=⟨_,rfl⟩
    rw[hW5]
    have h5g:W5.heap[g]?=some (.cells cur 32 (0,0)):=by rw[<-hW5];exact h4g
    have h5c:Chg (fun k=>k=w.heap.size) wc W5:=by rw[<-hW5];exact h4c.drew
    have pg:∀ j,W5.frozen? ⟨g,i*6+j,none⟩=false:=fun j=>free_of h5g
    have pg0:W5.frozen? ⟨g,i*6,none⟩=false:=pg 0
    have pc:∀ j,j<6->∃ v,W5.cell? ⟨g,i*6+j,none⟩=some v:=fun j hj=>⟨_,cell_of h5g (Array.getElem?_eq_getElem (by omega))⟩
    obtain⟨v0,q0z⟩:=pc 0 (by omega)
    have q0:W5.cell? ⟨g,i*6,none⟩=some v0:=q0z
    clear q0z
    obtain⟨v1,q1⟩:=pc 1 (by omega)
    obtain⟨v2,q2⟩:=pc 2 (by omega)
    obtain⟨v3,q3⟩:=pc 3 (by omega)
    obtain⟨v4,q4⟩:=pc 4 (by omega)
    obtain⟨v5,q5⟩:=pc 5 (by omega)
    have HW:=Lib.hid (And.intro h4c (And.intro hW5 (And.intro h5g h5c)))
    clear pc h4c hW5 h5g h5c h4b h4g h4o hW4 hb3 hcs
    go_wp2_with fail
    go_ret
    obtain⟨z1,z2,z3⟩:=HKo.out.set (m:=w.heap.size) hn hil hg2 ⟨hg3,hg4⟩ HG2.out.1 HG2.out.2 HB0.out rfl hlt0 HQ2.out.1 HQ2.out.2.1 HQ2.out.2.2.1 HW.out.2.2.2 ⟨num,wrt,page,data,2,read⟩ _ _ _ _ _ _ rfl
    exact⟨rfl,F',z1,z2,z3⟩
  | pend tt htt h0=>
    subst h0
    have t1:¬tt<0:=by omega
    have t2:¬tt>3:=by omega
    go_wp2_with fail
    refine (fine_no 6 num tt (by omega) wc).mono ?_
    rintro x w3 ⟨rfl,hb3⟩
    have k0:=(hb3.cell (p:=⟨b6,0,none⟩) (lt_of_cell x0)).trans x0
    have k1:=(hb3.cell (p:=⟨b6,1,none⟩) (lt_of_cell x1)).trans x1
    have e0:=(hb3.cell (p:=⟨b7,0,none⟩) (lt_of_cell y0)).trans y0
    have e1:=(hb3.cell (p:=⟨b7,1,none⟩) (lt_of_cell y1)).trans y1
    have e2:=(hb3.cell (p:=⟨b7,2,none⟩) (lt_of_cell y2)).trans y2
    have hrb:=(hb3.block _ (lt_of_heap hblk)).trans hblk
    have k2:w3.cell? ⟨w.heap.size,0,none⟩=some (.int .i64 num):=cell_of hrb rfl
    have k7:w3.cell? ⟨w.heap.size,1,none⟩=some (.bool wrt):=cell_of hrb rfl
    have k3:=hb3.size
    have k4:w3.cell? ⟨w.heap.size,4,none⟩=some (.int .i64 0):=cell_of hrb rfl
    have k5:w3.cell? ⟨w.heap.size,5,none⟩=some (.string read):=cell_of hrb rfl
    have k6:=fun j=>free_of (i:=j) hrb
    go_wp2_with fail
    obtain⟨W4,hW4⟩:∃ W4,w3=W4:=⟨_,rfl⟩
    have h4b:W4.heap[w.heap.size]?=some (.cells #[.int .i64 num,.bool wrt,.int .i64 page,.string data,.int .i64 0,.string read] 32 (0,0)):=by rw[<-hW4];exact hrb
    have h4c:Chg (fun k=>k=w.heap.size) wc W4:=by rw[<-hW4];exact chgB hb3 _
    have h4o:W4.cell? ⟨wo,1,none⟩=some (.slice (some ⟨g,0,none⟩) n cap):=(h4c.cell (p:=⟨wo,1,none⟩) (lt_of_cell hwo) hne6).trans hwo
    have h4g:W4.heap[g]?=some (.cells cur 32 (0,0)):=(h4c.block g (lt_of_heap hgb) (by omega)).trans hgb
    have hcs:cur.size=cap*6:=HG2.out.1
    clear k0 k1 k2 k3 k4 k5 k6 k7 e0 e1 e2 hrb
    rw[hW4]
    have p0:W4.cell? ⟨w.heap.size,0,none⟩=some (.int .i64 num):=cell_of h4b rfl
    have p1:W4.cell? ⟨w.heap.size,1,none⟩=some (.bool wrt):=cell_of h4b rfl
    have p2:W4.cell? ⟨w.heap.size,2,none⟩=some (.int .i64 page):=cell_of h4b rfl
    have p3:W4.cell? ⟨w.heap.size,3,none⟩=some (.string data):=cell_of h4b rfl
    have p4:W4.cell? ⟨w.heap.size,4,none⟩=some (.int .i64 0):=cell_of h4b rfl
    have p5:W4.cell? ⟨w.heap.size,5,none⟩=some (.string read):=cell_of h4b rfl
    go_still_tail 6,(by kernel_rfl)
    change wpList _ _ _ _ _ W4.drew
    obtain⟨W5,hW5⟩:∃ W5,W4.drew=W5:=⟨_,rfl⟩
    rw[hW5]
    have h5g:W5.heap[g]?=some (.cells cur 32 (0,0)):=by rw[<-hW5];exact h4g
    have h5c:Chg (fun k=>k=w.heap.size) wc W5:=by rw[<-hW5];exact h4c.drew
    have pg:∀ j,W5.frozen? ⟨g,i*6+j,none⟩=false:=fun j=>free_of h5g
    have pg0:W5.frozen? ⟨g,i*6,none⟩=false:=pg 0
    have pc:∀ j,j<6->∃ v,W5.cell? ⟨g,i*6+j,none⟩=some v:=fun j hj=>⟨_,cell_of h5g (Array.getElem?_eq_getElem (by omega))⟩
    obtain⟨v0,q0z⟩:=pc 0 (by omega)
    have q0:W5.cell? ⟨g,i*6,none⟩=some v0:=q0z
    clear q0z
    obtain⟨v1,q1⟩:=pc 1 (by omega)
    obtain⟨v2,q2⟩:=pc 2 (by omega)
    obtain⟨v3,q3⟩:=pc 3 (by omega)
    obtain⟨v4,q4⟩:=pc 4 (by omega)
    obtain⟨v5,q5⟩:=pc 5 (by omega)
    have HW:=Lib.hid (And.intro h4c (And.intro hW5 (And.intro h5g h5c)))
    clear pc h4c hW5 h5g h5c h4b h4g h4o hW4 hb3 hcs
    go_wp2_with fail
    go_ret
    obtain⟨z1,z2,z3⟩:=HKo.out.set (m:=w.heap.size) hn hil hg2 ⟨hg3,hg4⟩ HG2.out.1 HG2.out.2 HB0.out rfl hlt0 HQ2.out.1 HQ2.out.2.1 HQ2.out.2.2.1 HW.out.2.2.2 ⟨num,wrt,page,data,0,read⟩ _ _ _ _ _ _ rfl
    exact⟨rfl,F',z1,z2,z3⟩
  | gone tt h=>
    rcases h with rfl | rfl
    ·go_wp2_with fail
     refine (fine_no 8 num tt (by omega) wc).mono ?_
     rintro x w3 ⟨rfl,hb3⟩
     have k0:=(hb3.cell (p:=⟨b6,0,none⟩) (lt_of_cell x0)).trans x0
     have k1:=(hb3.cell (p:=⟨b6,1,none⟩) (lt_of_cell x1)).trans x1
     have e0:=(hb3.cell (p:=⟨b7,0,none⟩) (lt_of_cell y0)).trans y0
     have e1:=(hb3.cell (p:=⟨b7,1,none⟩) (lt_of_cell y1)).trans y1
     have e2:=(hb3.cell (p:=⟨b7,2,none⟩) (lt_of_cell y2)).trans y2
     have hrb:=(hb3.block _ (lt_of_heap hblk)).trans hblk
     have k2:w3.cell? ⟨w.heap.size,0,none⟩=some (.int .i64 num):=cell_of hrb rfl
     have k7:w3.cell? ⟨w.heap.size,1,none⟩=some (.bool wrt):=cell_of hrb rfl
     have k3:=hb3.size
     have k4:w3.cell? ⟨w.heap.size,4,none⟩=some (.int .i64 3):=cell_of hrb rfl
     have k5:w3.cell? ⟨w.heap.size,5,none⟩=some (.string read):=cell_of hrb rfl
     have k6:=fun j=>free_of (i:=j) hrb
     go_wp2_with fail
     obtain⟨W4,hW4⟩:∃ W4,w3=W4:=⟨_,rfl⟩
     have h4b:W4.heap[w.heap.size]?=some (.cells #[.int .i64 num,.bool wrt,.int .i64 page,.string data,.int .i64 3,.string read] 32 (0,0)):=by rw[<-hW4];exact hrb
     have h4c:Chg (fun k=>k=w.heap.size) wc W4:=by rw[<-hW4];exact chgB hb3 _
     have h4o:W4.cell? ⟨wo,1,none⟩=some (.slice (some ⟨g,0,none⟩) n cap):=(h4c.cell (p:=⟨wo,1,none⟩) (lt_of_cell hwo) hne6).trans hwo
     have h4g:W4.heap[g]?=some (.cells cur 32 (0,0)):=(h4c.block g (lt_of_heap hgb) (by omega)).trans hgb
     have hcs:cur.size=cap*6:=HG2.out.1
     clear k0 k1 k2 k3 k4 k5 k6 k7 e0 e1 e2 hrb
     rw[hW4]
     have p0:W4.cell? ⟨w.heap.size,0,none⟩=some (.int .i64 num):=cell_of h4b rfl
     have p1:W4.cell? ⟨w.heap.size,1,none⟩=some (.bool wrt):=cell_of h4b rfl
     have p2:W4.cell? ⟨w.heap.size,2,none⟩=some (.int .i64 page):=cell_of h4b rfl
     have p3:W4.cell? ⟨w.heap.size,3,none⟩=some (.string data):=cell_of h4b rfl
     have p4:W4.cell? ⟨w.heap.size,4,none⟩=some (.int .i64 3):=cell_of h4b rfl
     have p5:W4.cell? ⟨w.heap.size,5,none⟩=some (.string read):=cell_of h4b rfl
     go_still_tail 6,(by kernel_rfl)
     change wpList _ _ _ _ _ W4.drew
     obtain⟨W5,hW5⟩:∃ W5,W4.drew=W5:=⟨_,rfl⟩
     rw[hW5]
     have h5g:W5.heap[g]?=some (.cells cur 32 (0,0)):=by rw[<-hW5];exact h4g
     have h5c:Chg (fun k=>k=w.heap.size) wc W5:=by rw[<-hW5];exact h4c.drew
     have pg:∀ j,W5.frozen? ⟨g,i*6+j,none⟩=false:=fun j=>free_of h5g
     have pg0:W5.frozen? ⟨g,i*6,none⟩=false:=pg 0
     have pc:∀ j,j<6->∃ v,W5.cell? ⟨g,i*6+j,none⟩=some v:=fun j hj=>⟨_,cell_of h5g (Array.getElem?_eq_getElem (by omega))⟩
     obtain⟨v0,q0z⟩:=pc 0 (by omega)
     have q0:W5.cell? ⟨g,i*6,none⟩=some v0:=q0z
     clear q0z
     obtain⟨v1,q1⟩:=pc 1 (by omega)
     obtain⟨v2,q2⟩:=pc 2 (by omega)
     obtain⟨v3,q3⟩:=pc 3 (by omega)
     obtain⟨v4,q4⟩:=pc 4 (by omega)
     obtain⟨v5,q5⟩:=pc 5 (by omega)
     have HW:=Lib.hid (And.intro h4c (And.intro hW5 (And.intro h5g h5c)))
     clear pc h4c hW5 h5g h5c h4b h4g h4o hW4 hb3 hcs
     go_wp2_with fail
     go_ret
     obtain⟨z1,z2,z3⟩:=HKo.out.set (m:=w.heap.size) hn hil hg2 ⟨hg3,hg4⟩ HG2.out.1 HG2.out.2 HB0.out rfl hlt0 HQ2.out.1 HQ2.out.2.1 HQ2.out.2.2.1 HW.out.2.2.2 ⟨num,wrt,page,data,3,read⟩ _ _ _ _ _ _ rfl
     exact⟨rfl,F',z1,z2,z3⟩
    ·go_wp2_with fail
     refine (fine_no 8 num tt (by omega) wc).mono ?_
     rintro x w3 ⟨rfl,hb3⟩
     have k0:=(hb3.cell (p:=⟨b6,0,none⟩) (lt_of_cell x0)).trans x0
     have k1:=(hb3.cell (p:=⟨b6,1,none⟩) (lt_of_cell x1)).trans x1
     have e0:=(hb3.cell (p:=⟨b7,0,none⟩) (lt_of_cell y0)).trans y0
     have e1:=(hb3.cell (p:=⟨b7,1,none⟩) (lt_of_cell y1)).trans y1
     have e2:=(hb3.cell (p:=⟨b7,2,none⟩) (lt_of_cell y2)).trans y2
     have hrb:=(hb3.block _ (lt_of_heap hblk)).trans hblk
     have k2:w3.cell? ⟨w.heap.size,0,none⟩=some (.int .i64 num):=cell_of hrb rfl
     have k7:w3.cell? ⟨w.heap.size,1,none⟩=some (.bool wrt):=cell_of hrb rfl
     have k3:=hb3.size
     have k4:w3.cell? ⟨w.heap.size,4,none⟩=some (.int .i64 4):=cell_of hrb rfl
     have k5:w3.cell? ⟨w.heap.size,5,none⟩=some (.string read):=cell_of hrb rfl
     have k6:=fun j=>free_of (i:=j) hrb
     go_wp2_with fail
     obtain⟨W4,hW4⟩:∃ W4,w3=W4:=⟨_,rfl⟩
     have h4b:W4.heap[w.heap.size]?=some (.cells #[.int .i64 num,.bool wrt,.int .i64 page,.string data,.int .i64 4,.string read] 32 (0,0)):=by rw[<-hW4];exact hrb
     have h4c:Chg (fun k=>k=w.heap.size) wc W4:=by rw[<-hW4];exact chgB hb3 _
     have h4o:W4.cell? ⟨wo,1,none⟩=some (.slice (some ⟨g,0,none⟩) n cap):=(h4c.cell (p:=⟨wo,1,none⟩) (lt_of_cell hwo) hne6).trans hwo
     have h4g:W4.heap[g]?=some (.cells cur 32 (0,0)):=(h4c.block g (lt_of_heap hgb) (by omega)).trans hgb
     have hcs:cur.size=cap*6:=HG2.out.1
     clear k0 k1 k2 k3 k4 k5 k6 k7 e0 e1 e2 hrb
     rw[hW4]
     have p0:W4.cell? ⟨w.heap.size,0,none⟩=some (.int .i64 num):=cell_of h4b rfl
     have p1:W4.cell? ⟨w.heap.size,1,none⟩=some (.bool wrt):=cell_of h4b rfl
     have p2:W4.cell? ⟨w.heap.size,2,none⟩=some (.int .i64 page):=cell_of h4b rfl
     have p3:W4.cell? ⟨w.heap.size,3,none⟩=some (.string data):=cell_of h4b rfl
     have p4:W4.cell? ⟨w.heap.size,4,none⟩=some (.int .i64 4):=cell_of h4b rfl
     have p5:W4.cell? ⟨w.heap.size,5,none⟩=some (.string read):=cell_of h4b rfl
     go_still_tail 6,(by kernel_rfl)
     change wpList _ _ _ _ _ W4.drew
     obtain⟨W5,hW5⟩:∃ W5,W4.drew=W5:=⟨_,rfl⟩
     rw[hW5]
     have h5g:W5.heap[g]?=some (.cells cur 32 (0,0)):=by rw[<-hW5];exact h4g
     have h5c:Chg (fun k=>k=w.heap.size) wc W5:=by rw[<-hW5];exact h4c.drew
     have pg:∀ j,W5.frozen? ⟨g,i*6+j,none⟩=false:=fun j=>free_of h5g
     have pg0:W5.frozen? ⟨g,i*6,none⟩=false:=pg 0
     have pc:∀ j,j<6->∃ v,W5.cell? ⟨g,i*6+j,none⟩=some v:=fun j hj=>⟨_,cell_of h5g (Array.getElem?_eq_getElem (by omega))⟩
     obtain⟨v0,q0z⟩:=pc 0 (by omega)
     have q0:W5.cell? ⟨g,i*6,none⟩=some v0:=q0z
     clear q0z
     obtain⟨v1,q1⟩:=pc 1 (by omega)
     obtain⟨v2,q2⟩:=pc 2 (by omega)
     obtain⟨v3,q3⟩:=pc 3 (by omega)
     obtain⟨v4,q4⟩:=pc 4 (by omega)
     obtain⟨v5,q5⟩:=pc 5 (by omega)
     have HW:=Lib.hid (And.intro h4c (And.intro hW5 (And.intro h5g h5c)))
     clear pc h4c hW5 h5g h5c h4b h4g h4o hW4 hb3 hcs
     go_wp2_with fail
     go_ret
     obtain⟨z1,z2,z3⟩:=HKo.out.set (m:=w.heap.size) hn hil hg2 ⟨hg3,hg4⟩ HG2.out.1 HG2.out.2 HB0.out rfl hlt0 HQ2.out.1 HQ2.out.2.1 HQ2.out.2.2.1 HW.out.2.2.2 ⟨num,wrt,page,data,4,read⟩ _ _ _ _ _ _ rfl
     exact⟨rfl,F',z1,z2,z3⟩
  | told h=>
    rcases h with rfl | rfl
    ·go_wp2_with fail
     refine (fine_no 5 (-1) 0 (by omega) wc).mono ?_
     rintro x w3 ⟨rfl,hb3⟩
     have k0:=(hb3.cell (p:=⟨b6,0,none⟩) (lt_of_cell x0)).trans x0
     have k1:=(hb3.cell (p:=⟨b6,1,none⟩) (lt_of_cell x1)).trans x1
     have e0:=(hb3.cell (p:=⟨b7,0,none⟩) (lt_of_cell y0)).trans y0
     have e1:=(hb3.cell (p:=⟨b7,1,none⟩) (lt_of_cell y1)).trans y1
     have e2:=(hb3.cell (p:=⟨b7,2,none⟩) (lt_of_cell y2)).trans y2
     have hrb:=(hb3.block _ (lt_of_heap hblk)).trans hblk
     have k2:w3.cell? ⟨w.heap.size,0,none⟩=some (.int .i64 num):=cell_of hrb rfl
     have k7:w3.cell? ⟨w.heap.size,1,none⟩=some (.bool wrt):=cell_of hrb rfl
     have k3:=hb3.size
     have k4:w3.cell? ⟨w.heap.size,4,none⟩=some (.int .i64 3):=cell_of hrb rfl
     have k5:w3.cell? ⟨w.heap.size,5,none⟩=some (.string read):=cell_of hrb rfl
     have k6:=fun j=>free_of (i:=j) hrb
     go_wp2_with fail
     obtain⟨W4,hW4⟩:∃ W4,w3=W4:=⟨_,rfl⟩
     have h4b:W4.heap[w.heap.size]?=some (.cells #[.int .i64 num,.bool wrt,.int .i64 page,.string data,.int .i64 3,.string read] 32 (0,0)):=by rw[<-hW4];exact hrb
     have h4c:Chg (fun k=>k=w.heap.size) wc W4:=by rw[<-hW4];exact chgB hb3 _
     have h4o:W4.cell? ⟨wo,1,none⟩=some (.slice (some ⟨g,0,none⟩) n cap):=(h4c.cell (p:=⟨wo,1,none⟩) (lt_of_cell hwo) hne6).trans hwo
     have h4g:W4.heap[g]?=some (.cells cur 32 (0,0)):=(h4c.block g (lt_of_heap hgb) (by omega)).trans hgb
     have hcs:cur.size=cap*6:=HG2.out.1
     clear k0 k1 k2 k3 k4 k5 k6 k7 e0 e1 e2 hrb
     rw[hW4]
     have p0:W4.cell? ⟨w.heap.size,0,none⟩=some (.int .i64 num):=cell_of h4b rfl
     have p1:W4.cell? ⟨w.heap.size,1,none⟩=some (.bool wrt):=cell_of h4b rfl
     have p2:W4.cell? ⟨w.heap.size,2,none⟩=some (.int .i64 page):=cell_of h4b rfl
     have p3:W4.cell? ⟨w.heap.size,3,none⟩=some (.string data):=cell_of h4b rfl
     have p4:W4.cell? ⟨w.heap.size,4,none⟩=some (.int .i64 3):=cell_of h4b rfl
     have p5:W4.cell? ⟨w.heap.size,5,none⟩=some (.string read):=cell_of h4b rfl
     go_still_tail 6,(by kernel_rfl)
     change wpList _ _ _ _ _ W4.drew
     obtain⟨W5,hW5⟩:∃ W5,W4.drew=W5:=⟨_,rfl⟩
     rw[hW5]
     have h5g:W5.heap[g]?=some (.cells cur 32 (0,0)):=by rw[<-hW5];exact h4g
     have h5c:Chg (fun k=>k=w.heap.size) wc W5:=by rw[<-hW5];exact h4c.drew
     have pg:∀ j,W5.frozen? ⟨g,i*6+j,none⟩=false:=fun j=>free_of h5g
     have pg0:W5.frozen? ⟨g,i*6,none⟩=false:=pg 0
     have pc:∀ j,j<6->∃ v,W5.cell? ⟨g,i*6+j,none⟩=some v:=fun j hj=>⟨_,cell_of h5g (Array.getElem?_eq_getElem (by omega))⟩
     obtain⟨v0,q0z⟩:=pc 0 (by omega)
     have q0:W5.cell? ⟨g,i*6,none⟩=some v0:=q0z
     clear q0z
     obtain⟨v1,q1⟩:=pc 1 (by omega)
     obtain⟨v2,q2⟩:=pc 2 (by omega)
     obtain⟨v3,q3⟩:=pc 3 (by omega)
     obtain⟨v4,q4⟩:=pc 4 (by omega)
     obtain⟨v5,q5⟩:=pc 5 (by omega)
     have HW:=Lib.hid (And.intro h4c (And.intro hW5 (And.intro h5g h5c)))
     clear pc h4c hW5 h5g h5c h4b h4g h4o hW4 hb3 hcs
     go_wp2_with fail
     go_ret
     obtain⟨z1,z2,z3⟩:=HKo.out.set (m:=w.heap.size) hn hil hg2 ⟨hg3,hg4⟩ HG2.out.1 HG2.out.2 HB0.out rfl hlt0 HQ2.out.1 HQ2.out.2.1 HQ2.out.2.2.1 HW.out.2.2.2 ⟨num,wrt,page,data,3,read⟩ _ _ _ _ _ _ rfl
     exact⟨rfl,F',z1,z2,z3⟩
    ·go_wp2_with fail
     refine (fine_no 5 (-1) 0 (by omega) wc).mono ?_
     rintro x w3 ⟨rfl,hb3⟩
     have k0:=(hb3.cell (p:=⟨b6,0,none⟩) (lt_of_cell x0)).trans x0
     have k1:=(hb3.cell (p:=⟨b6,1,none⟩) (lt_of_cell x1)).trans x1
     have e0:=(hb3.cell (p:=⟨b7,0,none⟩) (lt_of_cell y0)).trans y0
     have e1:=(hb3.cell (p:=⟨b7,1,none⟩) (lt_of_cell y1)).trans y1
     have e2:=(hb3.cell (p:=⟨b7,2,none⟩) (lt_of_cell y2)).trans y2
     have hrb:=(hb3.block _ (lt_of_heap hblk)).trans hblk
     have k2:w3.cell? ⟨w.heap.size,0,none⟩=some (.int .i64 num):=cell_of hrb rfl
     have k7:w3.cell? ⟨w.heap.size,1,none⟩=some (.bool wrt):=cell_of hrb rfl
     have k3:=hb3.size
     have k4:w3.cell? ⟨w.heap.size,4,none⟩=some (.int .i64 4):=cell_of hrb rfl
     have k5:w3.cell? ⟨w.heap.size,5,none⟩=some (.string read):=cell_of hrb rfl
     have k6:=fun j=>free_of (i:=j) hrb
     go_wp2_with fail
     obtain⟨W4,hW4⟩:∃ W4,w3=W4:=⟨_,rfl⟩
     have h4b:W4.heap[w.heap.size]?=some (.cells #[.int .i64 num,.bool wrt,.int .i64 page,.string data,.int .i64 4,.string read] 32 (0,0)):=by rw[<-hW4];exact hrb
     have h4c:Chg (fun k=>k=w.heap.size) wc W4:=by rw[<-hW4];exact chgB hb3 _
     have h4o:W4.cell? ⟨wo,1,none⟩=some (.slice (some ⟨g,0,none⟩) n cap):=(h4c.cell (p:=⟨wo,1,none⟩) (lt_of_cell hwo) hne6).trans hwo
     have h4g:W4.heap[g]?=some (.cells cur 32 (0,0)):=(h4c.block g (lt_of_heap hgb) (by omega)).trans hgb
     have hcs:cur.size=cap*6:=HG2.out.1
     clear k0 k1 k2 k3 k4 k5 k6 k7 e0 e1 e2 hrb
     rw[hW4]
     have p0:W4.cell? ⟨w.heap.size,0,none⟩=some (.int .i64 num):=cell_of h4b rfl
     have p1:W4.cell? ⟨w.heap.size,1,none⟩=some (.bool wrt):=cell_of h4b rfl
     have p2:W4.cell? ⟨w.heap.size,2,none⟩=some (.int .i64 page):=cell_of h4b rfl
     have p3:W4.cell? ⟨w.heap.size,3,none⟩=some (.string data):=cell_of h4b rfl
     have p4:W4.cell? ⟨w.heap.size,4,none⟩=some (.int .i64 4):=cell_of h4b rfl
     have p5:W4.cell? ⟨w.heap.size,5,none⟩=some (.string read):=cell_of h4b rfl
     go_still_tail 6,(by kernel_rfl)
     change wpList _ _ _ _ _ W4.drew
     obtain⟨W5,hW5⟩:∃ W5,W4.drew=W5:=⟨_,rfl⟩
     rw[hW5]
     have h5g:W5.heap[g]?=some (.cells cur 32 (0,0)):=by rw[<-hW5];exact h4g
     have h5c:Chg (fun k=>k=w.heap.size) wc W5:=by rw[<-hW5];exact h4c.drew
     have pg:∀ j,W5.frozen? ⟨g,i*6+j,none⟩=false:=fun j=>free_of h5g
     have pg0:W5.frozen? ⟨g,i*6,none⟩=false:=pg 0
     have pc:∀ j,j<6->∃ v,W5.cell? ⟨g,i*6+j,none⟩=some v:=fun j hj=>⟨_,cell_of h5g (Array.getElem?_eq_getElem (by omega))⟩
     obtain⟨v0,q0z⟩:=pc 0 (by omega)
     have q0:W5.cell? ⟨g,i*6,none⟩=some v0:=q0z
     clear q0z
     obtain⟨v1,q1⟩:=pc 1 (by omega)
     obtain⟨v2,q2⟩:=pc 2 (by omega)
     obtain⟨v3,q3⟩:=pc 3 (by omega)
     obtain⟨v4,q4⟩:=pc 4 (by omega)
     obtain⟨v5,q5⟩:=pc 5 (by omega)
     have HW:=Lib.hid (And.intro h4c (And.intro hW5 (And.intro h5g h5c)))
     clear pc h4c hW5 h5g h5c h4b h4g h4o hW4 hb3 hcs
     go_wp2_with fail
     go_ret
     obtain⟨z1,z2,z3⟩:=HKo.out.set (m:=w.heap.size) hn hil hg2 ⟨hg3,hg4⟩ HG2.out.1 HG2.out.2 HB0.out rfl hlt0 HQ2.out.1 HQ2.out.2.1 HQ2.out.2.2.1 HW.out.2.2.2 ⟨num,wrt,page,data,4,read⟩ _ _ _ _ _ _ rfl
     exact⟨rfl,F',z1,z2,z3⟩
end
section
open Go.RowKit Go.Shelf Go.Lib
structure KO(w0 w:World)(wo:Nat)(x:KW):Prop where
 ex:∃ q rv F,KB w wo q rv F x.t x.rs/\∀ k,KFoot wo rv F k->w0.heap.size<=k
 below:Below w0.heap.size w0 w
theorem KO.of{w0 w w':World}{wo q:Nat}{rv rv':Value}{F F':Nat->Prop}{x':KW}(hb:Below w0.heap.size w0 w)(hf:∀ k,KFoot wo rv F k->w0.heap.size<=k)
  (h1:KB w' wo q rv' F' x'.t x'.rs) (h2:∀ k,KFoot wo rv' F' k->KFoot wo rv F k\/w.heap.size<=k) (h3:Chg (KFoot wo rv F) w w'):KO w0 w' wo x':=
 ⟨⟨q,rv',F',h1,fun k hk=>(h2 k hk).elim (hf k) fun h=>Nat.le_trans hb.size h⟩,hb.trans (h3.to_below hf hb.size)⟩
theorem KO.err{w0 w:World}{wo:Nat}{x:KW}(h:KO w0 w wo x)(hg:ErrVar w0):ErrVar w:=hg.chg (chgB h.below fun _=>False) fun x=>x
theorem KO.later{w0 w w':World}{wo:Nat}{x:KW}(h:KO w0 w wo x)(hb:Below w.heap.size w w'):KO w0 w' wo x:=by
 obtain⟨q,rv,F,h1,h3⟩:=h.ex
 exact⟨⟨q,rv,F,h1.below hb,h3⟩,h.below.trans (hb.mono h.below.size)⟩
theorem KO.cell{w0 w:World}{wo:Nat}{x:KW}(h:KO w0 w wo x):∃ q,w.cell? ⟨wo,0,none⟩=some (ptr q)/\wo<w.heap.size/\∀ W,Below w.heap.size w W->∃ F,QT W q x.t F/\(∀ k,F k->w0.heap.size<=k/\k<w.heap.size)/\
  ∀ w' t' F',QT w' q t' F'->(∀ k,F' k->F k\/W.heap.size<=k)->Chg F W w'->KO w0 w' wo ⟨x.rs,t'⟩:=by
 obtain⟨q,rv,F0,h0,h3'⟩:=h.ex
 have h1:=h0.lt
 have h3:∀ k,KFoot wo rv (fun k=>F0 k/\k<w.heap.size) k->w0.heap.size<=k:=fun k hk=>h3' k (hk.imp (fun x=>x.1) id)
 refine⟨q,h1.c0,lt_of_heap h1.blk,fun W hB=>⟨_,h1.que.below hB,fun k hk=>⟨h3 k (.inl hk),hk.2⟩,fun w' t' F' hq hF hc=>?_⟩⟩
 have hK:=(h1.below hB).que' hc hq hF
 exact KO.of (h.below.trans (hB.mono h.below.size)) h3 hK (fun k hk=>by
  rcases hk with h | h | h
  ·exact (hF k h).imp .inl id
  ·exact .inl (.inr (.inl h))
  ·exact .inl (.inr (.inr h))) (hc.mono fun k _ hk=>.inl hk)
theorem KO.rows{w0 w:World}{wo:Nat}{x:KW}(h:KO w0 w wo x):∃ ra rc,w.cell? ⟨wo,1,none⟩=some (.slice ra x.rs.length rc)/\wo<w.heap.size/\
  ∀ (i:Nat) (r:KReq),x.rs[i]?=some r->∃ g,ra=some ⟨g,0,none⟩/\g<w.heap.size/\(∀ j v,(kCells r)[j]?=some v->w.cell? ⟨g,i*6+j,none⟩=some v)/\(∀ j,w.frozen? ⟨g,j,none⟩=false):=by
 obtain⟨q,rv,F,h1,h3⟩:=h.ex
 obtain⟨ra,rc,rfl⟩:=own_slice h1.row
 refine⟨ra,rc,h1.c1,lt_of_heap h1.blk,fun i r hi=>?_⟩
 obtain⟨g,cap,cur,e,hg,_,_,_,_,hc⟩:=h1.cells hi
 simp only[Value.slice.injEq]at e
 exact⟨g,e.1,lt_of_heap hg,hc,fun j=>free_of hg⟩
theorem begun_o(d:Int)(w:World)(hg:ErrVar w)(hd:-9223372036854775808<=d/\d<=9223372036854775807):
  Calls Tryx.prog 12 #[.int .i64 d] w fun x w'=>∃ wo,x=.returned (.tuple #[ptr wo,.bool true])/\KO w w' wo ⟨[],St.new (1+pickI d 4).toNat⟩:=by
 refine (begun_k d w hg hd).mono ?_
 rintro x w' ⟨wo,rfl,h1⟩
 obtain⟨q,rv,F,rs,h2,h3,h4⟩:=h1.ex
 obtain rfl:rs=[]:=List.length_eq_zero_iff.1 h3
 exact⟨wo,rfl,⟨q,rv,F,h2,h4⟩,h1.below⟩
theorem KO.sides{w0 w:World}{wo q:Nat}{rv:Value}{F:Nat->Prop}{x:KW}(h3:∀ k,KFoot wo rv F k->w0.heap.size<=k)(hg:ErrVar w0):¬F 0/\wo≠0/\rv.ownBlock≠some 0:=by
 have h0:0<w0.heap.size:=lt_of_cell hg
 exact⟨fun x=>by have:=h3 0 (.inl x);omega,by have:=h3 wo (.inr (.inl rfl));omega,fun x=>by have:=h3 0 (.inr (.inr x));omega⟩
theorem askR_o{w0 w:World}{wo:Nat}{x:KW}(h:KO w0 w wo x)(hg:ErrVar w0)(hi:KInv x)(hs:x.t.Small)(hh:x.t.held<40)(page v:Int)(hp:0<=page/\page<16):
  Calls Tryx.prog 14 #[ptr wo,.bool false,.int .i64 page,.int .u8 v] w fun y w'=>y=.returned (.bool true)/\KO w0 w' wo (x.askR page):=by
 obtain⟨q,rv,F,h1,h3⟩:=h.ex
 obtain⟨s1,s2,s3⟩:=KO.sides (w:=w) (q:=q) (x:=x) h3 hg
 refine (ask_read wo q rv F x.t x.rs w page v h1 (h.err hg) s1 s2 s3 hi.ok hs hh hp hi.last).mono ?_
 rintro y w' ⟨rfl,rv',F',e1,e2,e3⟩
 unfold KW.askR
 rw[if_neg (by omega)]
 exact⟨rfl,KO.of h.below h3 e1 e2 e3⟩
theorem askW_o{w0 w:World}{wo:Nat}{x:KW}(h:KO w0 w wo x)(hg:ErrVar w0)(hi:KInv x)(hs:x.t.Small)(hh:x.t.held<40)(page v:Int)(hp:0<=page/\page<16)(hv:0<=v/\v<=255):
  Calls Tryx.prog 14 #[ptr wo,.bool true,.int .i64 page,.int .u8 v] w fun y w'=>y=.returned (.bool true)/\KO w0 w' wo (x.askW page v):=by
 obtain⟨q,rv,F,h1,h3⟩:=h.ex
 obtain⟨s1,s2,s3⟩:=KO.sides (w:=w) (q:=q) (x:=x) h3 hg
 refine (ask_write wo q rv F x.t x.rs w page v h1 (h.err hg) s1 s2 s3 hi.ok hs hh hp hi.last hv).mono ?_
 rintro y w' ⟨rfl,rv',F',e1,e2,e3⟩
 unfold KW.askW
 rw[if_neg (by omega)]
 exact⟨rfl,KO.of h.below h3 e1 e2 e3⟩
theorem step_o{w0 w:World}{wo:Nat}{x:KW}(h:KO w0 w wo x)(hk:x.t.Ok)(hs:x.t.Small):∃ q,w.cell? ⟨wo,0,none⟩=some (ptr q)/\wo<w.heap.size/\
  (x.t.cmd=none->∀ W,Below w.heap.size w W->Calls Tryx.prog 18 #[ptr q] W fun y w'=>y=.returned (.tuple #[noCmd,.bool false])/\KO w0 w' wo x/\Below W.heap.size W w')/\
  (∀ c,x.t.cmd=some c->∀ W,Below w.heap.size w W->Calls Tryx.prog 18 #[ptr q] W fun y w'=>∃ va vc,y=.returned (.tuple #[.agg #[.bool c.write,.int .i64 c.page,.int .i64 c.count,.slice va c.nums.length vc],.bool true])/\KO w0 w' wo ⟨x.rs,x.t.sent c⟩/\Chg (fun k=>k<w.heap.size) W w'/\w'.ownsRow W.heap.size 3 1 (.slice va c.nums.length vc) c.nums.length (c.nums.map fun n=>Value.int .i64 n)):=by
 obtain⟨q,h1,h2,h3⟩:=h.cell
 refine⟨q,h1,h2,fun hc W hB=>?_,fun c hc W hB=>?_⟩
 ·obtain⟨F,f1,f2,f3⟩:=h3 W hB
  refine (step_none_c f1 hk hc).mono ?_
  rintro y w' ⟨rfl,e1⟩
  exact⟨rfl,f3 w' _ F (f1.below e1) (fun k hk=>.inl hk) (chgB e1 _),e1⟩
 ·obtain⟨F,f1,f2,f3⟩:=h3 W hB
  refine (step_some_c f1 hk hs c hc).mono ?_
  rintro y w' ⟨v,F',rfl,e1,e2,_,e4,e5⟩
  obtain⟨va,vc,rfl⟩:=own_slice e5
  exact⟨va,vc,rfl,f3 w' _ F' e1 e2 e4,e4.mono fun k _ hk=>(f2 k hk).2,e5⟩
theorem comp_o{w0 w:World}{wo:Nat}{x:KW}(h:KO w0 w wo x)(hg:ErrVar w0)(hk:x.t.Ok)(hs:x.t.Small):∃ q,w.cell? ⟨wo,0,none⟩=some (ptr q)/\wo<w.heap.size/\
  (∀ (k:Nat) (fault:Bool) t',x.t.complete k fault=some t'->∀ W,Below w.heap.size w W->Calls Tryx.prog 19 #[ptr q,.int .i64 k,.bool fault] W fun y w'=>y=.returned (plErr 0 (-1) 0)/\KO w0 w' wo ⟨x.rs,t'⟩/\Chg (fun k=>k<w.heap.size) W w')/\
  (∀ (k:Nat) (fault:Bool),x.t.complete k fault=none->∀ W,Below w.heap.size w W->Calls Tryx.prog 19 #[ptr q,.int .i64 k,.bool fault] W fun y w'=>y=.returned (plErr 10 (-1) 0)/\KO w0 w' wo x/\Below W.heap.size W w'):=by
 obtain⟨q,h1,h2,h3⟩:=h.cell
 have h0:0<w0.heap.size:=lt_of_cell hg
 refine⟨q,h1,h2,fun k fault t' hc W hB=>?_,fun k fault hc W hB=>?_⟩
 ·obtain⟨F,f1,f2,f3⟩:=h3 W hB
  refine (complete_p f1 hk hs ((h.err hg).chg (chgB hB fun _=>False) fun x=>x) (fun x=>by have:=(f2 0 x).1;omega) k fault t' hc).mono ?_
  rintro y w' ⟨rfl,e1,e2⟩
  exact⟨rfl,f3 w' _ F e1 (fun k hk=>.inl hk) e2,e2.mono fun k _ hk=>(f2 k hk).2⟩
 ·obtain⟨F,f1,f2,f3⟩:=h3 W hB
  have hlen:x.t.cs.length<=k:=by
   unfold St.complete at hc
   split at hc
   ·rename_i he
    simpa using he
   ·cases hc
  refine (complete_no_p f1 ((h.err hg).chg (chgB hB fun _=>False) fun x=>x) k fault (.inr (by omega))).mono ?_
  rintro y w' ⟨rfl,e1⟩
  exact⟨rfl,f3 w' _ F (f1.below e1) (fun k hk=>.inl hk) (chgB e1 _),e1⟩
theorem tick_o{w0 w:World}{wo:Nat}{x:KW}(h:KO w0 w wo x)(hk:x.t.Ok)(hs:x.t.Small):∃ q,w.cell? ⟨wo,0,none⟩=some (ptr q)/\wo<w.heap.size/\
  ∀ W,Below w.heap.size w W->Calls Tryx.prog 42 #[ptr q] W fun y w'=>y=.returned (.tuple #[])/\KO w0 w' wo ⟨x.rs,x.t.tick⟩/\Chg (fun k=>k<w.heap.size) W w':=by
 obtain⟨q,h1,h2,h3⟩:=h.cell
 refine⟨q,h1,h2,fun W hB=>?_⟩
 obtain⟨F,f1,f2,f3⟩:=h3 W hB
 refine (tick_c f1 hk hs).mono ?_
 rintro y w' ⟨rfl,e1,e2⟩
 exact⟨rfl,f3 w' _ F e1 (fun k hk=>.inl hk) e2,e2.mono fun k _ hk=>(f2 k hk).2⟩
end
end Go.Proofs.YticobikhndlejaaGreatDoor
