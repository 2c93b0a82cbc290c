/- Part 8 of the proof (see the last part). -/
import Derived.Test.YticobikhndlejaaGreatDoorAlG
namespace Go.Proofs.YticobikhndlejaaGreatDoor
section
open Go.RowKit Go.Extern.Stop Go.Stop Go.Extern
set_option maxRecDepth 100000
set_option maxHeartbeats 8000000
theorem as_nil(t:Value)(w:World):Calls Tryx.prog 98 #[.nilIface,t] w fun e w'=>e=.returned (.bool false)/\w=w':=by
 go_enter Tryx.func98,Tryz.ntmps98
 go_wp2
 go_ret
 exact⟨rfl,rfl⟩
abbrev asW(w:World)(t:Nat)(b:Nat):World:=(w.alloc (.cells #[.pointer (some ⟨t,0,none⟩)] b)).alloc (.cells #[hdl b,.pointer (some ⟨w.heap.size,0,none⟩),.int .u64 150] 197)
theorem ErrVar.alloc{w:World}(h:ErrVar w)(o:Obj):ErrVar (w.alloc o):=by
 have:=lt_of_cellE h
 unfold ErrVar
 rw[World.cell?_alloc_lt _ _ _ this];exact h
theorem as_hitR(p t:Nat)(old:Value)(w:World)(hg:ErrVar w)(ht:w.cell? ⟨t,0,none⟩=some old)(hf:w.frozen? ⟨t,0,none⟩=false):
  Calls Tryx.prog 98 #[errR p,.iface 174 (.pointer (some ⟨t,0,none⟩))] w fun e w'=>e=.returned (.bool true)/\
   ∃ o1 o2 o3 o4,w'=((((w.alloc o1).alloc o2).alloc o3).alloc o4).setCell ⟨t,0,none⟩ (.pointer (some ⟨p,0,none⟩)):=by
 have hlt:=lt_of_cellE ht
 have h0:=lt_of_cellE hg
 have hg1:ErrVar (asW w t 174):=(hg.alloc _).alloc _
 have ht1:(asW w t 174).cell? ⟨t,0,none⟩=some old:=by
  rw[World.cell?_alloc_lt _ _ _ (by simp;exact Nat.lt_succ_of_lt hlt),World.cell?_alloc_lt _ _ _ hlt];exact ht
 have hf1:(asW w t 174).frozen? ⟨t,0,none⟩=false:=by
  have:t<w.heap.size:=hlt
  rw[World.frozen?_alloc_old _ _ _ (by simp;omega),World.frozen?_alloc_old _ _ _ (by show t≠_;omega)];exact hf
 have ha1:(asW w t 174).cell? ⟨w.heap.size,0,none⟩=some (.pointer (some ⟨t,0,none⟩)):=by simp
 have hc:=as1_hitR p ⟨t,0,none⟩ ⟨w.heap.size,0,none⟩ old _ ha1 ht1 hf1
 have c1:=Tryz.voPP ⟨t,0,none⟩
 have c2:=Tryz.tyPP
 have c3:=Tryz.kdPP
 have c4:=Tryz.inPP ⟨w.heap.size,0,none⟩ ⟨t,0,none⟩ _ ha1
 have c5:=Tryz.elPP
 have c6:=Tryz.kdR
 have c7:=Tryz.imR
 clear ht1 hf1 ha1 hg ht hf hlt h0
 unfold ErrVar at hg1
 have HC:=Lib.hid hc
 clear hc
 go_enter Tryx.func98,Tryz.ntmps98
 go_wp2_with (go_at_call 117;refine HC.out.mono ?_;rintro e w' ⟨rfl,rfl⟩)
 go_ret
 exact⟨rfl,_,_,_,_,rfl⟩
theorem as_hitK(k:Int)(t:Nat)(old:Value)(w:World)(hg:ErrVar w)(ht:w.cell? ⟨t,0,none⟩=some old)(hf:w.frozen? ⟨t,0,none⟩=false):
  Calls Tryx.prog 98 #[errK k,.iface 177 (.pointer (some ⟨t,0,none⟩))] w fun e w'=>e=.returned (.bool true)/\
   ∃ o1 o2 o3 o4,w'=((((w.alloc o1).alloc o2).alloc o3).alloc o4).setCell ⟨t,0,none⟩ (.int .i64 k):=by
 have hlt:=lt_of_cellE ht
 have h0:=lt_of_cellE hg
 have hg1:ErrVar (asW w t 177):=(hg.alloc _).alloc _
 have ht1:(asW w t 177).cell? ⟨t,0,none⟩=some old:=by
  rw[World.cell?_alloc_lt _ _ _ (by simp;exact Nat.lt_succ_of_lt hlt),World.cell?_alloc_lt _ _ _ hlt];exact ht
 have hf1:(asW w t 177).frozen? ⟨t,0,none⟩=false:=by
  have:t<w.heap.size:=hlt
  rw[World.frozen?_alloc_old _ _ _ (by simp;omega),World.frozen?_alloc_old _ _ _ (by show t≠_;omega)];exact hf
 have ha1:(asW w t 177).cell? ⟨w.heap.size,0,none⟩=some (.pointer (some ⟨t,0,none⟩)):=by simp
 have hc:=as1_hitK k ⟨t,0,none⟩ ⟨w.heap.size,0,none⟩ old _ ha1 ht1 hf1
 have c1:=Tryz.voPK ⟨t,0,none⟩
 have c2:=Tryz.tyPK
 have c3:=Tryz.kdPK
 have c4:=Tryz.inPK ⟨w.heap.size,0,none⟩ ⟨t,0,none⟩ _ ha1
 have c5:=Tryz.elPK
 have c6:=Tryz.kdK
 have c7:=Tryz.imK
 clear ht1 hf1 ha1 hg ht hf hlt h0
 unfold ErrVar at hg1
 have HC:=Lib.hid hc
 clear hc
 go_enter Tryx.func98,Tryz.ntmps98
 go_wp2_with (go_at_call 117;refine HC.out.mono ?_;rintro e w' ⟨rfl,rfl⟩)
 go_ret
 exact⟨rfl,_,_,_,_,rfl⟩
theorem as_missK(k:Int)(t:Nat)(w:World)(hg:ErrVar w):
  Calls Tryx.prog 98 #[errK k,.iface 174 (.pointer (some ⟨t,0,none⟩))] w fun e w'=>e=.returned (.bool false)/\
   ∃ o1 o2 o3,w'=(((w.alloc o1).alloc o2).alloc o3):=by
 have hg1:ErrVar (asW w t 174):=(hg.alloc _).alloc _
 have ha1:(asW w t 174).cell? ⟨w.heap.size,0,none⟩=some (.pointer (some ⟨t,0,none⟩)):=by simp
 have hc:=as1_missK k ⟨t,0,none⟩ ⟨w.heap.size,0,none⟩ (asW w t 174)
 have c1:=Tryz.voPP ⟨t,0,none⟩
 have c2:=Tryz.tyPP
 have c3:=Tryz.kdPP
 have c4:=Tryz.inPP ⟨w.heap.size,0,none⟩ ⟨t,0,none⟩ _ ha1
 have c5:=Tryz.elPP
 have c6:=Tryz.kdR
 have c7:=Tryz.imR
 clear ha1 hg
 unfold ErrVar at hg1
 have HC:=Lib.hid hc
 clear hc
 go_enter Tryx.func98,Tryz.ntmps98
 go_wp2_with (go_at_call 117;refine HC.out.mono ?_;rintro e w' ⟨rfl,rfl⟩)
 go_ret
 exact⟨rfl,_,_,_,rfl⟩
theorem ErrVar.chg{S:Nat->Prop}{w w':World}(h:ErrVar w)(hc:Chg S w w')(h0:¬S 0):ErrVar w':=(hc.cell (p:=⟨0,0,none⟩) (lt_of_cell h) h0).trans h
theorem ReqErr.lt{w:World}{p:Nat}{r t k:Int}(h:ReqErr w p r t k):p<w.heap.size:=lt_of_cell h.c0
theorem ReqErr.chg{S:Nat->Prop}{w w':World}{p:Nat}{r t k:Int}(h:ReqErr w p r t k)(hc:Chg S w w')(hp:¬S p):ReqErr w' p r t k:=
 ⟨(hc.cell (p:=⟨p,0,none⟩) h.lt hp).trans h.c0,(hc.cell (p:=⟨p,1,none⟩) h.lt hp).trans h.c1,(hc.cell (p:=⟨p,2,none⟩) h.lt hp).trans h.c2⟩
theorem apiTold_nil(w:World):Calls Tryx.prog 61 #[.nilIface] w fun e w'=>e=.returned (.tuple #[.int .i64 0,.int .i64 (-1),.int .i64 0])/\Below w.heap.size w w':=by
 go_enter Tryx.func61,Tryz.ntmps61
 go_wp2_with (go_at_call 98;refine (as_nil _ _).mono ?_;rintro e w' ⟨rfl,rfl⟩)
 go_ret3
 exact⟨rfl,by go_grown⟩
theorem apiTold_K(k:Int)(w:World)(hg:ErrVar w):Calls Tryx.prog 61 #[errK k] w fun e w'=>e=.returned (.tuple #[.int .i64 k,.int .i64 (-1),.int .i64 0])/\Below w.heap.size w w':=by
 have h1:=as_missK k w.heap.size (w.alloc (.cells #[.pointer none] 172)) (hg.alloc _)
 have H1:=Lib.hid h1
 have H2:=Lib.hid hg
 have h0:0<w.heap.size:=lt_of_cell hg
 clear h1 hg
 go_enter Tryx.func61,Tryz.ntmps61
 go_wp2_with fail
 refine H1.out.mono ?_
 rintro e w' ⟨rfl,o1,o2,o3,rfl⟩
 go_wp2_with fail
 refine (as_hitK k (w.heap.size+1+1+1+1) (.int .i64 0) _ ?_ ?_ ?_).mono ?_
 ·exact ((((H2.out.alloc _).alloc _).alloc _).alloc _).alloc _
 ·exact cell_new (by simp)
 ·exact free_new (by simp)
 rintro e w' ⟨rfl,o4,o5,o6,o7,rfl⟩
 go_wp2
 go_ret3
 exact⟨rfl,by go_grown⟩
theorem apiTold_R(p:Nat)(r t k:Int)(w:World)(hg:ErrVar w)(hp:ReqErr w p r t k):Calls Tryx.prog 61 #[errR p] w fun e w'=>e=.returned (.tuple #[.int .i64 k,.int .i64 r,.int .i64 t])/\Below w.heap.size w w':=by
 have hlt:=hp.lt
 have h1:=as_hitR p w.heap.size (.pointer none) (w.alloc (.cells #[.pointer none] 172)) (hg.alloc _) (by simp) (by simp)
 have H1:=Lib.hid h1
 have H2:=Lib.hid hp
 clear h1 hp
 go_enter Tryx.func61,Tryz.ntmps61
 go_wp2_with fail
 refine H1.out.mono ?_
 rintro e w' ⟨rfl,o1,o2,o3,o4,hw⟩
 have hb:Below w.heap.size w w':=by subst hw;go_grown
 have hr:=H2.out.chg (chgB hb (fun _=>False)) (fun h=>h)
 have hc:w'.cell? ⟨w.heap.size,0,none⟩=some (.pointer (some ⟨p,0,none⟩)):=by subst hw;exact World.cell?_setCell_same' _ _ _ (by simp[go_sem])
 clear hw H1 H2
 obtain⟨c0,c1,c2⟩:=hr
 go_wp2
 go_region
 go_wp2
 go_ret3
 exact⟨rfl,hb.drew⟩
abbrev plErr(k r t:Int):Value:=.agg #[.int .i64 k,.int .i64 r,.int .i64 t,.bool true]
theorem told_of(err:Value)(k r t:Int)(w:World)(_hk:0<=k/\k<=10)
  (hT:Calls Tryx.prog 61 #[err] (w.alloc (.cells #[.int .i64 0,.int .i64 0,.int .i64 0,.bool false] 39)) fun e w'=>e=.returned (.tuple #[.int .i64 k,.int .i64 r,.int .i64 t])/\Below (w.heap.size+1) (w.alloc (.cells #[.int .i64 0,.int .i64 0,.int .i64 0,.bool false] 39)) w')
  (hI:∀ (i:Int) (W:World),1<=i->i<=10->Below w.heap.size w W->Calls Tryx.prog 62 #[err,errK i] W fun e w'=>e=.returned (.bool (k == i))/\W=w'):
  Calls Tryx.prog 34 #[err] w fun e w'=>e=.returned (plErr k r t)/\Below w.heap.size w w':=by
 have HT:=Lib.hid hT
 have HI:=Lib.hid hI
 clear hT hI
 go_enter Tryx.func34,Tryz.ntmps34
 go_wp2_with fail
 refine HT.out.mono ?_
 rintro e w1 ⟨rfl,hb⟩
 go_wp2_with fail
 have hbW:Below w.heap.size w (w1.alloc (.cells #[.int .i64 k,.int .i64 r,.int .i64 t,.bool true] 39)):=
  ((((Below.refl _ _).alloc (Nat.le_refl _) _).trans (hb.mono (by omega))).alloc (by have:=hb.size;simp at this;omega) _)
 have hbd:w.heap.size<w1.heap.size:=by have:=hb.size;simp at this;omega
 go_loop [7] (fun i=>∃ j:Int,1<=j/\j<=11/\i=.int .i64 j) (fun i=>(11 - intOf i).toNat)
 case atStart=>exact ⟨1,by omega,by omega,rfl⟩
 case round=>
  obtain⟨j,hj1,hj2,rfl⟩:=hrel
  by_cases hlt:j<=10
  ·have hs:(j == k)=(k == j):=by rw[Bool.eq_iff_iff];simp;exact eq_comm
   have hs2:((k == j) != (k == j))=false:=by simp
   have HW:=Lib.hid hbW
   clear hbW
   go_wp2_with (go_at_call 62;refine (HI.out j _ (by omega) (by omega) HW.out).mono ?_;rintro e w' ⟨rfl,rfl⟩)
   go_round
   case rel=>exact ⟨j+1,by omega,by omega,rfl⟩
   case measure=>simp [intOf];omega
  ·have hc:∀ i,w1.cell? ⟨w.heap.size,i,none⟩=(#[.int .i64 0,.int .i64 0,.int .i64 0,.bool false]:Array Value)[i]?:=fun i=>(hb.cell (p:=⟨w.heap.size,i,none⟩) (by show w.heap.size<_;omega)).trans (by simp)
   have hf:∀ i,w1.frozen? ⟨w.heap.size,i,none⟩=false:=fun i=>(hb.frozen (p:=⟨w.heap.size,i,none⟩) (by show w.heap.size<_;omega)).trans (by simp)
   have c0:=hc 0
   have c1:=hc 1
   have c2:=hc 2
   have c3:=hc 3
   have f0:=hf 0
   have f1:=hf 1
   have f2:=hf 2
   have f3:=hf 3
   simp at c0 c1 c2 c3
   have HW:=Lib.hid hbW
   clear hc hf hbW
   go_wp2
   refine bodyPost_ret (v:=plErr k r t) ?_ rfl ⟨rfl,?_⟩
   ·simp[results,Tryz.results34,go_sem,c0,c1,c2,c3,hbd]
   ·have hb0:Below w.heap.size w w1:=((Below.refl _ _).alloc (Nat.le_refl _) _).trans (hb.mono (by omega))
    go_grown
theorem told_nil(w:World):Calls Tryx.prog 34 #[.nilIface] w fun e w'=>e=.returned (plErr 0 (-1) 0)/\Below w.heap.size w w':=by
 refine told_of _ 0 (-1) 0 w (by omega) ((apiTold_nil _).mono fun e w' ⟨he,hb⟩=>⟨he,by simpa using hb⟩) fun i W h1 h2 _=>(is_nil i W).mono fun e w' ⟨he,hw⟩=>⟨?_,hw⟩
 have:((0:Int) == i)=false:=by simp;omega
 rw[he,this]
theorem told_K(k:Int)(w:World)(hk:0<=k/\k<=10)(hg:ErrVar w):Calls Tryx.prog 34 #[errK k] w fun e w'=>e=.returned (plErr k (-1) 0)/\Below w.heap.size w w':=
 told_of _ k (-1) 0 w hk ((apiTold_K k _ (hg.alloc _)).mono fun e w' ⟨he,hb⟩=>⟨he,by simpa using hb⟩) fun i W h1 h2 _=>is_kind k i W
theorem told_R(p:Nat)(r t k:Int)(w:World)(hk:0<=k/\k<=10)(hg:ErrVar w)(hp:ReqErr w p r t k):Calls Tryx.prog 34 #[errR p] w fun e w'=>e=.returned (plErr k r t)/\Below w.heap.size w w':=
 told_of _ k r t w hk ((apiTold_R p r t k _ (hg.alloc _) (hp.chg ((Chg.refl (fun _=>False) w).alloc _) (fun h=>h))).mono fun e w' ⟨he,hb⟩=>⟨he,by simpa using hb⟩) fun i W h1 h2 hb=>is_req p r t k i W (hp.chg (chgB hb (fun _=>False)) (fun h=>h))
end
section
open Go.RowKit Go.Shelf Go.Lib
set_option maxRecDepth 100000
def updE(es:List Ent)(n:Int)(f:Req->Req):List Ent:=es.map fun e=>if e.r.num=n then ⟨f e.r,e.p,e.born⟩ else e
def dropE(es:List Ent)(n:Int):List Ent:=es.filter fun e=>e.r.num != n
def landE(es:List Ent)(e:Ent):List Ent:=if e.r.told && !e.r.inAir then dropE es e.r.num else es
def findE(es:List Ent)(n:Int):Option Ent:=es.find? fun e=>e.r.num == n && !e.r.told
theorem EntsOk.split{es:List Ent}(h:EntsOk es){e:Ent}(he:e∈es):∃ l1 l2,es=l1 ++ e :: l2/\(∀ x∈l1,x.r.num≠e.r.num)/\(∀ x∈l2,x.r.num≠e.r.num):=by
 obtain⟨l1,l2,rfl⟩:=List.append_of_mem he
 have hn:=h.nums
 rw[List.pairwise_append,List.pairwise_cons]at hn
 exact⟨l1,l2,rfl,fun x hx=>by have:=hn.2.2 x hx e (by simp);omega,fun x hx=>by have:=hn.2.1.1 x hx;omega⟩
theorem updE_split{l1 l2:List Ent}{e:Ent}{n:Int}(f:Req->Req)(hn:n=e.r.num)(h1:∀ x∈l1,x.r.num≠e.r.num)(h2:∀ x∈l2,x.r.num≠e.r.num):updE (l1 ++ e :: l2) n f=l1 ++⟨f e.r,e.p,e.born⟩ :: l2:=by
 subst hn
 unfold updE
 have g:∀ l:List Ent,(∀ x∈l,x.r.num≠e.r.num)->(l.map fun x=>if x.r.num=e.r.num then (⟨f x.r,x.p,x.born⟩:Ent)else x)=l:=fun l hl=>by
  conv=>rhs;rw[<-List.map_id l]
  exact List.map_congr_left fun x hx=>if_neg (hl x hx)
 rw[List.map_append,List.map_cons,g l1 h1,g l2 h2,if_pos rfl]
theorem dropE_split{l1 l2:List Ent}{e:Ent}(h1:∀ x∈l1,x.r.num≠e.r.num)(h2:∀ x∈l2,x.r.num≠e.r.num):dropE (l1 ++ e :: l2) e.r.num=l1 ++ l2:=by
 unfold dropE
 have g:∀ l:List Ent,(∀ x∈l,x.r.num≠e.r.num)->(l.filter fun x=>x.r.num != e.r.num)=l:=fun l hl=>List.filter_eq_self.2 fun x hx=>by simpa using hl x hx
 rw[List.filter_append,List.filter_cons_of_neg (by simp),g l1 h1,g l2 h2]
theorem EntsOk.sub{es fs:List Ent}(h:EntsOk es)(hs:List.Sublist fs es):EntsOk fs:=
 ⟨fun e he=>h.page e (hs.subset he),fun e he=>h.num e (hs.subset he),h.nums.sublist hs⟩
theorem EntsOk.upd{es:List Ent}(h:EntsOk es)(n:Int)(f:Req->Req)(hf:∀ r,(f r).num=r.num/\(f r).page=r.page):EntsOk (updE es n f):=by
 have g:∀ e:Ent,(if e.r.num=n then (⟨f e.r,e.p,e.born⟩:Ent)else e).r.num=e.r.num/\(if e.r.num=n then (⟨f e.r,e.p,e.born⟩:Ent)else e).r.page=e.r.page:=fun e=>by
  split
  ·exact hf e.r
  ·exact⟨rfl,rfl⟩
 refine⟨fun e he=>?_,fun e he=>?_,?_⟩
 ·obtain⟨x,hx,rfl⟩:=List.mem_map.1 he
  rw[(g x).2];exact h.page x hx
 ·obtain⟨x,hx,rfl⟩:=List.mem_map.1 he
  rw[(g x).1];exact h.num x hx
 ·refine List.pairwise_map.2 (h.nums.imp fun {a b} hab=>?_)
  rw[(g a).1,(g b).1];exact hab
theorem ne_of_heap{w:World}{a b:Nat}{o o':Obj}(h:w.heap[a]?=some o)(h':w.heap[b]?=some o')(hne:o≠o'):a≠b:=fun e=>by
 subst e;rw[h]at h';exact hne (Option.some.inj h')
theorem reqs_apart{w:World}{p p':Nat}{r r':Req}(h:ReqB w p r)(h':ReqB w p' r')(hn:r.num≠r'.num):p≠p':=
 ne_of_heap h h' (fun e=>by
  injection e with e1
  have:=congrArg (fun a:Array Value=>a[0]?) e1
  simp[reqCells]at this
  exact hn this)
section
variable {w W:World} {tb mb clock:Nat} {last held:Int} {es:List Ent}
theorem TabB.ne_tm(h:TabB w tb mb clock last held es):tb≠mb:=ne_of_heap h.tab h.map (by simp)
theorem TabB.ne_tp(h:TabB w tb mb clock last held es){e:Ent}(he:e∈es):tb≠e.p:=ne_of_heap h.tab (h.reqs e he) (by simp)
theorem TabB.ne_mp(h:TabB w tb mb clock last held es){e:Ent}(he:e∈es):mb≠e.p:=ne_of_heap h.map (h.reqs e he) (by simp)
theorem TabB.upd(h:TabB w tb mb clock last held es){e:Ent}(he:e∈es)(f:Req->Req)(hf:∀ r,(f r).num=r.num/\(f r).page=r.page)(hW:ReqB W e.p (f e.r))(hc:Chg (fun k=>k=e.p) w W):
  TabB W tb mb clock last held (updE es e.r.num f):=by
 have hok:=h.ok.upd e.r.num f hf
 obtain⟨l1,l2,rfl,h1,h2⟩:=h.ok.split he
 rw[updE_split f rfl h1 h2]at hok ⊢
 have hap:∀ x∈l1 ++ e :: l2,x.r.num≠e.r.num->ReqB W x.p x.r:=fun x hx hxn=>
  (hc.block x.p (lt_of_heap (h.reqs x hx)) (reqs_apart (h.reqs x hx) (h.reqs e he) hxn)).trans (h.reqs x hx)
 refine⟨(hc.block _ (lt_of_heap h.tab) (h.ne_tp he)).trans h.tab,?_,fun x hx=>?_,fun x hx=>?_,?_,hok,?_⟩
 ·have:=(hc.block _ (lt_of_heap h.map) (h.ne_mp he)).trans h.map
  rw[this]
  simp[mapObj,Ent.m,(hf e.r).1]
 ·rcases List.mem_append.1 hx with hx | hx
  ·exact hap x (by simp[hx]) (h1 x hx)
  ·rcases List.mem_cons.1 hx with rfl | hx
   ·exact hW
   ·exact hap x (by simp[hx]) (h2 x hx)
 ·rcases List.mem_append.1 hx with hx | hx
  ·exact h.born x (by simp[hx])
  ·rcases List.mem_cons.1 hx with rfl | hx
   ·exact h.born e he
   ·exact h.born x (by simp[hx])
 ·have:=h.borns
  simpa using this
 ·have:=h.len
  simpa using this
theorem TabB.tabs(h:TabB w tb mb clock last held es)(last' held':Int)(hW:W.heap[tb]?=some (.cells #[.map (some mb),.int .i64 last',.int .i64 held'] 148 (0,0)))(hc:Chg (fun k=>k=tb) w W):TabB W tb mb clock last' held' es:=
 ⟨hW,(hc.block _ (lt_of_heap h.map) h.ne_tm.symm).trans h.map,fun e he=>(hc.block _ (lt_of_heap (h.reqs e he)) (h.ne_tp he).symm).trans (h.reqs e he),h.born,h.borns,h.ok,h.len⟩
theorem TabB.drop(h:TabB w tb mb clock last held es){e:Ent}(_he:e∈es)(hW:W.heap[mb]?=some (mapObj (dropE es e.r.num) clock))(hc:Chg (fun k=>k=mb) w W):TabB W tb mb clock last held (dropE es e.r.num):=
 ⟨(hc.block _ (lt_of_heap h.tab) h.ne_tm).trans h.tab,hW,fun x hx=>(hc.block _ (lt_of_heap (h.reqs x (List.mem_filter.1 hx).1)) (h.ne_mp (List.mem_filter.1 hx).1).symm).trans (h.reqs x (List.mem_filter.1 hx).1),fun x hx=>h.born x (List.mem_filter.1 hx).1,
   h.borns.sublist ((List.filter_sublist).map _),h.ok.sub List.filter_sublist,Nat.le_trans (List.length_filter_le _ _) h.len⟩
theorem TabB.look(h:TabB w tb mb clock last held es){e:Ent}(he:e∈es):
  (Instr.lookup 146 (.map (some mb)) (.int .i64 e.r.num) true).run Tryx.prog w=.ok (.tuple #[ptr e.p,.bool true]) w/\(Instr.lookup 146 (.map (some mb)) (.int .i64 e.r.num) false).run Tryx.prog w=.ok (ptr e.p) w:=by
 obtain⟨l1,l2,rfl,h1,h2⟩:=h.ok.split he
 exact run_lookup_yes Tryx.underlying146 Tryx.underlying3 h.map _ rfl h1
theorem TabB.lookNo(h:TabB w tb mb clock last held es){n:Int}(hn:∀ e∈es,e.r.num≠n):
  (Instr.lookup 146 (.map (some mb)) (.int .i64 n) true).run Tryx.prog w=.ok (.tuple #[.pointer none,.bool false]) w:=
 (run_lookup_no Tryx.underlying146 Tryx.underlying3 (fun w=>by kernel_rfl) h.map n hn).1
theorem TabB.delete(h:TabB w tb mb clock last held es){e:Ent}(he:e∈es):
  ∀ ty,(Builtin.delete_ #[146,3] ty #[.map (some mb),.int .i64 e.r.num]).run Tryx.prog w=.ok (.tuple #[]) (w.putObj mb (mapObj (dropE es e.r.num) clock)):=by
 obtain⟨l1,l2,rfl,h1,h2⟩:=h.ok.split he
 rw[dropE_split h1 h2]
 intro ty
 exact run_delete_yes Tryx.underlying146 Tryx.underlying3 h.map h1
end
theorem newTable_any(w:World):Calls Tryx.prog 97 #[] w fun e w'=>∃ tb mb,e=.returned (ptr tb)/\TabB w' tb mb 0 0 0 []/\w.heap.size<=tb/\w.heap.size<=mb/\Below w.heap.size w w':=by
 have hmk:=fun W=>run_makeMap (P:=Tryx.prog) 146 W
 go_enter Tryx.func97,Tryz.ntmps97
 go_wp2_with fail
 go_ret
 refine⟨_,w.heap.size,rfl,⟨?_,?_,by simp,by simp,by simp,⟨by simp,by simp,by simp⟩,by simp⟩,by simp,Nat.le_refl _,by go_grown⟩
 ·rw[show w.heap.size+1=(w.alloc (.map #[] 0)).heap.size from by simp];exact World.alloc_heap_new _ _
 ·exact (Below.heap_alloc _ _ _ (by simp)).trans (World.alloc_heap_new w _)
theorem get_yes(tb mb clock:Nat)(last held:Int)(es:List Ent)(w:World)(h:TabB w tb mb clock last held es)(e:Ent)(he:e∈es):
  Calls Tryx.prog 44 #[ptr tb,.int .i64 e.r.num] w fun x w'=>x=.returned (ptr e.p)/\w'=w:=by
 have c0:=h.c0
 have hl:=(h.look he).2
 clear h he
 go_enter Tryx.func44,Tryz.ntmps44
 go_wp2_with fail
 go_ret
 exact⟨rfl,rfl⟩
theorem find_any(tb mb clock:Nat)(last held n:Int)(es:List Ent)(w:World)(h:TabB w tb mb clock last held es):
  Calls Tryx.prog 63 #[ptr tb,.int .i64 n] w fun x w'=>x=.returned (match findE es n with | none=>.tuple #[.pointer none,errK 5] | some e=>.tuple #[ptr e.p,.nilIface])/\w'=w:=by
 have c0:=h.c0
 by_cases hn:∃ e∈es,e.r.num=n
 ·obtain⟨e,he,rfl⟩:=hn
  have hl:=(h.look he).1
  have c12:=(h.reqs e he).at.c12
  have hf:findE es e.r.num=if e.r.told then none else some e:=by
   unfold findE
   obtain⟨l1,l2,rfl,h1,h2⟩:=h.ok.split he
   have g:∀ l:List Ent,(∀ x∈l,x.r.num≠e.r.num)->l.find? (fun x=>x.r.num == e.r.num && !x.r.told)=none:=fun l hl=>List.find?_eq_none.2 fun x hx=>by simp[hl x hx]
   rw[List.find?_append,g l1 h1,List.find?_cons,g l2 h2]
   cases e.r.told <;> simp
  rw[hf]
  clear h he hf
  cases ht:e.r.told <;> rw[ht]at c12
  ·go_enter Tryx.func63,Tryz.ntmps63
   go_wp2_with fail
   go_ret2
   exact⟨rfl,rfl⟩
  ·go_enter Tryx.func63,Tryz.ntmps63
   go_wp2_with fail
   go_ret2
   exact⟨rfl,rfl⟩
 ·have hno:∀ e∈es,e.r.num≠n:=fun e he hh=>hn ⟨e,he,hh⟩
  have hl:=h.lookNo hno
  have hf:findE es n=none:=List.find?_eq_none.2 fun x hx=>by simp[hno x hx]
  rw[hf]
  clear h hn hno hf
  go_enter Tryx.func63,Tryz.ntmps63
  go_wp2_with fail
  go_ret2
  exact⟨rfl,rfl⟩
theorem fail_any(p:Nat)(r:Req)(k:Int)(w:World)(h:ReqB w p r):
  Calls Tryx.prog 64 #[ptr p,.int .i64 k] w fun x w'=>∃ b,x=.returned (errR b)/\ReqErr w' b r.num r.tries k/\w.heap.size<=b/\Below w.heap.size w w':=by
 have c0:=h.at.c0
 have c8:=h.at.c8
 clear h
 go_enter Tryx.func64,Tryz.ntmps64
 go_wp2_with fail
 have n1:=World.new_ne w _ c0
 go_region_held3 (fun w'=>w'.cell? ⟨p,0,none⟩=some (.int .i64 r.num)/\w'.cell? ⟨p,8,none⟩=some (.int .i64 r.tries)) (go_keep) (fail)
 go_wp2
 go_ret
 refine⟨_,rfl,?_,Nat.le_refl _,by go_grown⟩
 exact⟨by simp,by simp,by simp⟩
theorem chg_put{w:World}{b:Nat}(o:Obj):Chg (fun k=>k=b) w (w.putObj b o):=⟨rfl,rfl,rfl,by simp[World.putObj],fun k _ hk=>World.putObj_heap_other hk⟩
theorem step_delete{P:Program}{ops:Array Oper}{o:Oper}{a:Act}{w w':World}{K:Act->World->Prop}{Q:Exit->Act->World->Prop}{E:Prop}(hgd:o.guard=none)(s x:Operand)(t1 t2:TypeId)
  (ho:o.op=.call {callee:=.builtin .delete,args:=#[s,x],argTypes:=#[t1,t2]}) (m k:Value) (hs:a.eval s=m) (hx:a.eval x=k) (r:Value) (hrun:(Builtin.delete_ #[t1,t2] o.type #[m,k]).run P w=.ok r w') (h:K (a.put o.dst r) w'):
  if Region.wanted o (yielded ops a.tmps)=true then Oper.wp P o a w K Q else E:=by
 have hw:Region.wanted o (yielded ops a.tmps)=true:=by simp[Region.wanted,hgd]
 rw[if_pos hw]
 unfold Oper.wp
 simp[execOp,ho,resolve,invoke,builtin,hs,hx,hrun,Result.andThen]
 exact h
theorem cell_put{w:World}{b:Nat}{o o':Obj}(h:w.heap[b]?=some o)(hn:∀ c t f,o≠.cells c t f)(hn':∀ c t f,o'≠.cells c t f)(a:Addr):(w.putObj b o').cell? a=w.cell? a:=by
 by_cases hb:a.block=b
 ·subst hb
  have h1:=World.putObj_heap_same (o:=o') (lt_of_heap h)
  simp only[World.cell?,h,h1]
  cases o <;> cases o' <;> first | rfl | exact absurd rfl (hn _ _ _) | exact absurd rfl (hn' _ _ _)
 ·exact World.cell?_of_block (World.putObj_heap_other hb)
theorem land_any(tb mb clock:Nat)(last held:Int)(es:List Ent)(w:World)(h:TabB w tb mb clock last held es)(e:Ent)(he:e∈es):
  Calls Tryx.prog 101 #[ptr tb,ptr e.p] w fun x w'=>x=.returned (.tuple #[])/\TabB w' tb mb clock last held (landE es e)/\Chg (fun k=>k=mb) w w':=by
 have c0:=h.c0
 have a0:=(h.reqs e he).at.c0
 have a11:=(h.reqs e he).at.c11
 have a12:=(h.reqs e he).at.c12
 have hd:=(h.below (Below.refl _ _).drew).delete he
 have hcp:=fun a=>cell_put (w:=w.drew) (o':=mapObj (dropE es e.r.num) clock) h.map (by simp) (by simp) a
 have H:=Lib.hid h
 have HE:=Lib.hid he
 clear h he
 cases ht:e.r.told <;> cases ha:e.r.inAir <;> rw[ht]at a12 <;> rw[ha]at a11
 all_goals go_enter Tryx.func101,Tryz.ntmps101
 all_goals go_wp2_with fail
 ·go_end0
  exact⟨rfl,by simpa[landE,ht]using H.out,Chg.refl _ _⟩
 ·go_end0
  exact⟨rfl,by simpa[landE,ht]using H.out,Chg.refl _ _⟩
 ·go_region_held3 (fun w'=>w'.cell? ⟨tb,0,none⟩=some (.map (some mb))/\w'.cell? ⟨e.p,0,none⟩=some (.int .i64 e.r.num)) (first | (go_keep;done) | (simp[hcp, *];done))
   (refine step_delete (by rfl) _ _ _ _ (by rfl) _ _ (by rfl) (by rfl) _ (hd _) ?_)
  go_end0
  refine⟨rfl,?_,(Chg.refl _ _).drew.then (chg_put _)⟩
  have:=H.out.drop (W:=w.drew.putObj mb (mapObj (dropE es e.r.num) clock)) HE.out (World.putObj_heap_same (lt_of_heap H.out.map)) ((Chg.refl _ _).drew.then (chg_put _))
  simpa[landE,ht,ha]using this
 ·go_end0
  exact⟨rfl,by simpa[landE,ht,ha]using H.out,Chg.refl _ _⟩
def tellE(es:List Ent)(e:Ent):List Ent:=landE (updE es e.r.num tellR) ⟨tellR e.r,e.p,e.born⟩
theorem chg_set{w:World}{b i:Nat}(v:Value):Chg (fun k=>k=b) w (w.setCell ⟨b,i,none⟩ v):=Chg.setCell (S:=fun k=>k=b) (Chg.refl _ _) (p:=⟨b,i,none⟩) (.inl rfl) v
theorem mem_updE{es:List Ent}{e:Ent}(he:e∈es)(f:Req->Req):(⟨f e.r,e.p,e.born⟩:Ent)∈updE es e.r.num f:=
 List.mem_map.2 ⟨e,he,if_pos rfl⟩
theorem tell_any(tb mb clock:Nat)(last held:Int)(es:List Ent)(w:World)(h:TabB w tb mb clock last held es)(e:Ent)(he:e∈es)(hh:0<=held/\held<=2 ^ 60):
  Calls Tryx.prog 65 #[ptr tb,ptr e.p] w fun x w'=>x=.returned (.tuple #[])/\TabB w' tb mb clock last (held - 1) (tellE es e)/\Chg (fun k=>k=tb\/k=mb\/k=e.p) w w'/\ReqB w' e.p (tellR e.r):=by
 have c2:=h.c2
 have a12:=(h.reqs e he).at.c12
 have f12:w.frozen? ⟨e.p,12,none⟩=false:=free_of (h.reqs e he)
 have f2:w.frozen? ⟨tb,2,none⟩=false:=free_of h.tab
 have hne:=h.ne_tp he
 have hw1:IntKind.i64.wrap (held - 1)=held - 1:=by rw[IntKind.wrap_i64];omega
 have h1:=h.upd (W:=w.setCell ⟨e.p,12,none⟩ (.bool true)) he tellR (fun r=>⟨rfl,rfl⟩) (heap_setCell _ (h.reqs e he)) (chg_set _)
 have h2:=h1.tabs last (held - 1) (W:=(w.setCell ⟨e.p,12,none⟩ (.bool true)).setCell ⟨tb,2,none⟩ (.int .i64 (held - 1))) (heap_setCell _ h1.tab) (chg_set _)
 have hc:Chg (fun k=>k=tb\/k=mb\/k=e.p) w ((w.setCell ⟨e.p,12,none⟩ (.bool true)).setCell ⟨tb,2,none⟩ (.int .i64 (held - 1))):=
  ((Chg.refl _ _).setCell (p:=⟨e.p,12,none⟩) (.inl (.inr (.inr rfl))) _).setCell (p:=⟨tb,2,none⟩) (.inl (.inl rfl)) _
 have H2:=Lib.hid h2
 have HC:=Lib.hid hc
 have HE:=Lib.hid (mem_updE he tellR)
 have HRQ:=Lib.hid (h2.reqs _ (mem_updE he tellR))
 have HNM:=Lib.hid (h2.ne_mp (mem_updE he tellR))
 clear h he h1 h2 hc
 go_enter Tryx.func65,Tryz.ntmps65
 go_wp2_with fail
 refine (land_any tb mb clock last (held - 1) _ _ H2.out _ HE.out).mono ?_
 rintro x w' ⟨rfl,hT,hc⟩
 go_wp2
 go_end0
 exact⟨rfl,hT,HC.out.then (hc.mono fun k _ hk=>.inr (.inl hk)),(hc.block _ (lt_of_heap HRQ.out) HNM.out.symm).trans HRQ.out⟩
inductive DatV(w:World):Value->B4->Prop
 | nil:DatV w (.slice none 0 0) ⟨0,0,0,0⟩
 | four (g o c:Nat) (d:B4) (h0:w.cell? ⟨g,o,none⟩=some (.int .u8 d.a)) (h1:w.cell? ⟨g,o+1,none⟩=some (.int .u8 d.b)) (h2:w.cell? ⟨g,o+2,none⟩=some (.int .u8 d.c)) (h3:w.cell? ⟨g,o+3,none⟩=some (.int .u8 d.d)):
    DatV w (.slice (some ⟨g,o,none⟩) 4 c) d
theorem add_full(tb mb clock:Nat)(last held:Int)(es:List Ent)(w:World)(h:TabB w tb mb clock last held es)(hh:40<=held)(write:Bool)(page:Int)(v:Value):
  Calls Tryx.prog 77 #[ptr tb,.bool write,.int .i64 page,v] w fun x w'=>x=.returned (.tuple #[.int .i64 0,errK 4])/\w'=w:=by
 have c2:=h.c2
 clear h
 go_enter Tryx.func77,Tryz.ntmps77
 go_wp2_with fail
 go_ret2
 exact⟨rfl,rfl⟩
theorem Tryz.infoU:(Tryx.prog.info? 5).map (·.size)=some 1:=by kernel_rfl
theorem heap_setCells{b:Nat}{t:TypeId}{f:Nat×Nat}:∀ (vs:List Value) (o:Nat) (w:World) (c:Array Value),w.heap[b]?=some (.cells c t f)->∃ c',(w.setCells b o vs).heap[b]?=some (.cells c' t f)/\Chg (fun k=>k=b) w (w.setCells b o vs)
 | [],_,w,c,h=>⟨c,h,Chg.refl _ _⟩
 | v :: r,o,w,c,h=>by
   obtain⟨c',h1,h2⟩:=heap_setCells r (o+1) (w.setCell ⟨b,o,none⟩ v) _ (heap_setCell v h)
   exact⟨c',h1,(chg_set v).then h2⟩
theorem copy_dat{W:World}{b:Nat}{n:Int}{write:Bool}{page:Int}{v:Value}{d:B4}(h:ReqB W b (newReq n write page ⟨0,0,0,0⟩))(hd:DatV W v d)(ty:TypeId):
  ∃ k W1,(Builtin.copy_ #[41,41] ty #[.slice (some ⟨b,3,none⟩) 4 4,v]).run Tryx.prog W=.ok k W1/\ReqB W1 b (newReq n write page d)/\Chg (fun k=>k=b) W W1:=by
 cases hd with
 | nil=>exact ⟨_,_,run_copy_none W _ _ _ 5 _ _ _ _ _ _ Tryx.underlying41 Tryz.infoU rfl,h,Chg.refl _ _⟩
 | four g o c d h0 h1 h2 h3=>
   refine⟨_,_,run_copy_cells W _ _ _ 5 b 3 4 4 ⟨g,o,none⟩ 4 c [.int .u8 d.a,.int .u8 d.b,.int .u8 d.c,.int .u8 d.d] Tryx.underlying41 Tryz.infoU rfl ?_ ?_ ?_ (by simp[Value.oneCell']),?_,(heap_setCells _ _ W _ h).choose_spec.2⟩
   ·intro j u hj
    match j,hj with
    | 0,hj=>simp at hj;subst hj;simpa[Addr.add]using h0
    | 1,hj=>simp at hj;subst hj;simpa[Addr.add]using h1
    | 2,hj=>simp at hj;subst hj;simpa[Addr.add]using h2
    | 3,hj=>simp at hj;subst hj;simpa[Addr.add]using h3
    | j+4,hj=>simp at hj
   ·intro j hj
    match j,hj with
    | 0,_=>rw [cell_of h rfl];rfl
    | 1,_=>rw [cell_of h rfl];rfl
    | 2,_=>rw [cell_of h rfl];rfl
    | 3,_=>rw [cell_of h rfl];rfl
    | j+4,hj=>exact absurd hj (by simp)
   ·exact fun j _=>free_of h
   ·have e1:=heap_setCell (i:=3) (.int .u8 d.a) h
    have e2:=heap_setCell (i:=4) (.int .u8 d.b) e1
    have e3:=heap_setCell (i:=5) (.int .u8 d.c) e2
    have e4:=heap_setCell (i:=6) (.int .u8 d.d) e3
    exact e4
theorem DatV.kept{w W:World}{v:Value}{d:B4}(h:DatV w v d){S:Nat->Prop}(hc:Chg S w W)(hS:∀ k,S k->∀ i c,w.cell? ⟨k,i,none⟩≠some (.int .u8 c)):DatV W v d:=by
 cases h with
 | nil=>exact .nil
 | four g o c d h0 h1 h2 h3=>
   have hg:=lt_of_cell h0
   have hn:¬S g:=fun hs=>hS g hs _ _ h0
   exact .four g o c d ((hc.cell (p:=⟨g,o,none⟩) hg hn).trans h0) ((hc.cell (p:=⟨g,o+1,none⟩) hg hn).trans h1) ((hc.cell (p:=⟨g,o+2,none⟩) hg hn).trans h2) ((hc.cell (p:=⟨g,o+3,none⟩) hg hn).trans h3)
theorem TabB.no_u8{w:World}{tb mb clock:Nat}{last held:Int}{es:List Ent}(h:TabB w tb mb clock last held es)(i:Nat)(c:Int):w.cell? ⟨tb,i,none⟩≠some (.int .u8 c):=by
 simp only[World.cell?,h.tab]
 match i with
 | 0=>simp
 | 1=>simp
 | 2=>simp
 | i+3=>simp
theorem TabB.add{w W:World}{tb mb clock:Nat}{last held:Int}{es:List Ent}(h:TabB w tb mb clock last held es)(hl:0<=last/\last<2 ^ 60)(hn:∀ e∈es,e.r.num<=last)(hlen:es.length<1000000)(last' held':Int){r:Req}{b:Nat}(hr:r.num=last+1)(hp:0<=r.page/\r.page<16)
  (ht:W.heap[tb]?=some (.cells #[.map (some mb),.int .i64 last',.int .i64 held'] 148 (0,0))) (hm:W.heap[mb]?=some (mapObj (es ++ [⟨r,b,clock⟩]) (clock+1))) (hb:ReqB W b r) (_hbn:w.heap.size<=b) (hc:Chg (fun k=>k=tb\/k=mb) w W):
  TabB W tb mb (clock+1) last' held' (es ++ [⟨r,b,clock⟩]):=by
 refine⟨ht,hm,fun e he=>?_,fun e he=>?_,?_,⟨fun e he=>?_,fun e he=>?_,?_⟩,by simp;omega⟩
 ·rcases List.mem_append.1 he with he | he
  ·exact (hc.block _ (lt_of_heap (h.reqs e he)) (fun hh=>hh.elim (h.ne_tp he).symm (h.ne_mp he).symm)).trans (h.reqs e he)
  ·rw[List.mem_singleton.1 he];exact hb
 ·rcases List.mem_append.1 he with he | he
  ·have:=h.born e he;omega
  ·rw[List.mem_singleton.1 he];show clock<clock+1;omega
 ·rw[List.map_append,List.nodup_append]
  refine⟨h.borns,by simp,fun a ha b hb'=>?_⟩
  obtain⟨x,hx,rfl⟩:=List.mem_map.1 ha
  simp at hb'
  have:=h.born x hx
  omega
 ·rcases List.mem_append.1 he with he | he
  ·exact h.ok.page e he
  ·rw[List.mem_singleton.1 he];exact hp
 ·rcases List.mem_append.1 he with he | he
  ·exact h.ok.num e he
  ·rw[List.mem_singleton.1 he];show 0<=r.num/\r.num<=2 ^ 60;omega
 ·rw[List.pairwise_append]
  refine⟨h.ok.nums,by simp,fun a ha b hb'=>?_⟩
  rw[List.mem_singleton.1 hb']
  have:=hn a ha
  show a.r.num<r.num
  omega
theorem add_any(tb mb clock:Nat)(last held:Int)(es:List Ent)(w:World)(h:TabB w tb mb clock last held es)(hh:0<=held/\held<40)(hl:0<=last/\last<2 ^ 60)(hn:∀ e∈es,e.r.num<=last)(hlen:es.length<1000000)(write:Bool)(page:Int)(hp:0<=page/\page<16)(v:Value)(d:B4)(hd:DatV w v d):
  Calls Tryx.prog 77 #[ptr tb,.bool write,.int .i64 page,v] w fun x w'=>∃ b,x=.returned (.tuple #[.int .i64 (last+1),.nilIface])/\
   TabB w' tb mb (clock+1) (last+1) (held+1) (es ++ [⟨newReq (last+1) write page d,b,clock⟩])/\w.heap.size<=b/\Chg (fun k=>k=tb\/k=mb) w w':=by
 have c0:=h.c0
 have c1:=h.c1
 have c2:=h.c2
 have f1:w.frozen? ⟨tb,1,none⟩=false:=free_of h.tab
 have f2:w.frozen? ⟨tb,2,none⟩=false:=free_of h.tab
 have hw1:IntKind.i64.wrap (held+1)=held+1:=by rw[IntKind.wrap_i64];omega
 have hw2:IntKind.i64.wrap (last+1)=last+1:=by rw[IntKind.wrap_i64];omega
 have hlt:=lt_of_heap h.tab
 have hc:¬held>=40:=by omega
 obtain⟨W0,hW0⟩:∃ W0,((w.setCell ⟨tb,1,none⟩ (.int .i64 (last+1))).setCell ⟨tb,2,none⟩ (.int .i64 (held+1))).alloc (.cells (reqCells (newReq (last+1) write page ⟨0,0,0,0⟩)) 96)=W0:=⟨_,rfl⟩
 have hC0:Chg (fun k=>k=tb) w W0:=by
  rw[<-hW0];exact ((chg_set _).then (chg_set _)).alloc _
 have hR0:ReqB W0 w.heap.size (newReq (last+1) write page ⟨0,0,0,0⟩):=by
  rw[<-hW0,show w.heap.size=((w.setCell ⟨tb,1,none⟩ (.int .i64 (last+1))).setCell ⟨tb,2,none⟩ (.int .i64 (held+1))).heap.size from by simp[World.setCell]];exact World.alloc_heap_new _ _
 have ht0:W0.heap[tb]?=some (.cells #[.map (some mb),.int .i64 (last+1),.int .i64 (held+1)] 148 (0,0)):=by
  rw[<-hW0]
  exact (Below.heap_alloc _ _ _ (by simp[World.setCell];exact hlt)).trans (heap_setCell _ (heap_setCell _ h.tab))
 obtain⟨k,W1,hrun,hR1,hC1⟩:=copy_dat hR0 (hd.kept hC0 (fun k hk i c=>by rw[hk];exact h.no_u8 i c)) 3
 have hml:=lt_of_heap h.map
 have hm1:W1.heap[mb]?=some (mapObj es clock):=(hC1.block mb (Nat.lt_of_lt_of_le hml hC0.size) (by omega)).trans ((hC0.block mb hml h.ne_tm.symm).trans h.map)
 have ht1:W1.heap[tb]?=some (.cells #[.map (some mb),.int .i64 (last+1),.int .i64 (held+1)] 148 (0,0)):=(hC1.block tb (Nat.lt_of_lt_of_le hlt hC0.size) (by omega)).trans ht0
 have hupd:=run_update_new (P:=Tryx.prog) Tryx.underlying146 Tryx.underlying3 (w:=W1.drew) hm1 (newReq (last+1) write page d) w.heap.size (fun e he=>by have:=hn e he;show e.r.num≠last+1;omega)
 have d0:W1.cell? ⟨w.heap.size,0,none⟩=some (.int .i64 (last+1)):=hR1.at.c0
 have hcp:=fun a=>cell_put (w:=W1.drew) (o':=mapObj (es ++ [⟨newReq (last+1) write page d,w.heap.size,clock⟩]) (clock+1)) hm1 (by simp) (by simp) a
 have t0:=cell_of (i:=0) ht1 rfl
 have c0':W0.cell? ⟨tb,1,none⟩=some (.int .i64 (last+1)):=cell_of ht0 rfl
 have hfin:∀ W2,W2=W1.drew.putObj mb (mapObj (es ++ [⟨newReq (last+1) write page d,w.heap.size,clock⟩]) (clock+1))->TabB W2 tb mb (clock+1) (last+1) (held+1) (es ++ [⟨newReq (last+1) write page d,w.heap.size,clock⟩])/\Chg (fun k=>k=tb\/k=mb) w W2:=fun W2 e=>by
  subst e
  have hcc:Chg (fun k=>k=tb\/k=mb) w (W1.drew.putObj mb (mapObj (es ++ [⟨newReq (last+1) write page d,w.heap.size,clock⟩]) (clock+1))):=
   ((hC0.mono fun k _ hk=>.inl hk).trans (hC1.mono fun k _ hk=>.inr (by omega))).drew.then ((chg_put _).mono fun k _ hk=>.inr hk)
  exact⟨h.add hl hn hlen _ _ rfl hp ((World.putObj_heap_other h.ne_tm).trans ht1) (World.putObj_heap_same (lt_of_heap hm1)) ((World.putObj_heap_other (by omega)).trans hR1) (Nat.le_refl _) hcc,hcc⟩
 have HF:=Lib.hid hfin
 have HR:=Lib.hid hR1
 rw[<-hW0]at hrun
 simp only[reqCells,newReq]at hrun hupd hcp
 clear h hd hn hC0 ht0 hC1 hm1 ht1 hfin hR1 hR0 hW0 c0'
 go_enter Tryx.func77,Tryz.ntmps77
 go_wp2_with fail
 go_region_held3 (fun w'=>w'.cell? ⟨tb,0,none⟩=some (.map (some mb))/\w'.cell? ⟨w.heap.size,0,none⟩=some (.int .i64 (last+1))) (first | (go_keep;done) | (simp[hcp, *];done)) (fail)
 go_wp2
 go_ret2
 exact⟨_,rfl,(HF.out _ rfl).1,Nat.le_refl _,(HF.out _ rfl).2⟩
structure Sta where
 depth:Nat
 es:List Ent
 last:Int
 held:Int
 cs:List (Cmd×Value)
 now:Int
 head:Nat
 disk:List Int
def cmdCells(c:Cmd×Value):List Value:=[.bool c.1.write,.int .i64 c.1.page,.int .i64 c.1.count,c.2]
def qCells(tb:Nat)(fv:Value)(s:Sta):Array Value:=([.int .i64 s.depth,ptr tb,fv,.int .i64 s.now,.int .i64 s.head] ++ s.disk.map fun b=>Value.int .u8 b).toArray
structure QB(w:World)(q tb mb clock:Nat)(fv:Value)(s:Sta):Prop where
 que:w.heap[q]?=some (.cells (qCells tb fv s) 89 (0,0))
 tab:TabB w tb mb clock s.last s.held s.es
 fl:w.ownsRow 0 48 4 fv s.cs.length (s.cs.flatMap cmdCells)
 rows:∀ c∈s.cs,w.ownsRow 0 3 1 c.2 c.1.nums.length (c.1.nums.map fun n=>Value.int .i64 n)
 disk:s.disk.length=64
def QFoot(q tb mb:Nat)(fv:Value)(s:Sta)(k:Nat):Prop:=k=q\/k=tb\/k=mb\/fv.ownBlock=some k\/(∃ e∈s.es,k=e.p)\/∃ c∈s.cs,c.2.ownBlock=some k
def QAt(w:World)(q:Nat)(s:Sta)(F:Nat->Prop):Prop:=∃ tb mb clock fv,QB w q tb mb clock fv s/\∀ k,QFoot q tb mb fv s k->F k
section
variable {w W:World} {q tb mb clock:Nat} {fv:Value} {s:Sta}
theorem ownsRow_chg{base:Nat}{t:TypeId}{size n:Nat}{v:Value}{xs:List Value}(h:w.ownsRow base t size v n xs){S:Nat->Prop}(hc:Chg S w W)(hn:∀ k,v.ownBlock=some k->¬S k):W.ownsRow base t size v n xs:=by
 refine⟨h.1,h.2.imp id fun ⟨g,c,cur,h1,h2,h3,h4⟩=>⟨g,c,cur,h1,h2,(hc.block g (lt_of_heap h3) (hn g (by rw[h1];rfl))).trans h3,h4⟩⟩
theorem QB.kept(h:QB w q tb mb clock fv s){S:Nat->Prop}(hc:Chg S w W)(hn:∀ k,QFoot q tb mb fv s k->¬S k):QB W q tb mb clock fv s:=
 ⟨(hc.block _ (lt_of_heap h.que) (hn _ (.inl rfl))).trans h.que,h.tab.kept hc (hn _ (.inr (.inl rfl))) (hn _ (.inr (.inr (.inl rfl)))) fun e he=>hn _ (.inr (.inr (.inr (.inr (.inl ⟨e,he,rfl⟩))))),
   ownsRow_chg h.fl hc fun _k hk=>hn _ (.inr (.inr (.inr (.inl hk)))),fun c hcm=>ownsRow_chg (h.rows c hcm) hc fun _k hk=>hn _ (.inr (.inr (.inr (.inr (.inr ⟨c,hcm,hk⟩))))),h.disk⟩
theorem QAt.kept{F:Nat->Prop}(h:QAt w q s F){S:Nat->Prop}(hc:Chg S w W)(hn:∀ k,F k->¬S k):QAt W q s F:=by
 obtain⟨tb,mb,clock,fv,hq,hF⟩:=h
 exact⟨tb,mb,clock,fv,hq.kept hc fun k hk=>hn k (hF k hk),hF⟩
theorem QAt.mono{F G:Nat->Prop}(h:QAt w q s F)(hFG:∀ k,F k->G k):QAt w q s G:=by
 obtain⟨tb,mb,clock,fv,hq,hF⟩:=h
 exact⟨tb,mb,clock,fv,hq,fun k hk=>hFG k (hF k hk)⟩
theorem QB.c0(h:QB w q tb mb clock fv s):w.cell? ⟨q,0,none⟩=some (.int .i64 s.depth):=cell_of h.que rfl
theorem QB.c1(h:QB w q tb mb clock fv s):w.cell? ⟨q,1,none⟩=some (ptr tb):=cell_of h.que rfl
theorem QB.c2(h:QB w q tb mb clock fv s):w.cell? ⟨q,2,none⟩=some fv:=cell_of h.que rfl
theorem QB.c3(h:QB w q tb mb clock fv s):w.cell? ⟨q,3,none⟩=some (.int .i64 s.now):=cell_of h.que rfl
theorem QB.c4(h:QB w q tb mb clock fv s):w.cell? ⟨q,4,none⟩=some (.int .i64 s.head):=cell_of h.que rfl
theorem QB.free(h:QB w q tb mb clock fv s)(i:Nat):w.frozen? ⟨q,i,none⟩=false:=free_of h.que
theorem QB.ne_qt(h:QB w q tb mb clock fv s):q≠tb:=ne_of_heap h.que h.tab.tab (by simp)
theorem QB.ne_qm(h:QB w q tb mb clock fv s):q≠mb:=ne_of_heap h.que h.tab.map (by simp)
theorem QB.ne_qp(h:QB w q tb mb clock fv s){e:Ent}(he:e∈s.es):q≠e.p:=ne_of_heap h.que (h.tab.reqs e he) (by simp)
theorem own_heap{base:Nat}{t:TypeId}{size n k:Nat}{v:Value}{xs:List Value}(h:w.ownsRow base t size v n xs)(hk:v.ownBlock=some k):∃ cur,w.heap[k]?=some (.cells cur t (0,0)):=by
 rcases h.2 with ⟨rfl,_⟩ |⟨g,c,cur,rfl,_,h3,_⟩
 ·cases hk
 ·cases hk;exact⟨cur,h3⟩
theorem QB.ne_qf(h:QB w q tb mb clock fv s){k:Nat}(hk:fv.ownBlock=some k):q≠k:=by
 obtain⟨cur,hc⟩:=own_heap h.fl hk
 exact ne_of_heap h.que hc (by simp)
theorem QB.ne_qr(h:QB w q tb mb clock fv s){c:Cmd×Value}(hcm:c∈s.cs){k:Nat}(hk:c.2.ownBlock=some k):q≠k:=by
 obtain⟨cur,hc⟩:=own_heap (h.rows c hcm) hk
 exact ne_of_heap h.que hc (by simp)
theorem QB.ques(h:QB w q tb mb clock fv s)(s':Sta)(h1:s'.es=s.es)(h2:s'.last=s.last)(h3:s'.held=s.held)(h4:s'.cs=s.cs)(hd:s'.disk.length=64)(hW:W.heap[q]?=some (.cells (qCells tb fv s') 89 (0,0)))(hc:Chg (fun k=>k=q) w W):QB W q tb mb clock fv s':=by
 refine⟨hW,?_,?_,?_,hd⟩
 ·rw[h1,h2,h3]
  exact h.tab.kept hc h.ne_qt.symm h.ne_qm.symm fun e he=>(h.ne_qp he).symm
 ·rw[h4]
  exact ownsRow_chg h.fl hc fun k hk=>(h.ne_qf hk).symm
 ·rw[h4]
  exact fun c hcm=>ownsRow_chg (h.rows c hcm) hc fun k hk=>(h.ne_qr hcm hk).symm
theorem QB.tabs(h:QB w q tb mb clock fv s)(clock':Nat)(s':Sta)(h0:s'.depth=s.depth/\s'.now=s.now/\s'.head=s.head/\s'.disk=s.disk)(h4:s'.cs=s.cs)(ht:TabB W tb mb clock' s'.last s'.held s'.es){S:Nat->Prop}(hc:Chg S w W)(hS:∀ k,S k->k=tb\/k=mb\/∃ e∈s.es,k=e.p):QB W q tb mb clock' fv s':=by
 obtain⟨h5,h6,h7,h8⟩:=h0
 refine⟨?_,ht,?_,?_,h8 ▸ h.disk⟩
 ·have:qCells tb fv s'=qCells tb fv s:=by simp[qCells,h5,h6,h7,h8]
  rw[this]
  exact (hc.block q (lt_of_heap h.que) fun hk=>by
   rcases hS q hk with e | e |⟨x,hx,e⟩
   ·exact h.ne_qt e
   ·exact h.ne_qm e
   ·exact h.ne_qp hx e).trans h.que
 ·rw[h4]
  refine ownsRow_chg h.fl hc fun k hk hs=>?_
  obtain⟨cur,hcur⟩:=own_heap h.fl hk
  rcases hS k hs with e | e |⟨x,hx,e⟩
  ·exact ne_of_heap hcur h.tab.tab (by simp) e
  ·exact ne_of_heap hcur h.tab.map (by simp) e
  ·exact ne_of_heap hcur (h.tab.reqs x hx) (by simp) e
 ·rw[h4]
  intro c hcm
  refine ownsRow_chg (h.rows c hcm) hc fun k hk hs=>?_
  obtain⟨cur,hcur⟩:=own_heap (h.rows c hcm) hk
  rcases hS k hs with e | e |⟨x,hx,e⟩
  ·exact ne_of_heap hcur h.tab.tab (by simp) e
  ·exact ne_of_heap hcur h.tab.map (by simp) e
  ·exact ne_of_heap hcur (h.tab.reqs x hx) (by simp) e
end
def sta0(depth:Nat):Sta:=⟨depth,[],0,0,[],0,0,List.replicate 64 0⟩
theorem new_no(d:Int)(w:World)(hd:d<1\/4<d):Calls Tryx.prog 59 #[.int .i64 d] w fun e w'=>e=.returned (.tuple #[.pointer none,errK 1])/\w'=w:=by
 rcases hd with hd | hd
 ·go_enter Tryx.func59,Tryz.ntmps59
  go_wp2_with fail
  go_ret2
  exact⟨rfl,rfl⟩
 ·go_enter Tryx.func59,Tryz.ntmps59
  go_wp2_with fail
  go_ret2
  exact⟨rfl,rfl⟩
theorem new_any(d:Nat)(w:World)(hd:1<=d/\d<=4):Calls Tryx.prog 59 #[.int .i64 d] w fun e w'=>∃ q,e=.returned (.tuple #[ptr q,.nilIface])/\QAt w' q (sta0 d) (fun k=>w.heap.size<=k)/\w.heap.size<=q/\Below w.heap.size w w':=by
 have h1:¬((d:Int)<1):=by omega
 have h2:¬((d:Int)>4):=by omega
 go_enter Tryx.func59,Tryz.ntmps59
 go_wp2_with fail
 refine (newTable_any w).mono ?_
 rintro x w' ⟨tb,mb,rfl,hT,hbt,hbm,hB⟩
 have H:=Lib.hid hT
 clear hT
 go_wp2_with fail
 go_ret2
 have hT:=H.out
 have hq:(w'.alloc (.cells (qCells tb (.slice none 0 0) (sta0 d)) 89)).heap[w'.heap.size]?=some (.cells (qCells tb (.slice none 0 0) (sta0 d)) 89 (0,0)):=World.alloc_heap_new _ _
 refine⟨w'.heap.size,rfl,⟨tb,mb,0,.slice none 0 0,⟨hq,hT.below ((Below.refl _ _).alloc (Nat.le_refl _) _),World.ownsRow_nil _ _ _ _,(fun c hc=>by cases hc),rfl⟩,?_⟩,hB.size,hB.alloc hB.size _⟩
 intro k hk
 have:=hB.size
 rcases hk with h | h | h | h |⟨e,he,_⟩ |⟨c,hc,_⟩
 ·omega
 ·omega
 ·omega
 ·cases h
 ·cases he
 ·cases hc
theorem tick_any(q:Nat)(s:Sta)(F:Nat->Prop)(w:World)(h:QAt w q s F)(hn:0<=s.now/\s.now<2 ^ 60):Calls Tryx.prog 42 #[ptr q] w fun e w'=>e=.returned (.tuple #[])/\QAt w' q {s with now:=s.now+1} F/\Chg (fun k=>k=q) w w':=by
 obtain⟨tb,mb,clock,fv,hq,hF⟩:=h
 have c3:=hq.c3
 have f3:=hq.free 3
 have hw:IntKind.i64.wrap (s.now+1)=s.now+1:=by rw[IntKind.wrap_i64];omega
 have h':=hq.ques (W:=w.setCell ⟨q,3,none⟩ (.int .i64 (s.now+1))) {s with now:=s.now+1} rfl rfl rfl rfl hq.disk (heap_setCell _ hq.que) (chg_set _)
 have H:=Lib.hid h'
 have HF:=Lib.hid hF
 clear hq h' hF
 go_enter Tryx.func42,Tryz.ntmps42
 go_wp2_with fail
 go_end0
 exact⟨rfl,⟨tb,mb,clock,fv,H.out,HF.out⟩,chg_set _⟩
theorem isPage_any(p:Int)(w:World):Calls Tryx.prog 76 #[.int .i64 p] w fun e w'=>e=.returned (.bool (decide (0<=p) && decide (p<16)))/\w'=w:=by
 by_cases h:0<=p
 ·by_cases h2:p<16
  ·have d1:decide (p>=0)=true:=by simpa using h
   have d2:decide (p<16)=true:=by simpa using h2
   go_enter Tryx.func76,Tryz.ntmps76
   go_wp2_with fail
   go_ret
   exact⟨by simp[h,h2],rfl⟩
  ·have d1:decide (p>=0)=true:=by simpa using h
   have d2:decide (p<16)=false:=by simpa using h2
   go_enter Tryx.func76,Tryz.ntmps76
   go_wp2_with fail
   go_ret
   exact⟨by simp,rfl⟩
 ·have d1:decide (p>=0)=false:=by simpa using h
  go_enter Tryx.func76,Tryz.ntmps76
  go_wp2_with fail
  go_ret
  exact⟨by simp,rfl⟩
theorem foot_tabs{q tb mb:Nat}{fv:Value}{s s':Sta}{F:Nat->Prop}{n:Nat}(hF:∀ k,QFoot q tb mb fv s k->F k)(h4:s'.cs=s.cs)(he:∀ e∈s'.es,(∃ x∈s.es,x.p=e.p)\/n<=e.p):∀ k,QFoot q tb mb fv s' k->F k\/n<=k:=by
 intro k hk
 rcases hk with h | h | h | h |⟨e,hm,h⟩ |⟨c,hc,h⟩
 ·exact .inl (hF k (.inl h))
 ·exact .inl (hF k (.inr (.inl h)))
 ·exact .inl (hF k (.inr (.inr (.inl h))))
 ·exact .inl (hF k (.inr (.inr (.inr (.inl h)))))
 ·rcases he e hm with ⟨x,hx,hxe⟩ | hn
  ·exact .inl (hF k (.inr (.inr (.inr (.inr (.inl ⟨x,hx,h.trans hxe.symm⟩))))))
  ·exact .inr (h ▸ hn)
 ·exact .inl (hF k (.inr (.inr (.inr (.inr (.inr ⟨c,h4 ▸ hc,h⟩))))))
def addS(s:Sta)(write:Bool)(page:Int)(d:B4)(b clock:Nat):Sta:={s with es:=s.es ++ [⟨newReq (s.last+1) write page d,b,clock⟩],last:=s.last+1,held:=s.held+1}
theorem read_any(q:Nat)(s:Sta)(F:Nat->Prop)(w:World)(page:Int)(h:QAt w q s F)(hp:0<=page/\page<16)(hh:0<=s.held/\s.held<40)(hl:0<=s.last/\s.last<2 ^ 60)(hn:∀ e∈s.es,e.r.num<=s.last)(hlen:s.es.length<1000000):
  Calls Tryx.prog 46 #[ptr q,.int .i64 page] w fun x w'=>∃ b clock,x=.returned (.tuple #[.int .i64 (s.last+1),.nilIface])/\QAt w' q (addS s false page ⟨0,0,0,0⟩ b clock) (fun k=>F k\/w.heap.size<=k)/\Chg F w w':=by
 obtain⟨tb,mb,clock,fv,hq,hF⟩:=h
 have c1:=hq.c1
 have HQ:=Lib.hid hq
 have HF:=Lib.hid hF
 have HN:=Lib.hid hn
 have hpg:(decide (0<=page) && decide (page<16))=true:=by simp[hp.1,hp.2]
 clear hq hF hn
 go_enter Tryx.func46,Tryz.ntmps46
 go_wp2_with fail
 refine (isPage_any page w).mono ?_
 rintro x w1 ⟨rfl,rfl⟩
 rw[hpg]
 go_wp2_with fail
 refine (add_any tb mb clock s.last s.held s.es w1 HQ.out.tab hh hl HN.out hlen false page hp _ _ .nil).mono ?_
 rintro x w2 ⟨b,rfl,hT,hb,hc⟩
 have HT:=Lib.hid hT
 clear hT
 go_wp2_with fail
 go_ret2
 refine⟨b,clock,rfl,⟨tb,mb,clock+1,fv,HQ.out.tabs _ (addS s false page ⟨0,0,0,0⟩ b clock) ⟨rfl,rfl,rfl,rfl⟩ rfl HT.out hc (fun k hk=>hk.imp id .inl),foot_tabs HF.out rfl ?_⟩,hc.mono ?_⟩
 ·intro e he
  rcases List.mem_append.1 he with he | he
  ·exact .inl ⟨e,he,rfl⟩
  ·rw[List.mem_singleton.1 he];exact .inr hb
 ·exact fun k _ hk=>HF.out k (hk.elim (fun h=>.inr (.inl h)) fun h=>.inr (.inr (.inl h)))
theorem read_full(q:Nat)(s:Sta)(F:Nat->Prop)(w:World)(page:Int)(h:QAt w q s F)(hp:0<=page/\page<16)(hh:40<=s.held):
  Calls Tryx.prog 46 #[ptr q,.int .i64 page] w fun x w'=>x=.returned (.tuple #[.int .i64 0,errK 4])/\w'=w:=by
 obtain⟨tb,mb,clock,fv,hq,hF⟩:=h
 have c1:=hq.c1
 have HQ:=Lib.hid hq
 have hpg:(decide (0<=page) && decide (page<16))=true:=by simp[hp.1,hp.2]
 clear hq hF
 go_enter Tryx.func46,Tryz.ntmps46
 go_wp2_with fail
 refine (isPage_any page w).mono ?_
 rintro x w1 ⟨rfl,rfl⟩
 rw[hpg]
 go_wp2_with fail
 refine (add_full tb mb clock s.last s.held s.es w1 HQ.out.tab hh false page _).mono ?_
 rintro x w2 ⟨rfl,rfl⟩
 go_wp2_with fail
 go_ret2
 exact⟨rfl,rfl⟩
theorem write_any(q:Nat)(s:Sta)(F:Nat->Prop)(w:World)(page:Int)(v:Value)(d:B4)(cap:Nat)(a:Option Addr)(hv:v=.slice a 4 cap)(hd:DatV w v d)(h:QAt w q s F)(hp:0<=page/\page<16)(hh:0<=s.held/\s.held<40)(hl:0<=s.last/\s.last<2 ^ 60)(hn:∀ e∈s.es,e.r.num<=s.last)(hlen:s.es.length<1000000):
  Calls Tryx.prog 60 #[ptr q,.int .i64 page,v] w fun x w'=>∃ b clock,x=.returned (.tuple #[.int .i64 (s.last+1),.nilIface])/\QAt w' q (addS s true page d b clock) (fun k=>F k\/w.heap.size<=k)/\Chg F w w':=by
 obtain⟨tb,mb,clock,fv,hq,hF⟩:=h
 have c1:=hq.c1
 have HQ:=Lib.hid hq
 have HF:=Lib.hid hF
 have HN:=Lib.hid hn
 have hpg:(decide (0<=page) && decide (page<16))=true:=by simp[hp.1,hp.2]
 subst hv
 clear hq hF hn
 go_enter Tryx.func60,Tryz.ntmps60
 go_wp2_with fail
 refine (isPage_any page w).mono ?_
 rintro x w1 ⟨rfl,rfl⟩
 rw[hpg]
 go_wp2_with fail
 refine (add_any tb mb clock s.last s.held s.es w1 HQ.out.tab hh hl HN.out hlen true page hp _ _ hd).mono ?_
 rintro x w2 ⟨b,rfl,hT,hb,hc⟩
 have HT:=Lib.hid hT
 clear hT
 go_wp2_with fail
 go_ret2
 refine⟨b,clock,rfl,⟨tb,mb,clock+1,fv,HQ.out.tabs _ (addS s true page d b clock) ⟨rfl,rfl,rfl,rfl⟩ rfl HT.out hc (fun k hk=>hk.imp id .inl),foot_tabs HF.out rfl ?_⟩,hc.mono ?_⟩
 ·intro e he
  rcases List.mem_append.1 he with he | he
  ·exact .inl ⟨e,he,rfl⟩
  ·rw[List.mem_singleton.1 he];exact .inr hb
 ·exact fun k _ hk=>HF.out k (hk.elim (fun h=>.inr (.inl h)) fun h=>.inr (.inr (.inl h)))
theorem write_full(q:Nat)(s:Sta)(F:Nat->Prop)(w:World)(page:Int)(cap:Nat)(a:Option Addr)(h:QAt w q s F)(hp:0<=page/\page<16)(hh:40<=s.held):
  Calls Tryx.prog 60 #[ptr q,.int .i64 page,.slice a 4 cap] w fun x w'=>x=.returned (.tuple #[.int .i64 0,errK 4])/\w'=w:=by
 obtain⟨tb,mb,clock,fv,hq,hF⟩:=h
 have c1:=hq.c1
 have HQ:=Lib.hid hq
 have hpg:(decide (0<=page) && decide (page<16))=true:=by simp[hp.1,hp.2]
 clear hq hF
 go_enter Tryx.func60,Tryz.ntmps60
 go_wp2_with fail
 refine (isPage_any page w).mono ?_
 rintro x w1 ⟨rfl,rfl⟩
 rw[hpg]
 go_wp2_with fail
 refine (add_full tb mb clock s.last s.held s.es w1 HQ.out.tab hh true page _).mono ?_
 rintro x w2 ⟨rfl,rfl⟩
 go_wp2_with fail
 go_ret2
 exact⟨rfl,rfl⟩
theorem row_int{w:World}{g n:Nat}{t:TypeId}{ns:List Int}{cur:Array Value}(hgb:w.heap[g]?=some (.cells cur t (0,0)))(r4:cur.toList.take (n*1)=ns.map fun n=>Value.int .i64 n)(hn:n=ns.length)(j:Nat)(hj:j<ns.length):
  w.cell? ⟨g,j,none⟩=some (.int .i64 (ns[j]'hj)):=by
 simp only[World.cell?,hgb]
 have h1:(cur.toList.take (n*1))[j]?=(ns.map fun n=>Value.int .i64 n)[j]?:=by rw[r4]
 rw[Nat.mul_one,List.getElem?_take_of_lt (by omega),List.getElem?_map,List.getElem?_eq_getElem hj]at h1
 simpa using h1
theorem own_slice{w:World}{base n size:Nat}{t:TypeId}{v:Value}{xs:List Value}(h:w.ownsRow base t size v n xs):∃ a c,v=.slice a n c:=by
 rcases h.2 with ⟨rfl,rfl⟩ |⟨g,c,cur,rfl,_⟩
 ·exact⟨_,_,rfl⟩
 ·exact⟨_,_,rfl⟩
theorem QB.foot_lt{w:World}{q tb mb clock:Nat}{fv:Value}{s:Sta}(h:QB w q tb mb clock fv s){k:Nat}(hk:QFoot q tb mb fv s k):k<w.heap.size:=by
 rcases hk with rfl | rfl | rfl | hk |⟨e,he,rfl⟩ |⟨c,hc,hk⟩
 ·exact lt_of_heap h.que
 ·exact lt_of_heap h.tab.tab
 ·exact lt_of_heap h.tab.map
 ·obtain⟨cur,hc⟩:=own_heap h.fl hk
  exact lt_of_heap hc
 ·exact lt_of_heap (h.tab.reqs e he)
 ·obtain⟨cur,hc⟩:=own_heap (h.rows c hc) hk
  exact lt_of_heap hc
theorem cloneInts(v:Value)(ns:List Int)(w:World)(h:w.ownsRow 0 3 1 v ns.length (ns.map fun n=>Value.int .i64 n))(hl:ns.length<=1000000):
  Calls Tryx.prog 70 #[v] w fun e w'=>∃ v',e=.returned v'/\w'.ownsRow w.heap.size 3 1 v' ns.length (ns.map fun n=>Value.int .i64 n)/\Below w.heap.size w w':=by
 rcases h.2 with ⟨rfl,h0⟩ |⟨g,cap,cur,rfl,_,h3,h4,h5,h6,h7⟩
 ·refine (Tryz.slices_Clone_int_nil 0 0 w).mono ?_
  rintro e w' ⟨rfl,rfl⟩
  have:ns=[]:=List.length_eq_zero_iff.1 h0
  subst this
  exact⟨_,rfl,World.ownsRow_nil _ _ _ _,Below.refl _ _⟩
 ·refine (Tryz.slices_Clone_int g 0 ns.length cap ns w (Nat.le_refl _) (by omega) fun j hj=>?_).mono ?_
  ·rw[Nat.zero_add,row_int h3 h7 rfl j hj]
   simp[List.getD,List.getElem?_eq_getElem hj]
  ·rintro e w' ⟨v',rfl,h1,_,h2⟩
   rw[List.take_length]at h1
   exact⟨v',rfl,h1,h2⟩
theorem clone_any(b:Bool)(p c:Int)(v:Value)(ns:List Int)(w:World)(h:w.ownsRow 0 3 1 v ns.length (ns.map fun n=>Value.int .i64 n))(hl:ns.length<=1000000):
  Calls Tryx.prog 39 #[.agg #[.bool b,.int .i64 p,.int .i64 c,v]] w fun e w'=>∃ v',e=.returned (.agg #[.bool b,.int .i64 p,.int .i64 c,v'])/\w'.ownsRow w.heap.size 3 1 v' ns.length (ns.map fun n=>Value.int .i64 n)/\Below w.heap.size w w':=by
 obtain⟨W1,hW1⟩:∃ W1,((w.alloc (.cells #[.bool b,.int .i64 p,.int .i64 c,v] 48)).alloc (.cells #[.bool false,.int .i64 0,.int .i64 0,.slice none 0 0] 48))=W1:=⟨_,rfl⟩
 have hb1:Below w.heap.size w W1:=by rw[<-hW1];exact ((Below.refl _ _).alloc (Nat.le_refl _) _).alloc (by simp) _
 have hs1:W1.heap.size=w.heap.size+2:=by rw[<-hW1];simp
 have hr1:W1.heap[w.heap.size]?=some (.cells #[.bool b,.int .i64 p,.int .i64 c,v] 48 (0,0)):=by
  rw[<-hW1];exact (Below.heap_alloc _ _ _ (by simp)).trans (World.alloc_heap_new w _)
 have hr2:W1.heap[w.heap.size+1]?=some (.cells #[.bool false,.int .i64 0,.int .i64 0,.slice none 0 0] 48 (0,0)):=by
  rw[<-hW1,show w.heap.size+1=(w.alloc (.cells #[.bool b,.int .i64 p,.int .i64 c,v] 48)).heap.size from by simp];exact World.alloc_heap_new _ _
 have HC:=Lib.hid (cloneInts v ns W1 (ownsRow_chg h (chgB hb1 fun _=>False) fun _ _ x=>x) hl)
 have HR:=Lib.hid hr1
 have HR2:=Lib.hid hr2
 have g3:W1.cell? ⟨w.heap.size,3,none⟩=some v:=cell_of hr1 rfl
 clear h hr1 hr2
 go_enter Tryx.func39,Tryz.ntmps39
 go_wp2_with fail
 refine HC.out.mono ?_
 rintro x w2 ⟨v',rfl,hrow,hB⟩
 obtain⟨va,vc,rfl⟩:=own_slice hrow
 have e1:=(hB.block w.heap.size (by omega)).trans HR.out
 have e2:=(hB.block (w.heap.size+1) (by omega)).trans HR2.out
 have hsz:=hB.size
 have a0:w2.cell? ⟨w.heap.size,0,none⟩=some (.bool b):=cell_of e1 rfl
 have a1:w2.cell? ⟨w.heap.size,1,none⟩=some (.int .i64 p):=cell_of e1 rfl
 have a2:w2.cell? ⟨w.heap.size,2,none⟩=some (.int .i64 c):=cell_of e1 rfl
 have a3:w2.cell? ⟨w.heap.size,3,none⟩=some v:=cell_of e1 rfl
 have fr1:∀ i,w2.frozen? ⟨w.heap.size,i,none⟩=false:=fun i=>free_of e1
 have b0:w2.cell? ⟨w.heap.size+1,0,none⟩=some (.bool false):=cell_of e2 rfl
 have b1:w2.cell? ⟨w.heap.size+1,1,none⟩=some (.int .i64 0):=cell_of e2 rfl
 have b2:w2.cell? ⟨w.heap.size+1,2,none⟩=some (.int .i64 0):=cell_of e2 rfl
 have b3:w2.cell? ⟨w.heap.size+1,3,none⟩=some (.slice none 0 0):=cell_of e2 rfl
 have fr2:∀ i,w2.frozen? ⟨w.heap.size+1,i,none⟩=false:=fun i=>free_of e2
 have HROW:=Lib.hid hrow
 have HB:=Lib.hid hB
 have H1:=Lib.hid e1
 have H2:=Lib.hid e2
 clear hrow hB e1 e2
 go_wp2_with fail
 obtain⟨W5,hW5⟩:∃ W5,(((((w2.setCell ⟨w.heap.size,3,none⟩ (.slice va ns.length vc)).setCell ⟨w.heap.size+1,0,none⟩ (.bool b)).setCell ⟨w.heap.size+1,1,none⟩ (.int .i64 p)).setCell ⟨w.heap.size+1,2,none⟩ (.int .i64 c)).setCell ⟨w.heap.size+1,3,none⟩ (.slice va ns.length vc))=W5:=⟨_,rfl⟩
 have hc5:Chg (fun k=>k=w.heap.size\/k=w.heap.size+1) w2 W5:=by
  rw[<-hW5]
  exact ((((((chg_set _).mono fun k _ hk=>.inl hk).then ((chg_set _).mono fun k _ hk=>.inr hk)).then ((chg_set _).mono fun k _ hk=>.inr hk)).then ((chg_set _).mono fun k _ hk=>.inr hk)).then ((chg_set _).mono fun k _ hk=>.inr hk))
 have e5:W5.heap[w.heap.size+1]?=some (.cells #[.bool b,.int .i64 p,.int .i64 c,.slice va ns.length vc] 48 (0,0)):=by
  rw[<-hW5]
  exact heap_setCell (i:=3) _ (heap_setCell (i:=2) _ (heap_setCell (i:=1) _ (heap_setCell (i:=0) _ ((heap_setCell_ne _ (by show w.heap.size+1≠w.heap.size;omega)).trans H2.out))))
 rw[hW5]
 have z0:W5.cell? ⟨w.heap.size+1,0,none⟩=some (.bool b):=cell_of e5 rfl
 have z1:W5.cell? ⟨w.heap.size+1,1,none⟩=some (.int .i64 p):=cell_of e5 rfl
 have z2:W5.cell? ⟨w.heap.size+1,2,none⟩=some (.int .i64 c):=cell_of e5 rfl
 have z3:W5.cell? ⟨w.heap.size+1,3,none⟩=some (.slice va ns.length vc):=cell_of e5 rfl
 refine bodyPost_ret (v:=.agg #[.bool b,.int .i64 p,.int .i64 c,.slice va ns.length vc]) (by simp[results,Tryz.results39,go_sem,z0,z1,z2,z3]) rfl ⟨_,rfl,?_,?_⟩
 ·exact ownsRow_chg (ownsRow_low HROW.out hb1.size) hc5 fun k hk hh=>by
   have:=(HROW.out.lt k hk).1
   omega
 ·refine ((hb1.trans (HB.out.mono hb1.size)).trans ⟨hc5.os,hc5.tape,hc5.output,hc5.size,fun k hk=>hc5.block k ?_ (by omega)⟩)
  have:=hb1.size
  omega
end
end Go.Proofs.YticobikhndlejaaGreatDoor
