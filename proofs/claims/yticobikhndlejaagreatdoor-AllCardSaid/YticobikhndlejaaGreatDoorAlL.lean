/- Part 12 of the proof (see the last part). -/
import Derived.Test.YticobikhndlejaaGreatDoorAlK
import Derived.StillTailTactics
namespace Go.Proofs.YticobikhndlejaaGreatDoor
section
open Go.RowKit Go.Shelf Go.Lib
def Sta.er(s:Sta):St:=⟨s.depth,s.es.map (·.r),s.last,s.held,s.cs.map (·.1),s.now,s.head,s.disk⟩
def QT(w:World)(q:Nat)(t:St)(F:Nat->Prop):Prop:=∃ s,QAt w q s F/\s.er=t
structure St.Small(t:St):Prop where
 last:t.last<900000
 now:t.now<2 ^ 59
theorem QT.kept{w W:World}{q:Nat}{t:St}{F:Nat->Prop}(h:QT w q t F){S:Nat->Prop}(hc:Chg S w W)(hn:∀ k,F k->¬S k):QT W q t F:=by
 obtain⟨s,h1,h2⟩:=h
 exact⟨s,h1.kept hc hn,h2⟩
theorem QT.below{w W:World}{q:Nat}{t:St}{F:Nat->Prop}(h:QT w q t F)(hb:Below w.heap.size w W):QT W q t F:=h.kept (chgB hb fun _=>False) fun _ _ x=>x
theorem QT.mono{w:World}{q:Nat}{t:St}{F G:Nat->Prop}(h:QT w q t F)(hFG:∀ k,F k->G k):QT w q t G:=by
 obtain⟨s,h1,h2⟩:=h
 exact⟨s,h1.mono hFG,h2⟩
theorem QT.lt{w:World}{q:Nat}{t:St}{F:Nat->Prop}(h:QT w q t F):QT w q t fun k=>F k/\k<w.heap.size:=by
 obtain⟨s,⟨tb,mb,clock,fv,h1,h2⟩,h3⟩:=h
 exact⟨s,⟨tb,mb,clock,fv,h1,fun k hk=>⟨h2 k hk,h1.foot_lt hk⟩⟩,h3⟩
theorem QT.qlt{w:World}{q:Nat}{t:St}{F:Nat->Prop}(h:QT w q t F):q<w.heap.size/\F q:=by
 obtain⟨s,⟨tb,mb,clock,fv,h1,h2⟩,h3⟩:=h
 exact⟨h1.foot_lt (.inl rfl),h2 q (.inl rfl)⟩
theorem nums_len{last:Int}:∀ {rs:List Req} (lo:Int),rs.Pairwise (·.num < ·.num)->(∀ r∈rs,lo<r.num/\r.num<=last)->lo<=last->(rs.length:Int)<=last - lo
 | [],_,_,_,h=>by simp;omega
 | r :: rs,lo,hp,hr,h=>by
   rw[List.pairwise_cons]at hp
   have h1:=hr r (by simp)
   have:=nums_len (last:=last) r.num hp.2 (fun x hx=>⟨hp.1 x hx,(hr x (by simp[hx])).2⟩) h1.2
   simp;omega
theorem ok_len{t:St}(h:t.Ok):(t.rs.length:Int)<=t.last:=by
 have:=nums_len (last:=t.last) 0 h.a.rs.nums (fun r hr=>by have:=h.a.rs.num r hr;omega) h.a.last
 omega
theorem er_find{s:Sta}{n:Int}:s.er.find n=(findE s.es n).map (·.r):=by
 unfold St.find findE Sta.er
 simp only[List.find?_map]
 rfl
theorem er_find_none{s:Sta}{n:Int}(h:s.er.find n=none):findE s.es n=none:=by
 rw[er_find]at h
 simpa using h
theorem er_find_some{s:Sta}{n:Int}{r:Req}(h:s.er.find n=some r):∃ e,findE s.es n=some e/\e.r=r:=by
 rw[er_find]at h
 simpa[Option.map_eq_some_iff]using h
theorem land_er{es:List Ent}(hok:EntsOk es){e:Ent}(he:e∈es)(f:Req->Req)(hf:(f e.r).num=e.r.num):
  (landE (updE es e.r.num f) ⟨f e.r,e.p,e.born⟩).map (·.r)=((es.map (·.r)).map fun r=>if r.num=e.r.num then f r else r).filter fun r=>!(r.num == e.r.num && (r.told && !r.inAir)):=by
 obtain⟨l1,l2,rfl,h1,h2⟩:=hok.split he
 have g1:∀ x∈l1.map (·.r),x.num≠e.r.num:=fun x hx=>by obtain⟨y,hy,rfl⟩:=List.mem_map.1 hx;exact h1 y hy
 have g2:∀ x∈l2.map (·.r),x.num≠e.r.num:=fun x hx=>by obtain⟨y,hy,rfl⟩:=List.mem_map.1 hx;exact h2 y hy
 rw[List.map_append,List.map_cons,map_split f g1 g2,drop_split g1 g2 (f e.r) hf,updE_split f rfl h1 h2]
 unfold landE
 simp only
 split
 ·have hd:dropE (l1 ++⟨f e.r,e.p,e.born⟩ :: l2) (f e.r).num=l1 ++ l2:=dropE_split (e:=⟨f e.r,e.p,e.born⟩) (fun x hx=>by show x.r.num≠(f e.r).num;rw[hf];exact h1 x hx) (fun x hx=>by show x.r.num≠(f e.r).num;rw[hf];exact h2 x hx)
  rw[hd,List.map_append]
 ·rw[List.map_append,List.map_cons]
theorem er_tell{s:Sta}(hok:EntsOk s.es){e:Ent}{n:Int}(he:e∈s.es)(hn:e.r.num=n):({s with es:=tellE s.es e,held:=s.held - 1}:Sta).er=s.er.tell n:=by
 subst hn
 unfold Sta.er St.tell St.tellRs tellE
 simp only
 rw[land_er hok he tellR rfl]
theorem er_give{s:Sta}{n:Int}(f:Req->Req):({s with es:=updE s.es n f}:Sta).er={s.er with rs:=s.er.rs.map fun r=>if r.num=n then f r else r}:=by
 unfold Sta.er updE
 simp only[List.map_map]
 congr 1
 refine List.map_congr_left fun x _=>?_
 simp only[Function.comp]
 split <;> rfl
theorem er_land{s:Sta}(hok:EntsOk s.es)(fault:Bool)(n:Int):(landS fault s n).er=s.er.land fault n:=by
 cases hf:s.es.find? fun e=>e.r.num == n with
 | none=>
   have hf2:(s.er.rs.find? fun r=>r.num == n)=none:=by
    unfold Sta.er
    simp only[List.find?_map]
    rw[show ((fun r:Req=>r.num == n) ∘ fun e:Ent=>e.r)=fun e:Ent=>e.r.num == n from rfl,hf];rfl
   unfold landS St.land
   rw[hf,hf2]
 | some e=>
   have he:=List.mem_of_find?_eq_some hf
   have hn:=List.find?_some hf
   simp at hn
   subst hn
   have hf2:(s.er.rs.find? fun r=>r.num == e.r.num)=some e.r:=by
    unfold Sta.er
    simp only[List.find?_map]
    rw[show ((fun r:Req=>r.num == e.r.num) ∘ fun x:Ent=>x.r)=fun x:Ent=>x.r.num == e.r.num from rfl,hf];rfl
   unfold landS St.land
   rw[hf,hf2]
   have h1:=landR_num s.now s.disk fault e.r
   have h2:updE s.es e.r.num (fun _=>St.landR s.now s.disk fault e.r)=updE s.es e.r.num (St.landR s.now s.disk fault):=by
    refine List.map_congr_left fun x hx=>?_
    split
    ·rename_i hh
     obtain⟨l1,l2,e1,g1,g2⟩:=hok.split he
     have hxe:x=e:=by
      rw[e1]at hx
      rcases List.mem_append.1 hx with hx | hx
      ·exact absurd hh (g1 x hx)
      ·rcases List.mem_cons.1 hx with hx | hx
       ·exact hx
       ·exact absurd hh (g2 x hx)
     rw[hxe]
    ·rfl
   unfold Sta.er
   simp only
   rw[h2,land_er hok he (St.landR s.now s.disk fault) h1.1]
theorem er_ok{s:Sta}(h:s.er.Ok)(hl:s.er.Small):EntsOk s.es:=by
 refine⟨fun e he=>?_,fun e he=>?_,?_⟩
 ·exact (h.a.rs.ok e.r (List.mem_map_of_mem he)).page
 ·have:=h.a.rs.num e.r (List.mem_map_of_mem he)
  have h2:=hl.last
  have:s.er.last=s.last:=rfl
  omega
 ·have:=h.a.rs.nums
  exact (List.pairwise_map (f:=fun e:Ent=>e.r) (R:=fun x y:Req=>x.num<y.num)).1 this
theorem len_sub:∀ (l:List Int),l.Nodup->∀ (m:List Int),(∀ a∈l,a∈m)->l.length<=m.length
 | [],_,_,_=>Nat.zero_le _
 | a :: l,hn,m,h=>by
   rw[List.nodup_cons]at hn
   have ha:=h a (by simp)
   have:=len_sub l hn.2 (m.erase a) fun b hb=>(List.mem_erase_of_ne (fun e=>hn.1 (by rw[<-e];exact hb))).2 (h b (by simp[hb]))
   rw[List.length_erase_of_mem ha]at this
   have hp:=List.length_pos_of_mem ha
   simp;omega
theorem map_erase{α β:Type}(f:α->β)(l:List α)(k:Nat):(l.eraseIdx k).map f=(l.map f).eraseIdx k:=by
 simp[List.eraseIdx_eq_take_drop_succ,List.map_take,List.map_drop]
section
variable {q:Nat} {t:St} {F:Nat->Prop} {w:World}
theorem new_c(d:Nat)(w:World)(hd:1<=d/\d<=4):Calls Tryx.prog 59 #[.int .i64 d] w fun e w'=>∃ q,e=.returned (.tuple #[ptr q,.nilIface])/\QT w' q (St.new d) (fun k=>w.heap.size<=k)/\w.heap.size<=q/\Below w.heap.size w w':=
 (new_any d w hd).mono fun _ _ ⟨q,h1,h2,h3,h4⟩=>⟨q,h1,⟨sta0 d,h2,rfl⟩,h3,h4⟩
theorem tick_c(h:QT w q t F)(hk:t.Ok)(hs:t.Small):Calls Tryx.prog 42 #[ptr q] w fun e w'=>e=.returned (.tuple #[])/\QT w' q t.tick F/\Chg F w w':=by
 obtain⟨s,h1,rfl⟩:=h
 have hq:=(QT.qlt ⟨s,h1,rfl⟩).2
 refine (tick_any q s F w h1 ⟨hk.a.now,Int.lt_trans hs.now (by decide)⟩).mono fun e w' ⟨e1,e2,e3⟩=>⟨e1,⟨_,e2,rfl⟩,e3.mono fun k _ hk=>by rw[hk];exact hq⟩
theorem er_num{s:Sta}(h:s.er.Ok):∀ e∈s.es,e.r.num<=s.last:=fun e he=>(h.a.rs.num e.r (List.mem_map_of_mem he)).2
theorem er_len{s:Sta}(h:s.er.Ok)(hs:s.er.Small):s.es.length<1000000:=by
 have h1:=ok_len h
 have h2:=hs.last
 have h3:s.er.rs.length=s.es.length:=by simp[Sta.er]
 omega
theorem read_c(h:QT w q t F)(hk:t.Ok)(hs:t.Small)(hh:t.held<40)(page:Int)(hp:0<=page/\page<16):
  Calls Tryx.prog 46 #[ptr q,.int .i64 page] w fun x w'=>x=.returned (.tuple #[.int .i64 (t.last+1),.nilIface])/\QT w' q (t.add false page ⟨0,0,0,0⟩) (fun k=>F k\/w.heap.size<=k)/\Chg F w w':=by
 obtain⟨s,h1,rfl⟩:=h
 have hl:s.last<900000:=hs.last
 refine (read_any q s F w page h1 hp ⟨by rw[show s.held=s.er.held from rfl,hk.a.held];omega,hh⟩ ⟨hk.a.last,by omega⟩ (er_num hk) (er_len hk hs)).mono fun e w' ⟨b,clock,e1,e2,e3⟩=>⟨e1,⟨_,e2,?_⟩,e3⟩
 simp[Sta.er,addS,St.add]
theorem read_full_c(h:QT w q t F)(hh:40<=t.held)(page:Int)(hp:0<=page/\page<16):
  Calls Tryx.prog 46 #[ptr q,.int .i64 page] w fun x w'=>x=.returned (.tuple #[.int .i64 0,errK 4])/\w'=w:=by
 obtain⟨s,h1,rfl⟩:=h
 exact read_full q s F w page h1 hp hh
theorem write_c(h:QT w q t F)(hk:t.Ok)(hs:t.Small)(hh:t.held<40)(page:Int)(hp:0<=page/\page<16)(v:Value)(d:B4)(cap:Nat)(a:Option Addr)(hv:v=.slice a 4 cap)(hd:DatV w v d):
  Calls Tryx.prog 60 #[ptr q,.int .i64 page,v] w fun x w'=>x=.returned (.tuple #[.int .i64 (t.last+1),.nilIface])/\QT w' q (t.add true page d) (fun k=>F k\/w.heap.size<=k)/\Chg F w w':=by
 obtain⟨s,h1,rfl⟩:=h
 have hl:s.last<900000:=hs.last
 refine (write_any q s F w page v d cap a hv hd h1 hp ⟨by rw[show s.held=s.er.held from rfl,hk.a.held];omega,hh⟩ ⟨hk.a.last,by omega⟩ (er_num hk) (er_len hk hs)).mono fun e w' ⟨b,clock,e1,e2,e3⟩=>⟨e1,⟨_,e2,?_⟩,e3⟩
 simp[Sta.er,addS,St.add]
theorem write_full_c(h:QT w q t F)(hh:40<=t.held)(page:Int)(hp:0<=page/\page<16)(cap:Nat)(a:Option Addr):
  Calls Tryx.prog 60 #[ptr q,.int .i64 page,.slice a 4 cap] w fun x w'=>x=.returned (.tuple #[.int .i64 0,errK 4])/\w'=w:=by
 obtain⟨s,h1,rfl⟩:=h
 exact write_full q s F w page cap a h1 hp hh
theorem poll_none_c(h:QT w q t F)(n:Int)(hf:t.find n=none):
  Calls Tryx.prog 36 #[ptr q,.int .i64 n] w fun x w'=>x=.returned (.tuple #[noAns,errK 5])/\Below w.heap.size w w':=by
 obtain⟨s,h1,rfl⟩:=h
 exact poll_none q s F w n h1 (er_find_none hf)
theorem poll_pend_c(h:QT w q t F)(n:Int)(r:Req)(hf:t.find n=some r)(hs:r.state=0\/r.state=1):
  Calls Tryx.prog 36 #[ptr q,.int .i64 n] w fun x w'=>∃ b,x=.returned (.tuple #[noAns,errR b])/\ReqErr w' b n r.tries 6/\w.heap.size<=b/\Below w.heap.size w w':=by
 obtain⟨s,h1,rfl⟩:=h
 obtain⟨e,he,rfl⟩:=er_find_some hf
 exact poll_pend q s F w n e h1 he hs
theorem held_ok{s:Sta}(h:s.er.Ok):0<=s.held/\s.held<=2 ^ 60:=by
 have h1:=h.a.held
 have h2:=h.a.h40
 have h3:s.er.held=s.held:=rfl
 omega
theorem poll_bad_c(h:QT w q t F)(hk:t.Ok)(hsm:t.Small)(n:Int)(r:Req)(k:Int)(hf:t.find n=some r)(hs:(r.state=3/\k=7)\/(r.state=4/\k=8)):
  Calls Tryx.prog 36 #[ptr q,.int .i64 n] w fun x w'=>∃ b,x=.returned (.tuple #[noAns,errR b])/\ReqErr w' b n r.tries k/\w.heap.size<=b/\QT w' q (t.tell n) F/\Chg F w w':=by
 obtain⟨s,h1,rfl⟩:=h
 obtain⟨e,he,rfl⟩:=er_find_some hf
 obtain⟨hem,hen,_⟩:=findE_some he
 exact (poll_bad q s F w n e k h1 he hs (held_ok hk)).mono fun x w' ⟨b,e1,e2,e3,e4,e5⟩=>⟨b,e1,e2,e3,⟨_,e4,er_tell (er_ok hk hsm) hem hen⟩,e5⟩
theorem poll_write_c(h:QT w q t F)(hk:t.Ok)(hsm:t.Small)(n:Int)(r:Req)(hf:t.find n=some r)(hs:r.state=2)(hw:r.write=true):
  Calls Tryx.prog 36 #[ptr q,.int .i64 n] w fun x w'=>x=.returned (.tuple #[.agg #[.slice none 0 0,.int .i64 r.tries],.nilIface])/\QT w' q (t.tell n) F/\Chg F w w':=by
 obtain⟨s,h1,rfl⟩:=h
 obtain⟨e,he,rfl⟩:=er_find_some hf
 obtain⟨hem,hen,_⟩:=findE_some he
 exact (poll_write q s F w n e h1 he hs hw (held_ok hk)).mono fun x w' ⟨e1,e4,e5⟩=>⟨e1,⟨_,e4,er_tell (er_ok hk hsm) hem hen⟩,e5⟩
theorem poll_read_c(h:QT w q t F)(hk:t.Ok)(hsm:t.Small)(n:Int)(r:Req)(hf:t.find n=some r)(hs:r.state=2)(hw:r.write=false):
  Calls Tryx.prog 36 #[ptr q,.int .i64 n] w fun x w'=>∃ v F',x=.returned (.tuple #[.agg #[v,.int .i64 r.tries],.nilIface])/\QT w' q (t.tell n) F'/\(∀ k,F' k->F k\/w.heap.size<=k)/\(∀ k,v.ownBlock=some k->¬F' k)/\Chg F w w'/\w'.ownsRow w.heap.size 5 1 v 4 (b4Cells r.data):=by
 obtain⟨s,h1,rfl⟩:=h
 obtain⟨e,he,rfl⟩:=er_find_some hf
 obtain⟨hem,hen,_⟩:=findE_some he
 exact (poll_read q s F w n e h1 he hs hw (held_ok hk)).mono fun x w' ⟨v,F',e1,e4,e5,e6,e7,e8⟩=>⟨v,F',e1,⟨_,e4,er_tell (er_ok hk hsm) hem hen⟩,e5,e6,e7,e8⟩
theorem disk_c(h:QT w q t F):
  Calls Tryx.prog 23 #[ptr q] w fun x w'=>∃ v,x=.returned v/\w'.ownsRow w.heap.size 5 1 v 64 (t.disk.map fun b=>Value.int .u8 b)/\Below w.heap.size w w':=by
 obtain⟨s,h1,rfl⟩:=h
 exact disk_any q s F w h1
theorem step_none_c(h:QT w q t F)(hk:t.Ok)(hc:t.cmd=none):
  Calls Tryx.prog 18 #[ptr q] w fun x w'=>x=.returned (.tuple #[noCmd,.bool false])/\Below w.heap.size w w':=by
 obtain⟨s,h1,rfl⟩:=h
 by_cases hd:s.depth<=s.cs.length
 ·exact step_full q s F w h1 hd
 ·refine step_none q s F w h1 (by omega) hk.a.head ?_
  have hn:=nextE_map (readyE s.now s.es) s.head
  rw[readyE_map]at hn
  have hl:s.er.cs.length=s.cs.length:=by simp[Sta.er]
  unfold St.cmd at hc
  rw[if_neg (by rw[hl];exact hd)]at hc
  rcases nextE_spec (readyE s.now s.es) s.head hk.a.head with h2 |⟨p,n,f,l,h2,_⟩
  ·exact h2
  ·rw[h2]at hn
   have hn':nextR (readyR s.er.now s.er.rs) s.er.head=(p,n,(f :: l).map (·.r)):=hn.symm
   rw[hn']at hc
   simp at hc
theorem step_some_c(h:QT w q t F)(hk:t.Ok)(hsm:t.Small)(c:Cmd)(hc:t.cmd=some c):
  Calls Tryx.prog 18 #[ptr q] w fun x w'=>∃ v' F',x=.returned (.tuple #[.agg #[.bool c.write,.int .i64 c.page,.int .i64 c.count,v'],.bool true])/\QT w' q (t.sent c) F'/\(∀ k,F' k->F k\/w.heap.size<=k)/\(∀ k,v'.ownBlock=some k->¬F' k)/\Chg F w w'/\w'.ownsRow w.heap.size 3 1 v' c.nums.length (c.nums.map fun n=>Value.int .i64 n):=by
 obtain⟨s,h1,rfl⟩:=h
 have hl:s.er.cs.length=s.cs.length:=by simp[Sta.er]
 have hn:=nextE_map (readyE s.now s.es) s.head
 rw[readyE_map]at hn
 have hn0:nextR (readyR s.er.now s.er.rs) s.er.head=((nextE (readyE s.now s.es) s.head).1,(nextE (readyE s.now s.es) s.head).2.1,(nextE (readyE s.now s.es) s.head).2.2.map (·.r)):=hn.symm
 obtain⟨hd,_⟩:=cmd_some hk.a.head hc
 unfold St.cmd at hc
 rw[if_neg (by omega)]at hc
 have hok:=er_ok hk hsm
 rcases nextE_spec (readyE s.now s.es) s.head hk.a.head with h2 |⟨p,n,f,l,h2,a1,a2,a3,a4⟩
 ·rw[hn0,h2]at hc;simp at hc
 ·rw[hn0,h2]at hc
  simp only[List.map_cons,Option.some.injEq]at hc
  have hdep:=hk.a.depth
  have hin:∀ e∈f :: l,e∈s.es:=fun e he=>readyE_mem hok (a4 e he)
  have hlen:(f :: l).length<=1000000:=by
   have hS:=(cmd_some hk.a.head (c:=c) (by unfold St.cmd;rw[if_neg (by omega),hn0,h2];simpa using hc)).2
   obtain⟨g,m,hS,_,hnums⟩:=hS
   have hnd:=hS.nodup hk.a.rs.nums
   have hsub:∀ n∈(g :: m).map (·.num),n∈s.er.rs.map (·.num):=fun n hn=>by
    obtain⟨r,hr,rfl⟩:=List.mem_map.1 hn
    exact List.mem_map_of_mem (mem_readyR (hS.mem r hr).1).1
   have hle:=len_sub _ hnd _ hsub
   have e1:((g :: m).map (·.num)).length=(f :: l).length:=by
    rw[<-hnums,<-hc];simp
   have e2:=ok_len hk
   have e3:=hsm.last
   rw[e1,List.length_map]at hle
   omega
  obtain rfl:c=⟨f.r.write,p,n,(f :: l).map (·.r.num)⟩:=by rw[<-hc];simp
  have hdd:s.er.depth=s.depth:=rfl
  refine (step_some q s F w h1 (by omega) hk.a.head p n f l h2 a1 a2 hin hlen hdep.2).mono fun x w' ⟨v,v',F',e1,e2,e3,e4,e5,e6⟩=>⟨v',F',e1,⟨_,e2,?_⟩,e3,e4,e5,by simpa using e6⟩
  unfold stepS St.sent sendE Sta.er
  simp only
  rw[List.map_append]
  congr 1
  rw[List.map_map,List.map_map]
  refine List.map_congr_left fun x _=>?_
  simp only[Function.comp]
  split <;> rfl
theorem complete_no_c(h:QT w q t F)(k:Int)(fault:Bool)(hk:k<0\/(t.cs.length:Int)<=k):
  Calls Tryx.prog 40 #[ptr q,.int .i64 k,.bool fault] w fun x w'=>x=.returned (errK 10)/\Below w.heap.size w w':=by
 obtain⟨s,h1,rfl⟩:=h
 exact complete_no q s F w k fault h1 (by simpa[Sta.er]using hk)
theorem landsS_er(fault:Bool):∀ (ns:List Int) (s:Sta),(∀ j,j<=ns.length->EntsOk (landsS fault s (ns.take j)).es)->(landsS fault s ns).er=ns.foldl (St.land fault) s.er
 | [],_,_=>rfl
 | n :: ns,s,h=>by
   have h0:=h 0 (by simp)
   show (landsS fault (landS fault s n) ns).er=ns.foldl (St.land fault) (s.er.land fault n)
   rw[landsS_er fault ns (landS fault s n) fun j hj=>h (j+1) (by simp;omega),er_land (s:=s) h0]
theorem complete_c(h:QT w q t F)(hk:t.Ok)(hsm:t.Small)(k:Nat)(fault:Bool)(t':St)(hc:t.complete k fault=some t'):
  Calls Tryx.prog 40 #[ptr q,.int .i64 k,.bool fault] w fun x w'=>x=.returned .nilIface/\QT w' q t' F/\Chg F w w':=by
 obtain⟨s,h1,rfl⟩:=h
 unfold St.complete at hc
 cases hck:s.er.cs[k]? with
 | none=>rw [hck]at hc;cases hc
 | some c0=>
   rw[hck]at hc
   simp only[Option.some.injEq]at hc
   have hck2:(s.cs.map (·.1))[k]?=some c0:=hck
   rw[List.getElem?_map,Option.map_eq_some_iff]at hck2
   obtain⟨c,hcs,rfl⟩:=hck2
   have hlt:=(List.getElem?_eq_some_iff.1 hcs).1
   have hA:∀ j,j<=c.1.nums.length->∀ s1:Sta,s1=landsS fault {s with cs:=s.cs.eraseIdx k} (c.1.nums.take j)->(s1.er.OkA (c.1.nums.drop j ++ ((s.er.cs.eraseIdx k).flatMap (·.nums)))/\EntsOk s1.es/\s1.last=s.last):=by
    have hbase:({s with cs:=s.cs.eraseIdx k}:Sta).er.OkA (c.1.nums ++ ((s.er.cs.eraseIdx k).flatMap (·.nums))):=by
     obtain⟨hlt2,hck3⟩:=List.getElem?_eq_some_iff.1 hck
     have hperm:(s.er.cs.flatMap (·.nums)).Perm (c.1.nums ++ (s.er.cs.eraseIdx k).flatMap (·.nums)):=by
      have:=(perm_erase hlt2 hck3).flatMap_right (·.nums)
      simpa using this
     exact⟨hk.a.depth,hk.a.head,hk.a.dlen,hk.a.dbyte,hk.a.last,hk.a.now,⟨hk.a.rs.nums,hk.a.rs.num,hk.a.rs.ok,hperm.nodup_iff.1 hk.a.rs.nodup,fun n hn=>hk.a.rs.fly n (hperm.mem_iff.2 hn),fun r hr ha=>hperm.mem_iff.1 (hk.a.rs.airs r hr ha),hk.a.rs.free⟩,hk.a.held,hk.a.h40,hk.a.soon⟩
    have hents:∀ s1:Sta,s1.last=s.last->∀ air,s1.er.OkA air->EntsOk s1.es:=fun s1 hl air ho=>by
     refine⟨fun e he=>(ho.rs.ok e.r (List.mem_map_of_mem he)).page,fun e he=>?_,(List.pairwise_map (f:=fun e:Ent=>e.r) (R:=fun x y:Req=>x.num<y.num)).1 ho.rs.nums⟩
     have h1:=ho.rs.num e.r (List.mem_map_of_mem he)
     have h2:s1.er.last=s.last:=hl
     have h3:s.last<900000:=hsm.last
     omega
    intro j
    induction j with
    | zero=>
      rintro - s1 rfl
      exact⟨hbase,hents _ rfl _ hbase,rfl⟩
    | succ j ih=>
      rintro hj s1 rfl
      obtain⟨i1,i2,i3⟩:=ih (by omega) _ rfl
      have hjl:j<c.1.nums.length:=by omega
      have hst:landsS fault {s with cs:=s.cs.eraseIdx k} (c.1.nums.take (j+1))=landS fault (landsS fault {s with cs:=s.cs.eraseIdx k} (c.1.nums.take j)) (c.1.nums[j]'hjl):=by
       unfold landsS
       rw[List.take_succ_eq_append_getElem hjl,List.foldl_append];rfl
      rw[hst]
      rw[List.drop_eq_getElem_cons hjl]at i1
      have h1:=okA_land i1 fault
      rw[<-er_land i2]at h1
      have h2:=(landS_same fault (landsS fault {s with cs:=s.cs.eraseIdx k} (c.1.nums.take j)) (c.1.nums[j]'hjl)).2.2.2.1
      exact⟨h1,hents _ (h2.trans i3) _ h1,h2.trans i3⟩
   have hnow:=hsm.now
   have hnl:c.1.nums.length<=1000000:=by
    have hm:c.1∈s.er.cs:=List.mem_map_of_mem (List.mem_of_getElem? hcs)
    have hnd:c.1.nums.Nodup:=by
     have:=hk.a.rs.nodup
     exact (List.pairwise_flatMap.1 this).1 _ hm
    have hsub:∀ n∈c.1.nums,n∈s.er.rs.map (·.num):=fun n hn=>by
     obtain⟨r,hr,h1,_⟩:=CmdOk.air hk hm hn
     exact List.mem_map.2 ⟨r,hr,h1⟩
    have hle:=len_sub _ hnd _ hsub
    have e2:=ok_len hk
    have e3:=hsm.last
    rw[List.length_map]at hle
    omega
   have hl4:s.cs.length<=4:=by
    have h1:=hk.len
    have h2:=hk.a.depth
    have h3:s.er.cs.length=s.cs.length:=by simp[Sta.er]
    omega
   refine (complete_any q s F w k fault c h1 hcs ⟨hk.a.now,Int.lt_trans hnow (by decide)⟩ hl4 hnl fun j hj=>?_).mono fun x w' ⟨e1,e2,e3⟩=>⟨e1,⟨_,e2,?_⟩,e3⟩
   ·obtain⟨i1,i2,i3⟩:=hA j (by omega) _ rfl
    rw[List.drop_eq_getElem_cons hj]at i1
    obtain⟨r,hr,hrn,hra⟩:=i1.rs.fly (c.1.nums[j]'hj) (List.mem_append_left _ List.mem_cons_self)
    obtain⟨e,he,rfl⟩:=List.mem_map.1 hr
    have hro:=i1.rs.ok e.r hr
    exact⟨e,he,hrn,hro.tries.1,hro.try3 (by simp[Req.live,hra])⟩
   ·rw[landsS_er fault c.1.nums _ fun j hj=>(hA j hj _ rfl).2.1,<-hc]
    unfold Sta.er
    simp only[map_erase]
end
end
section
open Go.RowKit Go.Shelf Go.Lib
set_option maxRecDepth 100000
set_option maxHeartbeats 8000000
def b4at(d:B4)(i:Nat):Int:=[d.a,d.b,d.c,d.d].getD i 0
def dputN(disk:List Int)(p:Nat)(d:B4):Nat->List Int
 | 0=>disk
 | j+1=>(dputN disk p d j).set (4*p+j) (b4at d j)
theorem dputN_four(disk:List Int)(p:Nat)(d:B4):dputN disk p d 4=dput disk p d:=rfl
theorem dputN_len(disk:List Int)(p:Nat)(d:B4):∀ j,(dputN disk p d j).length=disk.length
 | 0=>rfl
 | j+1=>by unfold dputN;rw[List.length_set,dputN_len]
theorem str4_at{d:B4}(hd:BOk d){s:ByteArray}(hs:s=str4 d){i:Nat}(hi:i<s.size):(s[i].toNat:Int)=b4at d i:=by
 subst hs
 have h4:i<4:=by rw[str4_size]at hi;exact hi
 have e:∀ x:Int,0<=x/\x<=255->((UInt8.ofNat x.toNat).toNat:Int)=x:=fun x hx=>by
  rw[UInt8.toNat_ofNat']
  omega
 obtain⟨h1,h2,h3,h5⟩:=hd
 have hg:((str4 d)[i]'hi)=(([d.a,d.b,d.c,d.d].map fun n=>UInt8.ofNat n.toNat)[i]'(by simpa using h4)):=rfl
 rw[hg]
 rcases (show i=0\/i=1\/i=2\/i=3 by omega)with rfl | rfl | rfl | rfl
 ·exact e _ h1
 ·exact e _ h2
 ·exact e _ h3
 ·exact e _ h5
section
variable {w W:World} {q:Nat} {t:St} {l:List RR} {told:List Int} {fs:List (Cmd×Value)} {rv tv fv dv:Value}
theorem RB.dset(h:RB w q t l told fs rv tv fv dv)(hd:t.disk.length=64){g n:Nat}(hg:dv.ownBlock=some g)(hn:n<64)(v:Int):
  RB (w.setCell ⟨g,n,none⟩ (.int .u8 v)) q {t with disk:=t.disk.set n v} l told fs rv tv fv dv:=by
 obtain⟨n1,n2,n3,n4,n5⟩:=h.ne_dv hg
 have hc:Chg (fun k=>k=g) w (w.setCell ⟨g,n,none⟩ (.int .u8 v)):=Chg.setCell (S:=fun k=>k=g) (p:=⟨g,n,none⟩) (Chg.refl _ w) (.inl rfl) _
 refine⟨(hc.block _ (lt_of_heap h.que) (fun e=>n1 e.symm)).trans h.que,ownsRow_chg h.reqs hc fun k hk e=>n2 (e ▸ hk),ownsRow_chg h.tol hc fun k hk e=>n3 (e ▸ hk),h.fls.keptC hc (fun k hk e=>n4 (e ▸ hk)) fun c hcm k hk e=>n5 c hcm (e ▸ hk),h.fcs,?_,h.tf⟩
 rw[show (({t with disk:=t.disk.set n v}:St).disk.map fun b=>Value.int .u8 b)=(t.disk.map fun b=>Value.int .u8 b).set n (.int .u8 v)from by simp[List.map_set]]
 exact own_setCell h.dsk hg (by omega) _
end
theorem put_r(p:Nat)(d:B4)(s:ByteArray)(w:World){q:Nat}{t:St}{l:List RR}{told:List Int}{fs:List (Cmd×Value)}{rv tv fv dv:Value}(h:RB w q t l told fs rv tv fv dv)(hdl:t.disk.length=64)(hp:p<16)(hd:BOk d)(hs:s=str4 d):
  Calls Tryx.prog 111 #[ptr q,.int .i64 p,.string s] w fun e w'=>e=.returned (.tuple #[])/\RB w' q {t with disk:=dput t.disk p d} l told fs rv tv fv dv/\Chg (fun k=>dv.ownBlock=some k) w w':=by
 have hsz:s.size=4:=by rw[hs,str4_size]
 have hat:∀ i (hi:i<s.size),(s[i].toNat:Int)=b4at d i:=fun i hi=>str4_at hd hs hi
 obtain⟨ga,gc,hdv⟩:=own_slice h.dsk
 obtain⟨g,rfl⟩:∃ g,ga=some ⟨g,0,none⟩:=by
  rcases h.dsk.2 with ⟨_,h0⟩ |⟨g,cap,cur,e,_⟩
  ·omega
  ·rw[hdv]at e;simp at e;exact⟨g,e.1⟩
 have hgo:dv.ownBlock=some g:=by rw[hdv];rfl
 have HR:=Lib.hid h
 have HAT:=Lib.hid hat
 have HGO:=Lib.hid hgo
 have HDL:=Lib.hid hdl
 have HSZ:=Lib.hid hsz
 have HDV:=Lib.hid hdv
 clear h hat hd hs hgo hdl hdv
 go_enter Tryx.func111,Tryz.ntmps111
 go_wp2_with fail
 go_loopg [6] 4 (fun kk i wx=>∃ j,kk=4 - j/\j<=4/\i=.int .i64 j/\RB wx q {t with disk:=dputN t.disk p d j} l told fs rv tv fv dv/\Chg (fun k=>k=g) w wx)
 case atStart=>exact ⟨0,by simp,by omega,rfl,HR.out,Chg.refl _ _⟩
 case round=>
  obtain⟨j,rfl,hj,rfl,hR,hC⟩:=hrel
  have hsz4:=HSZ.out
  by_cases hlt:j<4
  ·have hltI:(j:Int)<4:=by omega
   have hj0:(0:Int)<=(j:Int):=by omega
   have hjs:(j:Int)<(s.size:Int):=by omega
   obtain⟨n,hn⟩:∃ n,4*p+j=n:=⟨_,rfl⟩
   have hn64:n<64:=by omega
   have hw1:IntKind.i64.wrap (4*(p:Int))=4*(p:Int):=by rw[IntKind.wrap_i64];omega
   have hw2:IntKind.i64.wrap (4*(p:Int)+(j:Int))=(n:Int):=by rw[IntKind.wrap_i64];omega
   have hnI:(n:Int)<64:=by omega
   have hn0:(0:Int)<=(n:Int):=by omega
   have hjs2:j<s.size:=by omega
   have c7:=hR.c7
   rw[HDV.out]at c7
   obtain⟨cur,hcur⟩:=own_heap hR.dsk HGO.out
   have hf:wr.frozen? ⟨g,n,none⟩=false:=free_of hcur
   have hcell:∃ v,wr.cell? ⟨g,n,none⟩=some v:=by
    rcases hR.dsk.2 with ⟨_,h0⟩ |⟨g2,cap,cur2,e,_,h3,h4,_,h6,_⟩
    ·omega
    ·rw[HDV.out]at e;simp at e;obtain⟨rfl,rfl⟩:=e
     exact⟨_,cell_of h3 (Array.getElem?_eq_getElem (show n<cur2.size by omega))⟩
   obtain⟨v0,hv0⟩:=hcell
   have hset:=hR.dset (by show (dputN t.disk p d j).length=64;rw[dputN_len,HDL.out]) HGO.out hn64 (b4at d j)
   have hatj:=HAT.out j hjs2
   have HSET:=Lib.hid hset
   have HATJ:=Lib.hid hatj
   have HN:=Lib.hid hn
   clear hR hcur hset hatj hn hsz4
   go_upto_region 3 with fail
   go_still_tail 12,(by kernel_rfl)
   change wpList _ _ _ _ _ wr.drew
   obtain⟨W2,hW2⟩:∃ W2,wr.drew=W2:=⟨_,rfl⟩
   have hv2:W2.cell? ⟨g,n,none⟩=some v0:=by rw[<-hW2];exact hv0
   have hf2:W2.frozen? ⟨g,n,none⟩=false:=by rw[<-hW2];exact hf
   have hset2:RB (W2.setCell ⟨g,n,none⟩ (.int .u8 (b4at d j))) q {t with disk:=dputN t.disk p d (j+1)} l told fs rv tv fv dv:=by
    rw[<-hW2]
    have:=HSET.out.kept (Chg.drew (Chg.refl (fun _=>False) _)) fun _ _ z=>z
    rw[HN.out.symm]at this ⊢
    exact this
   have hC2:Chg (fun k=>k=g) w (W2.setCell ⟨g,n,none⟩ (.int .u8 (b4at d j))):=by
    rw[<-hW2];exact Chg.setCell (p:=⟨g,n,none⟩) hC.drew (.inl rfl) _
   rw[hW2]
   have HS2:=Lib.hid hset2
   have HC2:=Lib.hid hC2
   clear hW2 hset2 hC2 hv0 hf c7 HSET
   go_wp2_with fail
   go_roundg (4 - (j+1))
   case measure=>omega
   case rel=>exact ⟨j+1,rfl,by omega,by go_num,by rw[HATJ.out];exact HS2.out,by rw[HATJ.out];exact HC2.out⟩
  ·obtain rfl:j=4:=by omega
   have HRR:=Lib.hid hR
   clear hR hsz4
   go_wp2_with fail
   go_end0
   exact⟨rfl,by rw[<-dputN_four];exact HRR.out,hC.mono fun k _ hk=>by rw[hk];exact HGO.out⟩
theorem RRel.found{l:List RR}{told:List Int}{t:St}(h:RRel l told t)(hs:t.rs.Pairwise (·.num < ·.num)){n:Int}{r:Req}(hf:t.find n=some r):∃ k x,l[k]?=some x/\x.r=r/\r.num=n/\r.told=false/\(∀ y∈l.take k,y.r.num≠n)/\n ∉ told:=by
 obtain⟨h1,h2,h3⟩:=find_some hf
 obtain⟨k,hk⟩:=List.mem_iff_getElem?.1 h1
 obtain⟨x,hx,hxr⟩:=h.back hk
 refine⟨k,x,hx,hxr,h2,h3,fun y hy=>?_,fun hm=>?_⟩
 ·have hy2:y.r∈t.rs.take k:=by
   rw[<-h.rs,<-List.map_take]
   exact List.mem_map_of_mem hy
  have:=(sorted_take hs hk).1 y.r hy2
  omega
 ·rw[<-h2,h.told.at hs h1,h3]at hm
  cases hm
theorem RRel.lost{l:List RR}{told:List Int}{t:St}(h:RRel l told t){n:Int}(hf:t.find n=none):n∈told\/∀ y∈l,y.r.num≠n:=by
 by_cases hex:∃ y∈l,y.r.num=n
 ·obtain⟨y,hy,hn⟩:=hex
  have hyr:y.r∈t.rs:=by rw[<-h.rs];exact List.mem_map_of_mem hy
  refine .inl ((h.told.mem n).2 ⟨y.r,hyr,hn,?_⟩)
  unfold St.find at hf
  have:=List.find?_eq_none.1 hf y.r hyr
  simpa[hn]using this
 ·exact .inr fun y hy hn=>hex ⟨y,hy,hn⟩
theorem RRel.tlen{l:List RR}{told:List Int}{t:St}(h:RRel l told t)(hk:t.Ok)(hsm:t.Small):l.length<1000000/\told.length<1000000:=by
 have h1:=ok_len hk
 have h2:=hsm.last
 have h3:=h.len
 have h4:=h.told.len hk.a.rs.nums
 have h5:=List.length_filter_le (fun r:Req=>r.told) t.rs
 omega
section
variable {w:World} {q:Nat} {t:St} {G:Nat->Prop}
theorem place_found(h:RT w q t G)(hk:t.Ok)(hsm:t.Small){n:Int}{r:Req}(hf:t.find n=some r):∃ (l:List RR) (told:List Int) (fs:List (Cmd×Value)) (rv tv fv dv:Value) (k:Nat) (x:RR),RB w q t l told fs rv tv fv dv/\RRel l told t/\(∀ k,RFoot q rv tv fv dv fs k->G k)/\l[k]?=some x/\x.r=r/\
  Calls Tryx.prog 108 #[ptr q,.int .i64 n] w fun y w'=>y=.returned (.int .i64 k)/\Below w.heap.size w w':=by
 obtain⟨l,told,fs,rv,tv,fv,dv,h1,h2,h3⟩:=h
 obtain⟨k,x,hx,hxr,hn,_,hno,hnt⟩:=h2.found hk.a.rs.nums hf
 have hl:=h2.tlen hk hsm
 exact⟨l,told,fs,rv,tv,fv,dv,k,x,h1,h2,h3,hx,hxr,place_yes n w h1 (by omega) (by omega) hx (by rw[hxr,hn]) hno hnt⟩
theorem place_lost(h:RT w q t G)(hk:t.Ok)(hsm:t.Small){n:Int}(hf:t.find n=none):Calls Tryx.prog 108 #[ptr q,.int .i64 n] w fun y w'=>y=.returned (.int .i64 (-1))/\Below w.heap.size w w':=by
 obtain⟨l,told,fs,rv,tv,fv,dv,h1,h2,h3⟩:=h
 have hl:=h2.tlen hk hsm
 exact place_no n w h1 (by omega) (by omega) (h2.lost hf)
theorem cancel_none_r(h:RT w q t G)(hk:t.Ok)(hsm:t.Small)(n:Int)(hf:t.find n=none):
  Calls Tryx.prog 83 #[ptr q,.int .i64 n] w fun y w'=>y=.returned (.tuple #[.int .i64 5,.int .i64 0])/\Below w.heap.size w w':=by
 have HP:=Lib.hid (place_lost h hk hsm hf)
 clear h hf hk hsm
 go_enter Tryx.func83,Tryz.ntmps83
 go_wp2_with fail
 refine HP.out.mono ?_
 rintro y w2 ⟨rfl,hB⟩
 go_wp2_with fail
 go_ret2
 exact⟨rfl,hB⟩
theorem cancel_some_r(h:RT w q t G)(hk:t.Ok)(hsm:t.Small)(n:Int)(r:Req)(hf:t.find n=some r)(hst:2<=r.state):
  Calls Tryx.prog 83 #[ptr q,.int .i64 n] w fun y w'=>y=.returned (.tuple #[.int .i64 9,.int .i64 r.tries])/\Below w.heap.size w w':=by
 obtain⟨l,told,fs,rv,tv,fv,dv,k,x,h1,h2,h3,hx,rfl,HPl⟩:=place_found h hk hsm hf
 have hl:=h2.tlen hk hsm
 have HP:=Lib.hid HPl
 have HR:=Lib.hid h1
 have HX:=Lib.hid hx
 obtain⟨ra,rc,rfl⟩:=own_slice h1.reqs
 obtain⟨m,hm⟩:∃ m,l.length=m:=⟨_,rfl⟩
 rw[hm]at HR
 have hkm:k<m:=by have:=(List.getElem?_eq_some_iff.1 hx).1;omega
 have hkI:(k:Int)<(m:Int):=by omega
 have hk0:(0:Int)<=(k:Int):=by omega
 have hkn:¬(k:Int)<0:=by omega
 have hst':x.r.state>=2:=hst
 clear h h1 h2 h3 hf hk hsm HPl hx
 go_enter Tryx.func83,Tryz.ntmps83
 go_wp2_with fail
 refine HP.out.mono ?_
 rintro y w2 ⟨rfl,hB⟩
 have hR:=HR.out.below hB
 have d1:=hR.c1
 obtain⟨g,cap,e,_,_,hcell⟩:=hR.req HX.out
 simp only[Value.slice.injEq]at e
 obtain⟨rfl,hdrop,rfl⟩:=e
 clear hdrop
 have r4:w2.cell? ⟨g,k*10+4,none⟩=some (.int .i64 x.r.state):=hcell 4 _ rfl
 have r5:w2.cell? ⟨g,k*10+5,none⟩=some (.int .i64 x.r.tries):=hcell 5 _ rfl
 clear hR hcell hm
 go_wp2_with fail
 go_quiet (fail)
 go_wp2_with fail
 go_ret2
 exact⟨rfl,below_drewN hB _⟩
theorem cancel_give_r(h:RT w q t G)(hk:t.Ok)(hsm:t.Small)(n:Int)(r:Req)(hf:t.find n=some r)(hst:r.state<2):
  Calls Tryx.prog 83 #[ptr q,.int .i64 n] w fun y w'=>y=.returned (.tuple #[.int .i64 0,.int .i64 0])/\RT w' q (t.give n) G/\Chg G w w':=by
 have hs:=hk.a.rs.nums
 obtain⟨_,hnum,htold⟩:=find_some hf
 obtain⟨l,told,fs,rv,tv,fv,dv,k,x,h1,h2,h3,hx,rfl,HPl⟩:=place_found h hk hsm hf
 have hl:=h2.tlen hk hsm
 have HG:RRel (l.set k (giveX x)) told (t.give n):=by rw[<-hnum];exact rrel_give h2 hs hx
 have HP:=Lib.hid HPl
 have HR:=Lib.hid h1
 have HX:=Lib.hid hx
 have H3:=Lib.hid h3
 have HGR:=Lib.hid HG
 obtain⟨ra,rc,rfl⟩:=own_slice h1.reqs
 obtain⟨m,hm⟩:∃ m,l.length=m:=⟨_,rfl⟩
 rw[hm]at HR H3
 have hkm:k<m:=by have:=(List.getElem?_eq_some_iff.1 hx).1;omega
 have hkI:(k:Int)<(m:Int):=by omega
 have hk0:(0:Int)<=(k:Int):=by omega
 have hkn:¬(k:Int)<0:=by omega
 have hst':¬x.r.state>=2:=by omega
 clear h h1 h2 h3 hf hk hsm HPl hx HG hs hnum htold
 go_enter Tryx.func83,Tryz.ntmps83
 go_wp2_with fail
 refine HP.out.mono ?_
 rintro y w2 ⟨rfl,hB⟩
 have hR:=HR.out.below hB
 have d1:=hR.c1
 obtain⟨g,cap,e,_,⟨cur,hcur,_⟩,hcell⟩:=hR.req HX.out
 simp only[Value.slice.injEq]at e
 obtain⟨rfl,hdrop,rfl⟩:=e
 clear hdrop
 have r4:w2.cell? ⟨g,k*10+4,none⟩=some (.int .i64 x.r.state):=hcell 4 _ rfl
 have rf:∀ i,w2.frozen? ⟨g,i,none⟩=false:=fun i=>free_of hcur
 obtain⟨hset,hchg⟩:=hR.set1 (g:=g) rfl HX.out (y:=giveX x) 4 (by omega) (.int .i64 4) rfl
 have HS:=Lib.hid (hset.st (t':=t.give n) rfl rfl rfl rfl rfl rfl)
 have HC:=Lib.hid ((chgB hB G).then (hchg.mono fun k _ hk=>H3.out k (.inr (.inl (by rw[hk];rfl)))))
 clear hR hcell hm hcur hset hchg
 go_wp2_with fail
 go_ret2
 exact⟨rfl,⟨l.set k (giveX x),told,fs,_,tv,fv,dv,HS.out,HGR.out,H3.out⟩,HC.out⟩
end
theorem Tryz.infoRR:(Tryx.prog.info? 191).map (fun i=>(i.zero,i.size,i.bytes))=some (some (.agg #[.int .i64 0,.bool false,.int .i64 0,.string ⟨#[]⟩,.int .i64 0,.int .i64 0,.int .i64 0,.bool false,.bool false,.string ⟨#[]⟩]),10,88):=by kernel_rfl
section
variable {w:World} {q:Nat} {t:St} {G:Nat->Prop}
theorem ask_page_r(wt:Bool)(p:Int)(s:ByteArray)(w:World)(v:Value)(hp:p<0\/16<=p):
  Calls Tryx.prog 79 #[v,.bool wt,.int .i64 p,.string s] w fun y w'=>y=.returned (.tuple #[.int .i64 0,.int .i64 2])/\w=w':=by
 by_cases h0:p<0
 ·go_enter Tryx.func79,Tryz.ntmps79
  go_wp2_with fail
  go_ret2
  exact⟨rfl,rfl⟩
 ·have h1:p>=16:=by omega
  go_enter Tryx.func79,Tryz.ntmps79
  go_wp2_with fail
  go_ret2
  exact⟨rfl,rfl⟩
theorem ask_data_r(p:Int)(s:ByteArray)(w:World)(v:Value)(hp:0<=p/\p<16)(hs:s.size≠4)(hsz:s.size<=maxLen):
  Calls Tryx.prog 79 #[v,.bool true,.int .i64 p,.string s] w fun y w'=>y=.returned (.tuple #[.int .i64 0,.int .i64 3])/\w=w':=by
 unfold maxLen at hsz
 have h0:¬p<0:=by omega
 have h1:¬p>=16:=by omega
 have h2:¬((s.size:Int)=4):=by omega
 go_enter Tryx.func79,Tryz.ntmps79
 go_wp2_with fail
 go_ret2
 exact⟨rfl,rfl⟩
theorem ask_full_r(h:RT w q t G)(hk:t.Ok)(hsm:t.Small)(wt:Bool)(p:Int)(s:ByteArray)(hp:0<=p/\p<16)(hs:wt=true->s.size=4)(hh:40<=t.held):
  Calls Tryx.prog 79 #[ptr q,.bool wt,.int .i64 p,.string s] w fun y w'=>y=.returned (.tuple #[.int .i64 0,.int .i64 4])/\Below w.heap.size w w':=by
 obtain⟨l,told,fs,rv,tv,fv,dv,h1,h2,h3⟩:=h
 have hl:=h2.tlen hk hsm
 have hhe:=h2.told.held hk.a.rs.nums
 have hhe2:=hk.a.held
 have hll:=h2.len
 obtain⟨ra,rc,rfl⟩:=own_slice h1.reqs
 obtain⟨ta,tc,rfl⟩:=own_slice h1.tol
 have c1:=h1.c1
 have c2:=h1.c2
 obtain⟨m,hm⟩:∃ m,l.length=m:=⟨_,rfl⟩
 obtain⟨m2,hm2⟩:∃ m2,told.length=m2:=⟨_,rfl⟩
 rw[hm]at c1 hl hll
 rw[hm2]at c2 hl hhe
 have hge:decide (IntKind.i64.wrap ((m:Int) - (m2:Int))>=40)=true:=decide_eq_true (by rw[IntKind.wrap_i64];omega)
 have hwr:IntKind.i64.wrap ((m:Int) - (m2:Int))=(m:Int) - (m2:Int):=by rw[IntKind.wrap_i64];omega
 have hge2:(m:Int) - (m2:Int)>=40:=by omega
 have h0:¬p<0:=by omega
 have h1':¬p>=16:=by omega
 clear h1 h2 h3 hk hsm hm hm2 hll hhe hhe2
 cases wt with
 | true=>
   have hsz:s.size=4:=hs rfl
   have hsz2:(s.size:Int)=4:=by omega
   go_enter Tryx.func79,Tryz.ntmps79
   go_wp2_with fail
   go_quiet (fail)
   go_wp2_with fail
   go_ret2
   exact⟨rfl,below_drewN (Below.refl _ _) _⟩
 | false=>
   go_enter Tryx.func79,Tryz.ntmps79
   go_wp2_with fail
   go_quiet (fail)
   go_wp2_with fail
   go_ret2
   exact⟨rfl,below_drewN (Below.refl _ _) _⟩
theorem ask_r_r(h:RT w q t G)(hk:t.Ok)(hsm:t.Small)(wt:Bool)(p:Int)(d:B4)(s:ByteArray)(hp:0<=p/\p<16)(hs:wt=true->s=str4 d)(hh:t.held<40):
  Calls Tryx.prog 79 #[ptr q,.bool wt,.int .i64 p,.string s] w fun y w'=>∃ G',y=.returned (.tuple #[.int .i64 (t.last+1),.int .i64 0])/\RT w' q (t.add wt p d) G'/\(∀ k,G' k->G k\/w.heap.size<=k)/\Chg G w w':=by
 obtain⟨l,told,fs,rv,tv,fv,dv,h1,h2,h3⟩:=h
 have hl:=h2.tlen hk hsm
 have hhe:=h2.told.held hk.a.rs.nums
 have hhe2:=hk.a.held
 have hla:=hk.a.last
 have hla2:=hsm.last
 have hll:=h2.len
 have HADD:=Lib.hid (rrel_add h2 wt p d s hs)
 obtain⟨ra,rc,rfl⟩:=own_slice h1.reqs
 obtain⟨ta,tc,rfl⟩:=own_slice h1.tol
 have c1:=h1.c1
 have c2:=h1.c2
 have c6:=h1.c6
 have cf:=h1.free
 have hql:=lt_of_heap h1.que
 obtain⟨m,hm⟩:∃ m,l.length=m:=⟨_,rfl⟩
 obtain⟨m2,hm2⟩:∃ m2,told.length=m2:=⟨_,rfl⟩
 rw[hm]at c1 hl hll
 rw[hm2]at c2 hl hhe
 have hge:decide (IntKind.i64.wrap ((m:Int) - (m2:Int))>=40)=false:=decide_eq_false (by rw[IntKind.wrap_i64];omega)
 have hwr:IntKind.i64.wrap ((m:Int) - (m2:Int))=(m:Int) - (m2:Int):=by rw[IntKind.wrap_i64];omega
 have hge2:¬(m:Int) - (m2:Int)>=40:=by omega
 have h0:¬p<0:=by omega
 have h1':¬p>=16:=by omega
 have hsz:wt=true->s.size=4:=fun hw=>by rw[hs hw,str4_size]
 have HR:=Lib.hid h1
 have H3:=Lib.hid h3
 have HM:=Lib.hid hm
 have hml:m<1000000:=hl.1
 clear h1 h2 h3 hk hsm hm hm2 hll hhe hhe2 hs hl
 obtain⟨i4,hi4,hz40,hz41,hz42⟩:=info_parts Tryz.infoRR
 cases wt
 all_goals
  try (have hsz2:(s.size:Int)=4:=?zval;case zval=>(have:=hsz rfl;omega))
  clear hsz
  go_enter Tryx.func79,Tryz.ntmps79
  go_wp2_with fail
  go_quiet (fail)
  go_wp2_with fail
  obtain⟨W4,hW4⟩:∃ W4,(w.drewN nq).setCell ⟨q,6,none⟩ (.int .i64 (t.last+1))=W4:=⟨_,rfl⟩
  have hc4:Chg (fun k=>k=q) w W4:=by rw[<-hW4];exact Chg.setCell (S:=fun k=>k=q) (p:=⟨q,6,none⟩) ((Chg.refl _ w).drewN nq) (.inl rfl) _
  have hq4:W4.heap[q]?=some (.cells #[.int .i64 t.depth,.slice ra l.length rc,.slice ta told.length tc,fv,.int .i64 t.now,.int .i64 t.head,.int .i64 (t.last+1),dv] 119 (0,0)):=by rw[<-hW4];exact heap_setCell (i:=6) _ HR.out.que
  have hR4:RB W4 q {t with last:=t.last+1} l told fs (.slice ra l.length rc) (.slice ta told.length tc) fv dv:=HR.out.que' hc4 hq4 rfl rfl
  have d1:=hR4.c1
  have d6:W4.cell? ⟨q,6,none⟩=some (.int .i64 (t.last+1)):=cell_of hq4 rfl
  have df:=hR4.free
  have hrow4:=hR4.reqs
  have hnq:∀ g,(Value.slice ra l.length rc).ownBlock=some g->g≠q:=fun g hg=>(hR4.ne_rv hg).1
  rw[HM.out]at d1 hrow4 hnq
  have ag:(Value.slice ra m rc).ownBlock≠some q:=fun e=>hnq q e rfl
  have hql4:=lt_of_heap hq4
  have HR4:=Lib.hid hR4
  have HC4:=Lib.hid hc4
  rw[hW4]
  clear hW4 hR4 hc4 hq4 hnq c1 c2 c6 cf
  have n1:=World.new_ne W4 _ d1
  have n2:=World.new_ne W4 _ d6
  go_region_law
   ((refine step_append_lies _ (by rfl) _ _ _ (by rfl) 0 191 i4 _ 10 88 Tryx.underlying117 hi4 hz40 hz41 hz42 rfl (by omega) (.slice ra m rc) m _ (by rfl) ((hrow4.alloc _).drew)
      ⟨W4.heap.size,0,none⟩ 1 1 [.int .i64 (t.last+1),.bool _,.int .i64 p,.string s,.int .i64 0,.int .i64 0,.int .i64 0,.bool false,.bool false,.string ⟨#[]⟩] (by rfl) (by rfl) (World.news_of_block (cs:=#[.int .i64 (t.last+1),.bool _,.int .i64 p,.string s,.int .i64 0,.int .i64 0,.int .i64 0,.bool false,.bool false,.string ⟨#[]⟩]) (t:=191) (fr:=(0,0)) (heap_alloc_new W4 _)) (by simp[Value.oneCell'])
      (by omega) (by unfold maxLen;omega) (by omega) (by omega) (W4.heap.size+1) (by simp) ?_;intro gg cap2 w5 hown5 hgrow hat hltg
     have z2:=hgrow.cell (a:=⟨q,1,none⟩) (v:=.slice ra m rc) (by go_keep) (fun h=>ag h.symm)
     have z3:=grown_free hgrow (a:=⟨q,1,none⟩) (v:=.slice ra m rc) (by go_keep) (by simp[*,frozen?_alloc_cells]) (fun h=>ag h.symm)
     have z6:=hgrow.cell (a:=⟨q,6,none⟩) (v:=.int .i64 (t.last+1)) (by go_keep) (fun h=>ag h.symm)))
  all_goals
   have hc5:Chg (fun k=>(Value.slice ra m rc).ownBlock=some k) W4 w5:=Chg.grown (a:=W4) (h:=chgB (by go_grown) _) (hg:=hgrow) (hr:=fun k hk=>.inl hk)
   obtain⟨f1,f2,f3⟩:=HR4.out.setR (W:=w5) (v':=.slice (some ⟨gg,0,none⟩) (m+1) cap2) (l':=l ++ [⟨newReq (t.last+1) _ p d,s,⟨#[]⟩⟩]) (by rw[HM.out];exact hc5) (by rw[List.length_append,List.flatMap_append,HM.out];exact hown5) (fun k hk=>by
    simp[Value.ownBlock]at hk
    subst hk
    rw[HM.out]
    exact hat.imp id fun e=>by omega)
   have HF1:=Lib.hid f1
   have HF2:=Lib.hid f2
   have HF3:=Lib.hid f3
   clear f1 f2 f3 hown5 hgrow hc5
   go_wp2_with fail
   go_ret2
   refine⟨rfl,fun k=>G k\/w.heap.size<=k,⟨_,told,fs,_,_,fv,dv,HF1.out.st rfl rfl rfl rfl rfl rfl,HADD.out,fun k hk=>?_⟩,fun k hk=>hk,?_⟩
   ·exact (HF3.out k hk).imp (H3.out k) fun e=>Nat.le_trans HC4.out.size e
   ·refine (HC4.out.mono fun k _ hk=>by rw[hk];exact H3.out q (.inl rfl)).then (HF2.out.mono fun k _ hk=>H3.out k (hk.elim (fun e=>.inl e) fun e=>.inr (.inl e)))
end
theorem drop_air(k:Nat)(x:RR)(w:World){q:Nat}{t:St}{l:List RR}{told:List Int}{fs:List (Cmd×Value)}{rv tv fv dv:Value}(h:RB w q t l told fs rv tv fv dv)(hl:l.length<=1000000)(htl:told.length<=1000000)(hk:l[k]?=some x)(ha:x.r.inAir=true):
  Calls Tryx.prog 109 #[ptr q,.int .i64 k] w fun y w'=>∃ tv',y=.returned (.tuple #[])/\RB w' q t l (told ++ [x.r.num]) fs rv tv' fv dv/\(∀ k,RFoot q rv tv' fv dv fs k->RFoot q rv tv fv dv fs k\/w.heap.size<=k)/\Chg (RFoot q rv tv fv dv fs) w w':=by
 obtain⟨ra,rc,rfl⟩:=own_slice h.reqs
 obtain⟨ta,tc,rfl⟩:=own_slice h.tol
 obtain⟨m,hm⟩:∃ m,l.length=m:=⟨_,rfl⟩
 obtain⟨m2,hm2⟩:∃ m2,told.length=m2:=⟨_,rfl⟩
 obtain⟨g,cap,e,hgl,_,hcell⟩:=h.req hk
 simp only[Value.slice.injEq]at e
 obtain⟨rfl,hdrop,rfl⟩:=e
 clear hdrop
 have hkm:k<m:=by have:=(List.getElem?_eq_some_iff.1 hk).1;omega
 have hkI:(k:Int)<(m:Int):=by omega
 have hk0:(0:Int)<=(k:Int):=by omega
 have r0:w.cell? ⟨g,k*10,none⟩=some (.int .i64 x.r.num):=hcell 0 _ rfl
 have r8:w.cell? ⟨g,k*10+8,none⟩=some (.bool x.r.inAir):=hcell 8 _ rfl
 rw[ha]at r8
 have c1:=h.c1
 have c2:=h.c2
 have cf:=h.free
 have hql:=lt_of_heap h.que
 have hrow:=h.tol
 have hntq:∀ g,(Value.slice ta told.length tc).ownBlock=some g->g≠q:=fun g hg=>(h.ne_tv hg).1
 rw[hm]at c1
 rw[hm2]at c2 hrow hntq htl
 have ag:(Value.slice ta m2 tc).ownBlock≠some q:=fun e=>hntq q e rfl
 have HR:=Lib.hid h
 have HM:=Lib.hid hm
 have HM2:=Lib.hid hm2
 obtain⟨i0,hi,hz0,hz1,hz2⟩:=info_parts Tryz.infoI2
 have n1:=World.new_ne w _ c1
 have n2:=World.new_ne w _ c2
 have n3:=World.new_ne w _ r0
 clear h hcell ha hk hm hm2 hntq
 go_enter Tryx.func109,Tryz.ntmps109
 go_wp2_with fail
 go_region_law
  ((refine step_append_lies _ (by rfl) _ _ _ (by rfl) 0 3 i0 _ 1 8 Tryx.underlying24 hi hz0 hz1 hz2 rfl (by omega) (.slice ta m2 tc) m2 _ (by rfl) ((hrow.alloc _).drew)
     ⟨w.heap.size,0,none⟩ 1 1 [.int .i64 x.r.num] (by rfl) (by rfl) (World.news_of_block (cs:=#[.int .i64 x.r.num]) (t:=3) (fr:=(0,0)) (heap_alloc_new w _)) (by simp[Value.oneCell'])
     (by omega) (by unfold maxLen;omega) (by omega) (by omega) (w.heap.size+1) (by simp) ?_;intro gg cap2 w1 hown1 hgrow hat hltg
    have z2:=hgrow.cell (a:=⟨q,2,none⟩) (v:=.slice ta m2 tc) (by go_keep) (fun h=>ag h.symm)
    have z3:=grown_free hgrow (a:=⟨q,2,none⟩) (v:=.slice ta m2 tc) (by go_keep) (by simp[*,frozen?_alloc_cells]) (fun h=>ag h.symm)))
 all_goals
  have hW:Below w.heap.size w ((w.alloc (.cells #[.int .i64 x.r.num] 3)).drew):=by go_grown
  obtain⟨f1,f2,f3⟩:=HR.out.setT (W:=w1) (v':=.slice (some ⟨gg,0,none⟩) (m2+1) cap2) (told':=told ++ [x.r.num]) ((chgB hW _).grown hgrow fun k hk=>.inl (by rw[HM2.out];exact hk)) (by rw[List.length_append,List.map_append,HM2.out];exact hown1) (fun k hk=>by
   simp[Value.ownBlock]at hk
   subst hk
   rw[HM2.out]
   exact hat.imp id fun e=>by omega)
  have HF1:=Lib.hid f1
  have HF2:=Lib.hid f2
  have HF3:=Lib.hid f3
  clear f1 f2 f3 hown1 hgrow hW z2 z3
  go_wp2_with fail
  refine bodyPost_ret (v:=.tuple #[]) (by simp[results,Tryz.results109,go_sem]) rfl ?_
  exact⟨.slice (some ⟨gg,0,none⟩) (m2+1) cap2,rfl,HF1.out,HF3.out,HF2.out.mono fun k _ hk=>hk.elim (fun e=>.inl e) fun e=>.inr (.inr (.inl e))⟩
theorem erase_take_ne{α:Type}{l:List α}{k j:Nat}{x:α}(hx:l[j]?=some x)(hne:j≠k):(l.take (j+1)).eraseIdx k=(l.take j).eraseIdx k ++ [x]:=by
 obtain⟨hl,e⟩:=List.getElem?_eq_some_iff.1 hx
 rw[List.take_succ_eq_append_getElem hl,e]
 by_cases hk:k<j
 ·rw[List.eraseIdx_append_of_lt_length (by rw[List.length_take];omega)]
 ·rw[List.eraseIdx_of_length_le (by simp;omega),List.eraseIdx_of_length_le (by simp;omega)]
theorem erase_take_eq{α:Type}{l:List α}{k:Nat}:(l.take (k+1)).eraseIdx k=(l.take k).eraseIdx k:=by
 rw[List.eraseIdx_of_length_le (l:=l.take k) (by simp;omega)]
 apply List.ext_getElem?
 intro i
 rw[List.getElem?_eraseIdx,List.getElem?_take,List.getElem?_take,List.getElem?_take]
 by_cases h:i<k
 ·simp[h];intro;omega
 ·simp[h]
theorem erase_take_len{α:Type}(l:List α)(k j:Nat):((l.take j).eraseIdx k).length<=j:=by
 have:=List.length_eraseIdx_le (l:=l.take j) k
 rw[List.length_take]at this
 omega
theorem drop_out(k:Nat)(x:RR)(w:World){q:Nat}{t:St}{l:List RR}{told:List Int}{fs:List (Cmd×Value)}{rv tv fv dv:Value}(h:RB w q t l told fs rv tv fv dv)(hl:l.length<=1000000)(hk:l[k]?=some x)(ha:x.r.inAir=false):
  Calls Tryx.prog 109 #[ptr q,.int .i64 k] w fun y w'=>∃ rv',y=.returned (.tuple #[])/\RB w' q t (l.eraseIdx k) told fs rv' tv fv dv/\(∀ k,RFoot q rv' tv fv dv fs k->RFoot q rv tv fv dv fs k\/w.heap.size<=k)/\Chg (RFoot q rv tv fv dv fs) w w':=by
 obtain⟨ra,rc,rfl⟩:=own_slice h.reqs
 obtain⟨m,hm⟩:∃ m,l.length=m:=⟨_,rfl⟩
 obtain⟨g,cap,e,hgl,_,hcell⟩:=h.req hk
 simp only[Value.slice.injEq]at e
 obtain⟨rfl,hdrop,rfl⟩:=e
 clear hdrop
 have hkm:k<m:=by have:=(List.getElem?_eq_some_iff.1 hk).1;omega
 have hkI:(k:Int)<(m:Int):=by omega
 have hk0:(0:Int)<=(k:Int):=by omega
 have r8:w.cell? ⟨g,k*10+8,none⟩=some (.bool x.r.inAir):=hcell 8 _ rfl
 rw[ha]at r8
 have c1:=h.c1
 rw[hm]at c1 hl
 have HR:=Lib.hid h
 have HM:=Lib.hid hm
 obtain⟨i0,hi,hz0,hz1,hz2⟩:=info_parts Tryz.infoRR
 clear h hcell ha hk hm
 go_enter Tryx.func109,Tryz.ntmps109
 go_wp2_with fail
 go_loopg [4,5] m (fun kk out i wx=>∃ j,kk=m - j/\j<=m/\i=.int .i64 j/\wx.ownsRow w.heap.size 191 10 out ((l.take j).eraseIdx k).length (((l.take j).eraseIdx k).flatMap rrCells)/\Below w.heap.size w wx)
 case atStart=>exact ⟨0,by simp,by omega,rfl,by simpa using World.ownsRow_nil _ _ _ _,Below.refl _ _⟩
 case round=>
  obtain⟨j,rfl,hj,rfl,hrow,hB⟩:=hrel
  have hR:=HR.out.below hB
  have d1:=hR.c1
  rw[HM.out]at d1
  by_cases hlt:j<m
  ·have hltI:(j:Int)<(m:Int):=by omega
   have hj0:(0:Int)<=(j:Int):=by omega
   by_cases hjk:j=k
   ·subst hjk
    have HRW:=Lib.hid hrow
    clear hR hrow
    go_wp2_with fail
    go_roundg (m - (j+1))
    case measure=>omega
    case rel=>exact ⟨j+1,rfl,by omega,by go_num,by rw[erase_take_eq];exact HRW.out,hB⟩
   ·have hjkI:¬(j:Int)=(k:Int):=by omega
    obtain⟨y,hy⟩:∃ y,l[j]?=some y:=⟨_,List.getElem?_eq_getElem (by have:=HM.out;omega)⟩
    obtain⟨g2,cap2,e2,_,_,hcell⟩:=hR.req hy
    simp only[Value.slice.injEq,Option.some.injEq,Addr.mk.injEq]at e2
    obtain⟨⟨rfl,_⟩,hdrop,rfl⟩:=e2
    clear hdrop
    have p0:wr.cell? ⟨g,j*10,none⟩=some (.int .i64 y.r.num):=hcell 0 _ rfl
    have p1:wr.cell? ⟨g,j*10+1,none⟩=some (.bool y.r.write):=hcell 1 _ rfl
    have p2:wr.cell? ⟨g,j*10+2,none⟩=some (.int .i64 y.r.page):=hcell 2 _ rfl
    have p3:wr.cell? ⟨g,j*10+3,none⟩=some (.string y.data):=hcell 3 _ rfl
    have p4:wr.cell? ⟨g,j*10+4,none⟩=some (.int .i64 y.r.state):=hcell 4 _ rfl
    have p5:wr.cell? ⟨g,j*10+5,none⟩=some (.int .i64 y.r.tries):=hcell 5 _ rfl
    have p6:wr.cell? ⟨g,j*10+6,none⟩=some (.int .i64 y.r.after):=hcell 6 _ rfl
    have p7:wr.cell? ⟨g,j*10+7,none⟩=some (.bool y.r.alone):=hcell 7 _ rfl
    have p8:wr.cell? ⟨g,j*10+8,none⟩=some (.bool y.r.inAir):=hcell 8 _ rfl
    have p9:wr.cell? ⟨g,j*10+9,none⟩=some (.string y.answer):=hcell 9 _ rfl
    have hel:=erase_take_len l k j
    obtain⟨mm,hmm⟩:∃ mm,((l.take j).eraseIdx k).length=mm:=⟨_,rfl⟩
    rw[hmm]at hrow hel
    have HMM:=Lib.hid hmm
    have HY:=Lib.hid hy
    have hsz:=hB.size
    clear hR hcell hmm hy
    go_wp2_with (at_builtin;refine wpList_append_own _ rfl _ _ 117 rfl w.heap.size 191 i0 _ 10 88 Tryx.underlying117 hi hz0 hz1 hz2 rfl (by decide) _ _ _ rfl (hrow.alloc _) ⟨wr.heap.size,0,none⟩ 1 1 [.int .i64 y.r.num,.bool y.r.write,.int .i64 y.r.page,.string y.data,.int .i64 y.r.state,.int .i64 y.r.tries,.int .i64 y.r.after,.bool y.r.alone,.bool y.r.inAir,.string y.answer] rfl rfl (World.news_of_block (World.alloc_heap_new wr _)) (by simp[Value.oneCell']) ?_ ?_ ?_ ?_)
    ·unfold maxLen;omega
    ·omega
    ·first | omega | (simp;omega)
    intro v' w3 hown' hgrow _
    have hB3:Below w.heap.size w w3:=(hB.alloc hB.size _).grown hgrow (by simp;omega) (fun k ek=>(hrow.lt k ek).1)
    have HO:=Lib.hid hown'
    clear hown' hgrow hrow
    go_wp2
    go_roundg (m - (j+1))
    case measure=>omega
    case rel=>exact ⟨j+1,rfl,by omega,by go_num,by rw[erase_take_ne HY.out hjk,List.length_append,List.flatMap_append,HMM.out];simpa[rrCells]using HO.out,hB3⟩
  ·obtain rfl:j=m:=by omega
   have hall:l.take j=l:=List.take_of_length_le (by have:=HM.out;omega)
   rw[hall]at hrow
   obtain⟨oa,oc,rfl⟩:=own_slice hrow
   obtain⟨W3,rfl⟩:∃ z,z=wr:=⟨_,rfl⟩
   have hf:=hR.free
   have hq1:=d1
   obtain⟨hset,hch,hft⟩:=HR.out.setR ((chgB hB _)) (ownsRow_lowS hrow (Nat.zero_le _)) fun k hk=>.inr (hrow.lt k hk).1
   have HS:=Lib.hid hset
   have HC:=Lib.hid hch
   have HF:=Lib.hid hft
   clear hR hrow hall hset hch hft
   go_wp2_with fail
   go_end0
   exact⟨_,rfl,HS.out,HF.out,HC.out.mono fun k _ hk=>hk.elim (fun e=>.inl e) fun e=>.inr (.inl e)⟩
theorem drop_r(k:Nat)(x:RR)(w:World){q:Nat}{t:St}{l:List RR}{told:List Int}{fs:List (Cmd×Value)}{rv tv fv dv:Value}(h:RB w q t l told fs rv tv fv dv)(h2:RRel l told t)(hk:t.Ok)(hsm:t.Small)(hx:l[k]?=some x)(ht:x.r.told=false):
  Calls Tryx.prog 109 #[ptr q,.int .i64 k] w fun y w'=>∃ l' told' rv' tv',y=.returned (.tuple #[])/\RB w' q (t.tell x.r.num) l' told' fs rv' tv' fv dv/\RRel l' told' (t.tell x.r.num)/\(∀ k,RFoot q rv' tv' fv dv fs k->RFoot q rv tv fv dv fs k\/w.heap.size<=k)/\Chg (RFoot q rv tv fv dv fs) w w':=by
 have hl:=h2.tlen hk hsm
 have hs:=hk.a.rs.nums
 cases ha:x.r.inAir with
 | true=>
   refine (drop_air k x w h (by omega) (by omega) hx ha).mono ?_
   rintro y w' ⟨tv',e,hR,hF,hC⟩
   exact⟨l.set k (tellX x),told ++ [x.r.num],rv,tv',e,⟨hR.que,by rw[List.length_set,rr_tell hx];exact hR.reqs,hR.tol,hR.fls,hR.fcs,hR.dsk,hR.tf⟩,rrel_tell_air h2 hs (fun y hy ht=>((hk.a.rs.ok y hy).told ht).2) hx ha ht,hF,hC⟩
 | false=>
   refine (drop_out k x w h (by omega) hx ha).mono ?_
   rintro y w' ⟨rv',e,hR,hF,hC⟩
   exact⟨l.eraseIdx k,told,rv',tv,e,hR.st rfl rfl rfl rfl rfl rfl,rrel_tell_drop h2 hs hx ha ht,hF,hC⟩
end
section
def bytesOf(d:B4):ByteArray:=strOfNums [d.a,d.b,d.c,d.d]
end
section
open Go.RowKit Go.Shelf Go.Lib
set_option maxRecDepth 100000
set_option maxHeartbeats 8000000
theorem run_clear_tab{P:Program}{w:World}{T K E mb clock:Nat}{es:List Ent}{ty:TypeId}(hT:P.underlying T=some (.map K E))(hm:w.heap[mb]?=some (mapObj es clock)):
  (Builtin.clear_ #[T] ty #[.map (some mb)]).run P w=.ok (.tuple #[]) (w.putObj mb (mapObj [] clock)):=by
 simp only[Builtin.clear_]
 simp[run_underlying hT,getMap_run hm,Result.andThen,setMap_run _ hm]
 simp[mapObj]
theorem clear_any(tb mb clock:Nat)(last held:Int)(es:List Ent)(w:World)(h:TabB w tb mb clock last held es):
  Calls Tryx.prog 45 #[ptr tb] w fun x w'=>x=.returned (.tuple #[])/\TabB w' tb mb clock last 0 []/\Chg (fun k=>k=tb\/k=mb) w w':=by
 have c0:=h.c0
 have hm:=h.map
 have hne:tb≠mb:=ne_of_heap h.tab hm (by simp[mapObj])
 have hr:=run_clear_tab (P:=Tryx.prog) (ty:=0) Tryx.underlying146 hm
 have htb:(w.putObj mb (mapObj [] clock)).heap[tb]?=some (.cells #[.map (some mb),.int .i64 last,.int .i64 held] 148 (0,0)):=by
  rw[World.putObj_heap_other hne];exact h.tab
 have k0:(w.putObj mb (mapObj [] clock)).cell? ⟨tb,2,none⟩=some (.int .i64 held):=cell_of htb rfl
 have kf:(w.putObj mb (mapObj [] clock)).frozen? ⟨tb,2,none⟩=false:=free_of htb
 have hmb:=lt_of_heap hm
 have HT:=Lib.hid h
 have HB:=Lib.hid htb
 clear h htb hm
 go_enter Tryx.func45,Tryz.ntmps45
 go_wp2_with fail
 go_end0
 have hc:Chg (fun k=>k=tb\/k=mb) w ((w.putObj mb (mapObj [] clock)).setCell ⟨tb,2,none⟩ (.int .i64 0)):=by
  have h0:Chg (fun k=>k=tb\/k=mb) w (w.putObj mb (mapObj [] clock)):=⟨rfl,rfl,rfl,by simp,fun k _ hk=>World.putObj_heap_other fun e=>hk (.inr e)⟩
  exact h0.setCell (p:=⟨tb,2,none⟩) (.inl (.inl rfl)) _
 refine⟨rfl,⟨heap_setCell (i:=2) _ HB.out,?_,(fun e he=>by cases he),(fun e he=>by cases he),List.nodup_nil,⟨(fun e he=>by cases he),(fun e he=>by cases he),List.Pairwise.nil⟩,by simp⟩,hc⟩
 rw[heap_setCell_ne _ (by simpa using hne.symm)]
 exact World.putObj_heap_same hmb
theorem kept_app(rs:List Req)(f:Nat->Bool):∀ (a b:List Int) (i:Nat) (d:List Int),St.kept rs (a ++ b) f i d=St.kept rs b f (i+a.length) (St.kept rs a f i d)
 | [],_,_,_=>rfl
 | n :: a,b,i,d=>by
   simp only[List.cons_append,St.kept]
   rw[kept_app rs f a b]
   simp only[List.length_cons]
   congr 1;omega
theorem kept_len(rs:List Req)(f:Nat->Bool):∀ (a:List Int) (i:Nat) (d:List Int),(St.kept rs a f i d).length=d.length
 | [],_,_=>rfl
 | n :: a,i,d=>by
   simp only[St.kept]
   rw[kept_len rs f a]
   split
   ·split
    ·rfl
    ·simp[dput]
   ·rfl
def wnums(cs:List (Cmd×Value))(j:Nat):List Int:=(((cs.take j).map (·.1)).filter (·.write)).flatMap (·.nums)
theorem wnums_succ{cs:List (Cmd×Value)}{j:Nat}{c:Cmd×Value}(h:cs[j]?=some c):wnums cs (j+1)=wnums cs j ++ (if c.1.write then c.1.nums else []):=by
 obtain⟨h1,h2⟩:=List.getElem?_eq_some_iff.1 h
 unfold wnums
 rw[List.take_succ_eq_append_getElem h1,h2,List.map_append,List.filter_append,List.flatMap_append]
 congr 1
 cases hw:c.1.write <;> simp[hw]
theorem chg_setCells(b:Nat):∀ (vs:List Value) (o:Nat) (w:World),Chg (fun k=>k=b) w (w.setCells b o vs)
 | [],_,w=>Chg.refl _ w
 | v :: vs,o,_=>((chg_set (i:=o) v)).then (chg_setCells b vs (o+1) _)
theorem heap_setCellsE(b:Nat){t:TypeId}:∀ (vs:List Value) (o:Nat) (w:World) (cur:Array Value),w.heap[b]?=some (.cells cur t (0,0))->∃ cur',(w.setCells b o vs).heap[b]?=some (.cells cur' t (0,0))/\cur'.size=cur.size
 | [],_,w,cur,h=>⟨cur,h,rfl⟩
 | v :: vs,o,w,cur,h=>by
   obtain⟨cur',h1,h2⟩:=heap_setCellsE b vs (o+1) _ _ (heap_setCell (i:=o) v h)
   exact⟨cur',h1,by rw[h2];simp⟩
theorem run_clear_cmds{P:Program}(w:World)(t e ty:TypeId)(zs:Array Value)(ht:P.underlying t=some (.slice e))(hv:∀ w,(zeroValue e).run P w=.ok (.agg zs) w)(hz:zs.size=4)(h1:∀ v∈zs,v.oneCell'=true)(b n c:Nat)(hn:0<n){cur:Array Value}{et:TypeId}
  (hc:w.heap[b]?=some (.cells cur et (0,0))) (hs:n*4<=cur.size):∃ L:List Value,
  (Builtin.clear_ #[t] ty #[.slice (some ⟨b,0,none⟩) n c]).run P w=.ok (.tuple #[]) (w.setCells b 0 L):=by
 refine⟨(Builtin.zeroCells zs n).toList,?_⟩
 have hlen:(Builtin.zeroCells zs n).toList.length=n*4:=by simp[Builtin.zeroCells,hz]
 have hst:=run_storeCells_cells (P:=P) b 0 (Builtin.zeroCells zs n).toList 0 w (fun j hj=>by
  rw[hlen]at hj
  rw[cell_of hc (i:=0+0+j) (v:=cur[0+0+j]'(by omega)) (Array.getElem?_eq_getElem _)];rfl) (fun j _=>free_of hc) (by
  intro v hv'
  simp only[Builtin.zeroCells,Array.toList_map,List.mem_map]at hv'
  obtain⟨i,_,rfl⟩:=hv'
  have hi:i % zs.size<zs.size:=Nat.mod_lt _ (by omega)
  rw[getElem!_pos zs (i % zs.size) hi]
  exact h1 _ (Array.getElem_mem hi))
 simp only[Nat.add_zero]at hst
 obtain⟨m,rfl⟩:∃ m,n=m+1:=⟨n - 1,by omega⟩
 simp[Builtin.clear_,run_underlying ht,hv,hst,Value.cells]
def BRow(w:World)(v:Value)(l:List Bool):Prop:=w.ownsRow 0 4 1 v l.length (l.map Value.bool)
theorem BRow.cell{w:World}{a:Option Addr}{n c:Nat}{l:List Bool}(h:BRow w (.slice a n c) l){i:Nat}(hi:i<l.length):∃ g,a=some ⟨g,0,none⟩/\n=l.length/\w.cell? ⟨g,i,none⟩=some (.bool (l.getD i false)):=by
 rcases h.2 with ⟨e,h0⟩ |⟨g,cap,cur,e,hb,h3,h4,h5,h6,h7⟩
 ·omega
 ·simp only[Value.slice.injEq]at e
  obtain⟨rfl,rfl,rfl⟩:=e
  refine⟨g,rfl,rfl,cell_of h3 ?_⟩
  have h1:(l.map Value.bool)[i]?=some (.bool (l.getD i false)):=by rw[List.getElem?_map,List.getD_eq_getElem?_getD,List.getElem?_eq_getElem hi];rfl
  rw[<-h7,List.getElem?_take_of_lt (by omega)]at h1
  rw[<-Array.getElem?_toList];exact h1
theorem find_numC{es:List Ent}(hok:EntsOk es){e:Ent}(he:e∈es):(es.map (·.r)).find? (fun r=>r.num == e.r.num)=some e.r:=by
 have hu:∀ x∈es,x.r.num=e.r.num->x=e:=fun x hx hn=>num_inj hok.nodup hx he hn
 cases hf:(es.map (·.r)).find? (fun r=>r.num == e.r.num)with
 | none=>
   have:=List.find?_eq_none.1 hf e.r (List.mem_map_of_mem he)
   simp at this
 | some r=>
   have h1:=List.mem_of_find?_eq_some hf
   have h2:=List.find?_some hf
   obtain⟨x,hx,rfl⟩:=List.mem_map.1 h1
   rw[hu x hx (by simpa using h2)]
theorem qCells_fl(tb:Nat)(fv fv':Value)(s:Sta):(qCells tb fv s).setIfInBounds 2 fv'=qCells tb fv' s:=by simp[qCells]
theorem qCells_hd(tb:Nat)(fv:Value)(s:Sta):(qCells tb fv s).setIfInBounds 4 (.int .i64 0)=qCells tb fv {s with head:=0}:=by simp[qCells]
theorem own_len(a:Option Addr)(n m c:Nat):(Value.slice a n c).ownBlock=(Value.slice a m c).ownBlock:=by cases a <;> rfl
def dSta(s:Sta)(D:List Int):Sta:={s with disk:=D}
theorem crash_any(q:Nat)(s:Sta)(F:Nat->Prop)(w:World)(v:Value)(l:List Bool)(h:QAt w q s F)(hB:BRow w v l)(hv:∀ k,v.ownBlock=some k->¬F k)
  (hfly:∀ c∈s.cs,c.1.write=true->∀ n∈c.1.nums,∃ e∈s.es,e.r.num=n) (hnl:∀ c∈s.cs,c.1.nums.length<=1000000) (hcl:s.cs.length<=1000):
  Calls Tryx.prog 24 #[ptr q,v] w fun x w'=>x=.returned (.tuple #[])/\
   QAt w' q {s with es:=[],held:=0,cs:=[],head:=0,disk:=St.kept (s.es.map (·.r)) (wnums s.cs s.cs.length) (fun i=>l.getD i false) 0 s.disk} F/\Chg F w w':=by
 obtain⟨tb,mb,clock,fv,hq,hF⟩:=h
 obtain⟨fa,fc,rfl⟩:=own_slice hq.fl
 obtain⟨va,vc,rfl⟩:=own_slice hB
 have c2:=hq.c2
 obtain⟨n,hn⟩:∃ n,s.cs.length=n:=⟨_,rfl⟩
 rw[hn]at c2
 have hqF:F q:=hF q (.inl rfl)
 have HQ:=Lib.hid hq
 have HF:=Lib.hid hF
 have HB:=Lib.hid hB
 have HV:=Lib.hid hv
 have HFL:=Lib.hid hfly
 have HNL:=Lib.hid hnl
 have hD0:Hid (dSta s s.disk=s):=Lib.hid rfl
 have hlen0:=hq.disk
 clear hq hF hB hv hfly hnl
 go_enter Tryx.func24,Tryz.ntmps24
 go_wp2_with fail
 go_loopg [4,15] n (fun k nv i wr=>∃ (j:Nat),k=n - j/\j<=n/\i=.int .i64 j/\nv=.int .i64 (wnums s.cs j).length/\Hid (QB wr q tb mb clock (.slice fa s.cs.length fc) (dSta s (St.kept (s.es.map (·.r)) (wnums s.cs j) (fun i=>l.getD i false) 0 s.disk))/\Chg (fun k=>k=q) w wr)/\(wnums s.cs j).length<=1000000*j)
 case atStart=>exact ⟨0,by simp,by omega,rfl,rfl,Lib.hid ⟨HQ.out,Chg.refl _ _⟩,by simp[wnums]⟩
 case round=>
  obtain⟨j,rfl,hj,rfl,rfl,hQ,hle⟩:=hrel
  by_cases hlt:j<n
  ·have hltI:(j:Int)<(n:Int):=by omega
   obtain⟨⟨c,cv⟩,hc⟩:∃ c,s.cs[j]?=some c:=⟨_,List.getElem?_eq_getElem (by omega)⟩
   have hcm:(c,cv)∈s.cs:=List.mem_of_getElem? hc
   have hrow:=hQ.out.1.rows _ hcm
   obtain⟨ra,rc,rfl⟩:∃ ra rc,cv=.slice ra c.nums.length rc:=own_slice hrow
   obtain⟨g,cap,e,_,hgl,hcell⟩:=cmd_cells hQ.out.1.fl hc
   simp only[Value.slice.injEq]at e
   obtain⟨rfl,_,rfl⟩:=e
   have p0:wr.cell? ⟨g,j*4,none⟩=some (.bool c.write):=hcell 0 _ rfl
   have p1:wr.cell? ⟨g,j*4+1,none⟩=some (.int .i64 c.page):=hcell 1 _ rfl
   have p2:wr.cell? ⟨g,j*4+2,none⟩=some (.int .i64 c.count):=hcell 2 _ rfl
   have p3:wr.cell? ⟨g,j*4+3,none⟩=some (.slice ra c.nums.length rc):=hcell 3 _ rfl
   have hsucc:=wnums_succ hc
   have HC:=Lib.hid (And.intro hcm hsucc)
   have HR:=Lib.hid hrow
   clear hcell hc hcm hsucc hrow
   cases hcw:c.write with
   | false=>
     rw[hcw]at p0
     go_wp2_with fail
     go_roundg (n - (j+1))
     case measure=>omega
     case rel=>
      have hw1:wnums s.cs (j+1)=wnums s.cs j:=by rw[HC.out.2,hcw];simp
      exact⟨j+1,rfl,by omega,by go_num,by rw[hw1],Lib.hid (by rw[hw1];exact⟨hQ.out.1.kept ((Chg.refl (fun _=>False) wr).alloc _) fun _ _ x=>x,hQ.out.2.alloc _⟩),by rw[hw1];omega⟩
   | true=>
     rw[hcw]at p0
     have hw1:wnums s.cs (j+1)=wnums s.cs j ++ c.nums:=by rw[HC.out.2,hcw];simp
     have HW1:=Lib.hid hw1
     have hnl:=HNL.out _ HC.out.1
     have hfly:=HFL.out _ HC.out.1 hcw
     have HFLY:=Lib.hid hfly
     obtain⟨m,hm⟩:∃ m,c.nums.length=m:=⟨_,rfl⟩
     obtain⟨b0,hb0⟩:∃ b0,(wnums s.cs j).length=b0:=⟨_,rfl⟩
     rw[hm]at p3
     simp only at hnl
     rw[hm]at hnl
     have HM:=Lib.hid hm
     have HB0:=Lib.hid hb0
     rw[hb0]
     rw[hb0]at hle
     clear hw1 hfly hm hb0
     go_wp2_with fail
     have hQ1:QB (wr.alloc (.cells #[.bool true,.int .i64 c.page,.int .i64 c.count,.slice ra m rc] 48)) q tb mb clock (.slice (some ⟨g,0,none⟩) s.cs.length fc) (dSta s (St.kept (s.es.map (·.r)) (wnums s.cs j) (fun i=>l.getD i false) 0 s.disk))/\Chg (fun k=>k=q) w (wr.alloc (.cells #[.bool true,.int .i64 c.page,.int .i64 c.count,.slice ra m rc] 48)):=⟨hQ.out.1.kept ((Chg.refl (fun _=>False) wr).alloc _) fun _ _ x=>x,hQ.out.2.alloc _⟩
     have HQ1:=Lib.hid hQ1
     clear hQ1
     obtain⟨W0,rfl⟩:∃ x,x=wr:=⟨_,rfl⟩
     go_loopg [4,25] m (fun kk nv iv wx=>∃ (i k:Nat),kk=m - i/\i<=m/\k=b0+i/\iv=.int .i64 i/\nv=.int .i64 k/\Hid (QB wx q tb mb clock (.slice (some ⟨g,0,none⟩) s.cs.length fc) (dSta s (St.kept (s.es.map (·.r)) (wnums s.cs j ++ c.nums.take i) (fun i=>l.getD i false) 0 s.disk))/\Chg (fun k=>k=q) w wx))
     case atStart=>exact ⟨0,b0,by simp,by omega,rfl,rfl,rfl,Lib.hid (by simpa using HQ1.out)⟩
     case round=>
      obtain⟨i,k,rfl,hi,hki,rfl,rfl,hQi⟩:=hrel
      have hk1:k<=1001000000:=by omega
      by_cases hilt:i<m
      ·have hiltI:(i:Int)<(m:Int):=by omega
       have hnum:i<c.nums.length:=by rw[HM.out];exact hilt
       obtain⟨num,hnumE⟩:∃ num,c.nums[i]?=some num:=⟨_,List.getElem?_eq_getElem hnum⟩
       have hrow:wr.ownsRow 0 3 1 (.slice ra c.nums.length rc) c.nums.length (c.nums.map fun n=>Value.int .i64 n):=hQi.out.1.rows _ HC.out.1
       rw[HM.out]at hrow
       rcases hrow.2 with ⟨e,h0⟩ |⟨rg,cap,cur,e,_,r3,r4,r5,r6,r7⟩
       ·omega
       simp only[Value.slice.injEq]at e
       obtain⟨rfl,_,rfl⟩:=e
       have hcell:wr.cell? ⟨rg,i,none⟩=some (.int .i64 num):=cell_of r3 (by
        have h1:(c.nums.map fun n=>Value.int .i64 n)[i]?=some (.int .i64 num):=by rw[List.getElem?_map,hnumE];rfl
        rw[<-r7,List.getElem?_take_of_lt (by omega)]at h1
        rw[<-Array.getElem?_toList];exact h1)
       have HN:=Lib.hid hnumE
       clear hrow r3 r4 r5 r6 r7 hnumE hnum
       have HKI:=Lib.hid hki
       have htake:c.nums.take (i+1)=c.nums.take i ++ [num]:=by
        obtain⟨h1,h2⟩:=List.getElem?_eq_some_iff.1 HN.out
        rw[List.take_succ_eq_append_getElem h1,h2]
       have HT:=Lib.hid htake
       have hkept:∀ D',St.kept (s.es.map (·.r)) (wnums s.cs j ++ c.nums.take (i+1)) (fun i=>l.getD i false) 0 s.disk=D'↔St.kept (s.es.map (·.r)) [num] (fun i=>l.getD i false) k (St.kept (s.es.map (·.r)) (wnums s.cs j ++ c.nums.take i) (fun i=>l.getD i false) 0 s.disk)=D':=fun D'=>by
        rw[HT.out,<-List.append_assoc,kept_app,Nat.zero_add,List.length_append,List.length_take,HB0.out,HM.out,Nat.min_eq_left hi,<-HKI.out]
       have HKP:=Lib.hid hkept
       clear hki htake hkept
       by_cases hbl:k<l.length
       ·have hblI:(k:Int)<(l.length:Int):=by omega
        have hk0I:(0:Int)<=(k:Int):=by omega
        have hBw:BRow wr (.slice va l.length vc) l:=ownsRow_chg HB.out hQi.out.2 fun b hb hh=>HV.out b hb (hh ▸ hqF)
        obtain⟨kg,rfl,_,hkc⟩:=hBw.cell hbl
        cases hf:l.getD k false with
        | false=>
          rw[hf]at hkc
          have HFv:=Lib.hid hf
          clear hf hBw
          go_wp2_with fail
          go_roundg (m - (i+1))
          case measure=>omega
          case rel=>exact ⟨i+1,k+1,rfl,by omega,by rw[HKI.out];omega,by go_num,by go_num,Lib.hid (by rw[(HKP.out _).2 (show St.kept _ [num] _ k _=_ from by simp only[St.kept];exact if_neg (by rw[HFv.out];decide))];exact hQi.out)⟩
        | true=>
          rw[hf]at hkc
          have HFv:=Lib.hid hf
          clear hf hBw
          obtain⟨e,hee,hen⟩:=HFLY.out num (List.mem_of_getElem? HN.out)
          have t1:=hQi.out.1.c1
          subst hen
          obtain⟨D,hD⟩:∃ D,St.kept (s.es.map (·.r)) (wnums s.cs j ++ c.nums.take i) (fun i=>l.getD i false) 0 s.disk=D:=⟨_,rfl⟩
          rw[hD]at hQi
          have HD:=Lib.hid hD
          have HEE:=Lib.hid hee
          clear hD
          go_wp2_with fail
          refine (get_yes tb mb clock s.last s.held s.es wr hQi.out.1.tab e HEE.out).mono ?_
          rintro x w2 ⟨rfl,rfl⟩
          have hQ2:=hQi.out.1
          have hR:ReqB w2 e.p e.r:=hQ2.tab.reqs e HEE.out
          have hpg:=hQ2.tab.ok.page e HEE.out
          obtain⟨pg,hpgE⟩:∃ pg:Nat,e.r.page=(pg:Int):=⟨e.r.page.toNat,by omega⟩
          have hL:LandB w2 q tb (.slice (some ⟨g,0,none⟩) s.cs.length fc) (dSta s D) e pg (dget D e.r.page).a (dget D e.r.page).b (dget D e.r.page).c (dget D e.r.page).d:=⟨hQ2.que,hR,hpgE,by omega,hQ2.disk,rfl⟩
          obtain⟨l0,l1,l2,l3⟩:=hL.disk
          have hp0:(0:Int)<=(pg:Int):=by omega
          have hp1:(pg:Int)<16:=by omega
          have hne:=hQ2.ne_qp HEE.out
          have hne2:=hne.symm
          have b2:w2.cell? ⟨e.p,2,none⟩=some (.int .i64 pg):=by have:=hR.at.c2;rw[<-hpgE];exact this
          have b3:w2.cell? ⟨e.p,3,none⟩=some (.int .u8 e.r.data.a):=hR.at.c3
          have b4:w2.cell? ⟨e.p,3+1,none⟩=some (.int .u8 e.r.data.b):=hR.at.c4
          have b5:w2.cell? ⟨e.p,3+2,none⟩=some (.int .u8 e.r.data.c):=hR.at.c5
          have b6:w2.cell? ⟨e.p,3+3,none⟩=some (.int .u8 e.r.data.d):=hR.at.c6
          have df:∀ i,w2.frozen? ⟨q,i,none⟩=false:=fun i=>free_of hQ2.que
          obtain⟨W2,hW2⟩:∃ W2,((((w2.setCell ⟨q,5+pg*4,none⟩ (.int .u8 e.r.data.a)).setCell ⟨q,5+pg*4+1,none⟩ (.int .u8 e.r.data.b)).setCell ⟨q,5+pg*4+2,none⟩ (.int .u8 e.r.data.c)).setCell ⟨q,5+pg*4+3,none⟩ (.int .u8 e.r.data.d)).drew=W2:=⟨_,rfl⟩
          have hc2:Chg (fun k=>k=q) w2 W2:=by rw[<-hW2];exact ((((chg_set _).then (chg_set _)).then (chg_set _)).then (chg_set _)).drew
          have hq2:W2.heap[q]?=some (.cells (qCells tb (.slice (some ⟨g,0,none⟩) s.cs.length fc) (dSta s (dput D pg e.r.data))) 89 (0,0)):=by
           rw[<-hW2,show dSta s (dput D pg e.r.data)={(dSta s D)with disk:=dput (dSta s D).disk pg e.r.data} from rfl,<-qCells_dput]
           exact heap_setCell (i:=5+pg*4+3) _ (heap_setCell (i:=5+pg*4+2) _ (heap_setCell (i:=5+pg*4+1) _ (heap_setCell (i:=5+pg*4) _ hQ2.que)))
          have hQ3:=hQ2.ques (dSta s (dput D pg e.r.data)) rfl rfl rfl rfl (by simp only[dSta,dput,List.length_set];exact hQ2.disk) hq2 hc2
          have hfn:(s.es.map (·.r)).find? (fun r=>r.num == e.r.num)=some e.r:=find_numC hQ2.tab.ok HEE.out
          have HQ3:=Lib.hid (And.intro hQ3 (hQi.out.2.then hc2))
          have HFN:=Lib.hid hfn
          have HPG:=Lib.hid hpgE
          have HW2:=Lib.hid hW2
          clear hW2 hQ2 hR hL hpg hc2 hq2 hQ3 hfn hpgE
          go_wp2_with fail
          go_region_held3 (fun w'=>w'.cell? ⟨e.p,2,none⟩=some (.int .i64 pg)/\w'.cell? ⟨e.p,3,none⟩=some (.int .u8 e.r.data.a)/\w'.cell? ⟨e.p,3+1,none⟩=some (.int .u8 e.r.data.b)/\w'.cell? ⟨e.p,3+2,none⟩=some (.int .u8 e.r.data.c)/\w'.cell? ⟨e.p,3+3,none⟩=some (.int .u8 e.r.data.d)) (go_keep) (fail)
          rw[HW2.out]
          go_wp2_with fail
          go_roundg (m - (i+1))
          case measure=>omega
          case rel=>exact ⟨i+1,k+1,rfl,by omega,by rw[HKI.out];omega,by go_num,by go_num,Lib.hid (by rw[(HKP.out _).2 (show St.kept _ [e.r.num] _ k _=dput D pg e.r.data from by simp only[St.kept,HD.out];rw[if_pos HFv.out,HFN.out];show dput D e.r.page e.r.data=_;rw[HPG.out])];exact HQ3.out)⟩
       ·have hblI:¬(k:Int)<(l.length:Int):=by omega
        go_wp2_with fail
        go_roundg (m - (i+1))
        case measure=>omega
        case rel=>exact ⟨i+1,k+1,rfl,by omega,by rw[HKI.out];omega,by go_num,by go_num,Lib.hid (by rw[(HKP.out _).2 (show St.kept _ [num] _ k _=_ from by simp only[St.kept];exact if_neg (by rw[List.getD_eq_getElem?_getD,List.getElem?_eq_none (by omega)];decide))];exact hQi.out)⟩
      ·obtain rfl:i=m:=by omega
       have hall:c.nums.take i=c.nums:=List.take_of_length_le (by rw[HM.out];exact Nat.le_refl _)
       rw[hall]at hQi
       clear hall
       go_wp2_with fail
       go_roundg (n - (j+1))
       case measure=>omega
       case rel=>exact ⟨j+1,rfl,by omega,by go_num,by rw[HW1.out,List.length_append,HB0.out,HM.out,hki],Lib.hid (by rw[HW1.out];exact hQi.out),by rw[HW1.out,List.length_append,HB0.out,HM.out];omega⟩
  ·obtain rfl:j=n:=by omega
   obtain⟨D,hD⟩:∃ D,St.kept (s.es.map (·.r)) (wnums s.cs j) (fun i=>l.getD i false) 0 s.disk=D:=⟨_,rfl⟩
   rw[hD]at hQ
   have HD:=Lib.hid hD
   clear hD
   have hfl:wr.ownsRow 0 48 4 (.slice fa j fc) j ((dSta s D).cs.flatMap cmdCells):=by
    have h9:=hQ.out.1.fl
    have hcs:(dSta s D).cs.length=s.cs.length:=rfl
    rw[hcs,hn]at h9
    exact h9
   have hclr:∃ W1,(Builtin.clear_ #[55] 0 #[.slice fa j fc]).run Tryx.prog wr=.ok (.tuple #[]) W1/\W1.ownsRow 0 48 4 (.slice fa 0 fc) 0 []/\Chg (fun k=>(Value.slice fa j fc).ownBlock=some k) wr W1:=by
    rcases hfl.2 with ⟨e,h0⟩ |⟨g,cap,cur,e,_,r3,r4,r5,r6,r7⟩
    ·simp only[Value.slice.injEq]at e
     obtain⟨rfl,_,rfl⟩:=e
     refine⟨wr,?_,World.ownsRow_nil _ _ _ _,Chg.refl _ _⟩
     rw[h0]
     simp[Builtin.clear_,run_underlying Tryx.underlying55]
    ·simp only[Value.slice.injEq]at e
     obtain⟨rfl,_,rfl⟩:=e
     by_cases h0:j=0
     ·subst h0
      refine⟨wr,by simp[Builtin.clear_,run_underlying Tryx.underlying55],⟨rfl,.inr ⟨g,fc,cur,rfl,Nat.zero_le _,r3,Nat.zero_le _,r5,r6,by simp⟩⟩,Chg.refl _ _⟩
     ·obtain⟨L,hL⟩:=run_clear_cmds (P:=Tryx.prog) wr 55 48 0 #[.bool false,.int .i64 0,.int .i64 0,.slice none 0 0] Tryx.underlying55 Tryx.zeroValue48 rfl (by simp[Value.oneCell']) g j fc (by omega) r3 (by omega)
      obtain⟨cur',h1,h2⟩:=heap_setCellsE g L 0 wr cur r3
      exact⟨_,hL,⟨rfl,.inr ⟨g,fc,cur',rfl,Nat.zero_le _,h1,Nat.zero_le _,r5,by rw[h2,r6],by simp⟩⟩,(chg_setCells g L 0 wr).mono fun k _ hk=>by rw[hk];rfl⟩
   obtain⟨W1,hr1,hw1,hc1⟩:=hclr
   have hne:∀ k,(Value.slice fa j fc).ownBlock=some k->q≠k/\tb≠k/\mb≠k/\∀ e∈s.es,e.p≠k:=fun k hk=>by
    obtain⟨cur,hcur⟩:=own_heap hfl hk
    exact⟨ne_of_heap hQ.out.1.que hcur (by simp),ne_of_heap hQ.out.1.tab.tab hcur (by simp),ne_of_heap hQ.out.1.tab.map hcur (by simp[mapObj]),fun e he=>ne_of_heap (hQ.out.1.tab.reqs e he) hcur (by simp)⟩
   have hq1:W1.heap[q]?=some (.cells (qCells tb (.slice fa j fc) (dSta s D)) 89 (0,0)):=by
    rw[hc1.block q (lt_of_heap hQ.out.1.que) fun hk=>(hne q hk).1 rfl,hQ.out.1.que,hn]
   have c2:W1.cell? ⟨q,2,none⟩=some (.slice fa j fc):=cell_of hq1 rfl
   have f2:W1.frozen? ⟨q,2,none⟩=false:=free_of hq1
   have c1:(W1.setCell ⟨q,2,none⟩ (.slice fa 0 fc)).cell? ⟨q,1,none⟩=some (ptr tb):=cell_of (heap_setCell (i:=2) _ hq1) (by rw[qCells_fl];rfl)
   have c0:=(hQ.out.1).c2
   rw[hn]at c0
   have hc2:Chg (fun k=>k=q\/(Value.slice fa j fc).ownBlock=some k) wr (W1.setCell ⟨q,2,none⟩ (.slice fa 0 fc)):=(hc1.mono fun k _ hk=>.inr hk).then ((chg_set _).mono fun k _ hk=>.inl hk)
   have hT2:=hQ.out.1.tab.kept hc2 (fun hk=>hk.elim (fun e=>hQ.out.1.ne_qt e.symm) fun e=>(hne tb e).2.1 rfl) (fun hk=>hk.elim (fun e=>hQ.out.1.ne_qm e.symm) fun e=>(hne mb e).2.2.1 rfl) (fun e he hk=>hk.elim (fun x=>hQ.out.1.ne_qp he x.symm) fun x=>(hne e.p x).2.2.2 e he rfl)
   have HT2:=Lib.hid hT2
   have HQ1:=Lib.hid hq1
   have HW1:=Lib.hid hw1
   have HC2:=Lib.hid hc2
   have HNE:=Lib.hid hne
   clear hT2 hq1 hw1 hc2 hne hfl hc1
   go_wp2_with fail
   refine (clear_any tb mb clock s.last s.held s.es _ HT2.out).mono ?_
   rintro x w3 ⟨rfl,hT3,hc3⟩
   have hq3:w3.heap[q]?=some (.cells (qCells tb (.slice fa 0 fc) (dSta s D)) 89 (0,0)):=by
    rw[hc3.block q (by simpa using lt_of_heap HQ1.out) (fun hk=>hk.elim (fun e=>hQ.out.1.ne_qt e) fun e=>hQ.out.1.ne_qm e),heap_setCell (i:=2) _ HQ1.out,qCells_fl]
   have k4:w3.cell? ⟨q,4,none⟩=some (.int .i64 s.head):=cell_of hq3 rfl
   have kf4:w3.frozen? ⟨q,4,none⟩=false:=free_of hq3
   have HQ3:=Lib.hid hq3
   have HT3:=Lib.hid hT3
   have HC3:=Lib.hid hc3
   clear hq3 hT3 hc3
   go_wp2_with fail
   go_end0
   have hfin:(w3.setCell ⟨q,4,none⟩ (.int .i64 0)).heap[q]?=some (.cells (qCells tb (.slice fa 0 fc) {s with es:=[],held:=0,cs:=[],head:=0,disk:=D}) 89 (0,0)):=by
    rw[heap_setCell (i:=4) _ HQ3.out,qCells_hd];rfl
   have hQS:=hQ.out.1
   refine⟨rfl,⟨tb,mb,clock,.slice fa 0 fc,⟨by rw[hn,HD.out];exact hfin,HT3.out.kept (S:=fun k=>k=q) (chg_set _) (fun e=>hQS.ne_qt e.symm) (fun e=>hQS.ne_qm e.symm) (fun e he=>by cases he),?_,(fun c hc=>by cases hc),by rw[hn,HD.out];exact hQS.disk⟩,fun k hk=>HF.out k ?_⟩,?_⟩
   ·refine ownsRow_chg (ownsRow_chg HW1.out (S:=fun k=>k=q\/k=tb\/k=mb) (((chg_set _).mono fun k _ hk=>.inl hk).then (HC3.out.mono fun k _ hk=>.inr hk)) fun k hk hh=>?_) (S:=fun k=>k=q) (chg_set _) fun k hk hh=>(HNE.out k ((own_len _ _ _ _).trans hk)).1 hh.symm
    obtain⟨n1,n2,n3,_⟩:=HNE.out k ((own_len _ _ _ _).trans hk)
    rcases hh with e | e | e
    ·exact n1 e.symm
    ·exact n2 e.symm
    ·exact n3 e.symm
   ·rcases hk with h | h | h | h |⟨e,he,h⟩ |⟨c,hc,h⟩
    ·exact .inl h
    ·exact .inr (.inl h)
    ·exact .inr (.inr (.inl h))
    ·exact .inr (.inr (.inr (.inl ((own_len _ _ _ _).trans h))))
    ·cases he
    ·cases hc
   ·have h1:Chg F w wr:=hQ.out.2.mono fun k _ hk=>hk ▸ hqF
    have h2:Chg F w (W1.setCell ⟨q,2,none⟩ (.slice fa 0 fc)):=h1.then (HC2.out.mono fun k _ hk=>hk.elim (fun e=>e ▸ hqF) fun e=>HF.out k (.inr (.inr (.inr (.inl ((own_len _ _ _ _).trans e))))))
    have h3:Chg F w w3:=h2.then (HC3.out.mono fun k _ hk=>hk.elim (fun e=>HF.out k (.inr (.inl e))) fun e=>HF.out k (.inr (.inr (.inl e))))
    exact h3.setCell (p:=⟨q,4,none⟩) (.inl hqF) _
end
section
open Go.RowKit Go.Shelf Go.Lib
theorem cmd_len{t:St}(h:t.Ok){c:Cmd}(hc:c∈t.cs):(c.nums.length:Int)<=t.last:=by
 have hnd:c.nums.Nodup:=(List.pairwise_flatMap.1 h.a.rs.nodup).1 c hc
 have:=len_sub c.nums hnd (t.rs.map (·.num)) fun n hn=>by
  obtain⟨r,hr,hrn,_⟩:=(h.cmds c hc).ins n hn
  exact List.mem_map.2 ⟨r,hr,hrn⟩
 rw[List.length_map]at this
 have:=ok_len h
 omega
theorem sta_len{s:Sta}(h:s.er.Ok)(hs:s.er.Small):(∀ c∈s.cs,c.1.nums.length<=1000000)/\s.cs.length<=1000:=by
 refine⟨fun c hc=>?_,?_⟩
 ·have:=cmd_len h (c:=c.1) (List.mem_map_of_mem hc)
  have:=hs.last
  omega
 ·have h1:=h.len
  have h2:=h.a.depth
  have h3:s.er.cs.length=s.cs.length:=by simp[Sta.er]
  omega
section
variable {q:Nat} {t:St} {F:Nat->Prop} {w:World}
theorem flights_c(h:QT w q t F)(hk:t.Ok)(hs:t.Small):
  Calls Tryx.prog 22 #[ptr q] w fun x w'=>∃ v cs',x=.returned v/\cs'.map (·.1)=t.cs/\CmdsAt w' w.heap.size v cs'/\Below w.heap.size w w':=by
 obtain⟨s,h1,rfl⟩:=h
 exact flights_any q s F w h1 (sta_len hk hs).1 (sta_len hk hs).2
theorem waiting_c(h:QT w q t F)(hk:t.Ok)(hs:t.Small):
  Calls Tryx.prog 20 #[ptr q] w fun x w'=>∃ v,x=.returned v/\w'.ownsRow w.heap.size 3 1 v t.waiting.length (t.waiting.map fun n=>Value.int .i64 n)/\Below w.heap.size w w':=by
 obtain⟨s,h1,rfl⟩:=h
 have e:s.er.waiting=waitE s.es:=by
  unfold St.waiting waitE Sta.er
  simp only[List.filter_map,List.map_map]
  rfl
 rw[e]
 exact waiting_any q s F w h1
theorem crash_c(h:QT w q t F)(hk:t.Ok)(hs:t.Small)(v:Value)(l:List Bool)(hB:BRow w v l)(hv:∀ k,v.ownBlock=some k->¬F k):
  Calls Tryx.prog 24 #[ptr q,v] w fun x w'=>x=.returned (.tuple #[])/\QT w' q (t.crash fun i=>l.getD i false) F/\Chg F w w':=by
 obtain⟨s,h1,rfl⟩:=h
 refine (crash_any q s F w v l h1 hB hv (fun c hc hw n hn=>?_) (sta_len hk hs).1 (sta_len hk hs).2).mono ?_
 ·obtain⟨r,hr,hrn,_⟩:=(hk.cmds c.1 (List.mem_map_of_mem hc)).ins n hn
  obtain⟨e,he,rfl⟩:=List.mem_map.1 hr
  exact⟨e,he,hrn⟩
 ·rintro x w' ⟨e1,e2,e3⟩
  refine⟨e1,⟨_,e2,?_⟩,e3⟩
  simp[Sta.er,St.crash,wnums]
end
theorem ba_ext{a b:ByteArray}(h:a.data.toList=b.data.toList):a=b:=by
 cases a;cases b
 congr 1
 exact Array.ext' h
theorem conv_row{w:World}{base n:Nat}{a:Option Addr}{c:Nat}{l:List Int}(h:w.ownsRow base 5 1 (.slice a n c) n (l.map fun b=>Value.int .u8 b))(hn:l.length=n)(h0:0<n):
  (convert 41 9 (.slice a n c)).run Tryx.prog w=.ok (.string (strOfNums l)) w:=by
 rcases h.2 with ⟨_,e⟩ |⟨g,cap,cur,e,h2,h3,h4,h5,h6,h7⟩
 ·omega
 simp only[Value.slice.injEq]at e
 obtain⟨rfl,_,rfl⟩:=e
 refine run_convert_bytes_arg (P:=Tryx.prog) w 41 5 Tryx.underlying41 Tryx.underlying5 g 0 n c l hn (fun i hi=>?_) 9 Tryx.underlying9
 refine cell_of h3 ?_
 rw[Nat.zero_add,<-Array.getElem?_toList]
 have h8:(l.map fun b=>Value.int .u8 b)[i]?=some (.int .u8 (l.getD i 0)):=by
  rw[List.getElem?_map,List.getElem?_eq_getElem (by omega)]
  simp[List.getD_eq_getElem?_getD,List.getElem?_eq_getElem (show i<l.length by omega)]
 rw[<-h7,List.getElem?_take_of_lt (by omega)]at h8
 exact h8
end
end Go.Proofs.YticobikhndlejaaGreatDoor
