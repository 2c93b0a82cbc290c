/- Part 14 of the proof (see the last part). -/
import Derived.Test.YticobikhndlejaaGreatDoorOrM
namespace Go.Proofs.YticobikhndlejaaGreatDoor
section
open Go.RowKit Go.Shelf Go.Lib
theorem len_sub:∀ (l:List Int),l.Nodup->∀ (m:List Int),(∀ a∈l,a∈m)->l.length<=m.length
 | [],_,_,_=>Nat.zero_le _
 | a :: l,hn,m,h=>by
   rw[List.nodup_cons]at hn
   have ha:=h a (by simp)
   have:=len_sub l hn.2 (m.erase a) fun b hb=>(List.mem_erase_of_ne (fun e=>hn.1 (by rw[<-e];exact hb))).2 (h b (by simp[hb]))
   rw[List.length_erase_of_mem ha]at this
   have hp:=List.length_pos_of_mem ha
   simp;omega
theorem map_erase{α β:Type}(f:α->β)(l:List α)(k:Nat):(l.eraseIdx k).map f=(l.map f).eraseIdx k:=by
 simp[List.eraseIdx_eq_take_drop_succ,List.map_take,List.map_drop]
section
variable {q:Nat} {t:St} {F:Nat->Prop} {w:World}
theorem new_c(d:Nat)(w:World)(hd:1<=d/\d<=4):Calls Tryx.prog 59 #[.int .i64 d] w fun e w'=>∃ q,e=.returned (.tuple #[ptr q,.nilIface])/\QT w' q (St.new d) (fun k=>w.heap.size<=k)/\w.heap.size<=q/\Below w.heap.size w w':=
 (new_any d w hd).mono fun _ _ ⟨q,h1,h2,h3,h4⟩=>⟨q,h1,⟨sta0 d,h2,rfl⟩,h3,h4⟩
theorem tick_c(h:QT w q t F)(hk:t.Ok)(hs:t.Small):Calls Tryx.prog 42 #[ptr q] w fun e w'=>e=.returned (.tuple #[])/\QT w' q t.tick F/\Chg F w w':=by
 obtain⟨s,h1,rfl⟩:=h
 have hq:=(QT.qlt ⟨s,h1,rfl⟩).2
 refine (tick_any q s F w h1 ⟨hk.a.now,Int.lt_trans hs.now (by decide)⟩).mono fun e w' ⟨e1,e2,e3⟩=>⟨e1,⟨_,e2,rfl⟩,e3.mono fun k _ hk=>by rw[hk];exact hq⟩
theorem er_num{s:Sta}(h:s.er.Ok):∀ e∈s.es,e.r.num<=s.last:=fun e he=>(h.a.rs.num e.r (List.mem_map_of_mem he)).2
theorem er_len{s:Sta}(h:s.er.Ok)(hs:s.er.Small):s.es.length<1000000:=by
 have h1:=ok_len h
 have h2:=hs.last
 have h3:s.er.rs.length=s.es.length:=by simp[Sta.er]
 omega
theorem read_c(h:QT w q t F)(hk:t.Ok)(hs:t.Small)(hh:t.held<40)(page:Int)(hp:0<=page/\page<16):
  Calls Tryx.prog 46 #[ptr q,.int .i64 page] w fun x w'=>x=.returned (.tuple #[.int .i64 (t.last+1),.nilIface])/\QT w' q (t.add false page ⟨0,0,0,0⟩) (fun k=>F k\/w.heap.size<=k)/\Chg F w w':=by
 obtain⟨s,h1,rfl⟩:=h
 have hl:s.last<900000:=hs.last
 refine (read_any q s F w page h1 hp ⟨by rw[show s.held=s.er.held from rfl,hk.a.held];omega,hh⟩ ⟨hk.a.last,by omega⟩ (er_num hk) (er_len hk hs)).mono fun e w' ⟨b,clock,e1,e2,e3⟩=>⟨e1,⟨_,e2,?_⟩,e3⟩
 simp[Sta.er,addS,St.add]
theorem read_full_c(h:QT w q t F)(hh:40<=t.held)(page:Int)(hp:0<=page/\page<16):
  Calls Tryx.prog 46 #[ptr q,.int .i64 page] w fun x w'=>x=.returned (.tuple #[.int .i64 0,errK 4])/\w'=w:=by
 obtain⟨s,h1,rfl⟩:=h
 exact read_full q s F w page h1 hp hh
theorem write_c(h:QT w q t F)(hk:t.Ok)(hs:t.Small)(hh:t.held<40)(page:Int)(hp:0<=page/\page<16)(v:Value)(d:B4)(cap:Nat)(a:Option Addr)(hv:v=.slice a 4 cap)(hd:DatV w v d):
  Calls Tryx.prog 60 #[ptr q,.int .i64 page,v] w fun x w'=>x=.returned (.tuple #[.int .i64 (t.last+1),.nilIface])/\QT w' q (t.add true page d) (fun k=>F k\/w.heap.size<=k)/\Chg F w w':=by
 obtain⟨s,h1,rfl⟩:=h
 have hl:s.last<900000:=hs.last
 refine (write_any q s F w page v d cap a hv hd h1 hp ⟨by rw[show s.held=s.er.held from rfl,hk.a.held];omega,hh⟩ ⟨hk.a.last,by omega⟩ (er_num hk) (er_len hk hs)).mono fun e w' ⟨b,clock,e1,e2,e3⟩=>⟨e1,⟨_,e2,?_⟩,e3⟩
 simp[Sta.er,addS,St.add]
theorem write_full_c(h:QT w q t F)(hh:40<=t.held)(page:Int)(hp:0<=page/\page<16)(cap:Nat)(a:Option Addr):
  Calls Tryx.prog 60 #[ptr q,.int .i64 page,.slice a 4 cap] w fun x w'=>x=.returned (.tuple #[.int .i64 0,errK 4])/\w'=w:=by
 obtain⟨s,h1,rfl⟩:=h
 exact write_full q s F w page cap a h1 hp hh
theorem poll_none_c(h:QT w q t F)(n:Int)(hf:t.find n=none):
  Calls Tryx.prog 36 #[ptr q,.int .i64 n] w fun x w'=>x=.returned (.tuple #[noAns,errK 5])/\Below w.heap.size w w':=by
 obtain⟨s,h1,rfl⟩:=h
 exact poll_none q s F w n h1 (er_find_none hf)
theorem poll_pend_c(h:QT w q t F)(n:Int)(r:Req)(hf:t.find n=some r)(hs:r.state=0\/r.state=1):
  Calls Tryx.prog 36 #[ptr q,.int .i64 n] w fun x w'=>∃ b,x=.returned (.tuple #[noAns,errR b])/\ReqErr w' b n r.tries 6/\w.heap.size<=b/\Below w.heap.size w w':=by
 obtain⟨s,h1,rfl⟩:=h
 obtain⟨e,he,rfl⟩:=er_find_some hf
 exact poll_pend q s F w n e h1 he hs
theorem held_ok{s:Sta}(h:s.er.Ok):0<=s.held/\s.held<=2 ^ 60:=by
 have h1:=h.a.held
 have h2:=h.a.h40
 have h3:s.er.held=s.held:=rfl
 omega
theorem poll_bad_c(h:QT w q t F)(hk:t.Ok)(hsm:t.Small)(n:Int)(r:Req)(k:Int)(hf:t.find n=some r)(hs:(r.state=3/\k=7)\/(r.state=4/\k=8)):
  Calls Tryx.prog 36 #[ptr q,.int .i64 n] w fun x w'=>∃ b,x=.returned (.tuple #[noAns,errR b])/\ReqErr w' b n r.tries k/\w.heap.size<=b/\QT w' q (t.tell n) F/\Chg F w w':=by
 obtain⟨s,h1,rfl⟩:=h
 obtain⟨e,he,rfl⟩:=er_find_some hf
 obtain⟨hem,hen,_⟩:=findE_some he
 exact (poll_bad q s F w n e k h1 he hs (held_ok hk)).mono fun x w' ⟨b,e1,e2,e3,e4,e5⟩=>⟨b,e1,e2,e3,⟨_,e4,er_tell (er_ok hk hsm) hem hen⟩,e5⟩
theorem poll_write_c(h:QT w q t F)(hk:t.Ok)(hsm:t.Small)(n:Int)(r:Req)(hf:t.find n=some r)(hs:r.state=2)(hw:r.write=true):
  Calls Tryx.prog 36 #[ptr q,.int .i64 n] w fun x w'=>x=.returned (.tuple #[.agg #[.slice none 0 0,.int .i64 r.tries],.nilIface])/\QT w' q (t.tell n) F/\Chg F w w':=by
 obtain⟨s,h1,rfl⟩:=h
 obtain⟨e,he,rfl⟩:=er_find_some hf
 obtain⟨hem,hen,_⟩:=findE_some he
 exact (poll_write q s F w n e h1 he hs hw (held_ok hk)).mono fun x w' ⟨e1,e4,e5⟩=>⟨e1,⟨_,e4,er_tell (er_ok hk hsm) hem hen⟩,e5⟩
theorem poll_read_c(h:QT w q t F)(hk:t.Ok)(hsm:t.Small)(n:Int)(r:Req)(hf:t.find n=some r)(hs:r.state=2)(hw:r.write=false):
  Calls Tryx.prog 36 #[ptr q,.int .i64 n] w fun x w'=>∃ v F',x=.returned (.tuple #[.agg #[v,.int .i64 r.tries],.nilIface])/\QT w' q (t.tell n) F'/\(∀ k,F' k->F k\/w.heap.size<=k)/\(∀ k,v.ownBlock=some k->¬F' k)/\Chg F w w'/\w'.ownsRow w.heap.size 5 1 v 4 (b4Cells r.data):=by
 obtain⟨s,h1,rfl⟩:=h
 obtain⟨e,he,rfl⟩:=er_find_some hf
 obtain⟨hem,hen,_⟩:=findE_some he
 exact (poll_read q s F w n e h1 he hs hw (held_ok hk)).mono fun x w' ⟨v,F',e1,e4,e5,e6,e7,e8⟩=>⟨v,F',e1,⟨_,e4,er_tell (er_ok hk hsm) hem hen⟩,e5,e6,e7,e8⟩
theorem step_none_c(h:QT w q t F)(hk:t.Ok)(hc:t.cmd=none):
  Calls Tryx.prog 18 #[ptr q] w fun x w'=>x=.returned (.tuple #[noCmd,.bool false])/\Below w.heap.size w w':=by
 obtain⟨s,h1,rfl⟩:=h
 by_cases hd:s.depth<=s.cs.length
 ·exact step_full q s F w h1 hd
 ·refine step_none q s F w h1 (by omega) hk.a.head ?_
  have hn:=nextE_map (readyE s.now s.es) s.head
  rw[readyE_map]at hn
  have hl:s.er.cs.length=s.cs.length:=by simp[Sta.er]
  unfold St.cmd at hc
  rw[if_neg (by rw[hl];exact hd)]at hc
  rcases nextE_spec (readyE s.now s.es) s.head hk.a.head with h2 |⟨p,n,f,l,h2,_⟩
  ·exact h2
  ·rw[h2]at hn
   have hn':nextR (readyR s.er.now s.er.rs) s.er.head=(p,n,(f :: l).map (·.r)):=hn.symm
   rw[hn']at hc
   simp at hc
theorem step_some_c(h:QT w q t F)(hk:t.Ok)(hsm:t.Small)(c:Cmd)(hc:t.cmd=some c):
  Calls Tryx.prog 18 #[ptr q] w fun x w'=>∃ v' F',x=.returned (.tuple #[.agg #[.bool c.write,.int .i64 c.page,.int .i64 c.count,v'],.bool true])/\QT w' q (t.sent c) F'/\(∀ k,F' k->F k\/w.heap.size<=k)/\(∀ k,v'.ownBlock=some k->¬F' k)/\Chg F w w'/\w'.ownsRow w.heap.size 3 1 v' c.nums.length (c.nums.map fun n=>Value.int .i64 n):=by
 obtain⟨s,h1,rfl⟩:=h
 have hl:s.er.cs.length=s.cs.length:=by simp[Sta.er]
 have hn:=nextE_map (readyE s.now s.es) s.head
 rw[readyE_map]at hn
 have hn0:nextR (readyR s.er.now s.er.rs) s.er.head=((nextE (readyE s.now s.es) s.head).1,(nextE (readyE s.now s.es) s.head).2.1,(nextE (readyE s.now s.es) s.head).2.2.map (·.r)):=hn.symm
 obtain⟨hd,_⟩:=cmd_some hk.a.head hc
 unfold St.cmd at hc
 rw[if_neg (by omega)]at hc
 have hok:=er_ok hk hsm
 rcases nextE_spec (readyE s.now s.es) s.head hk.a.head with h2 |⟨p,n,f,l,h2,a1,a2,a3,a4⟩
 ·rw[hn0,h2]at hc;simp at hc
 ·rw[hn0,h2]at hc
  simp only[List.map_cons,Option.some.injEq]at hc
  have hdep:=hk.a.depth
  have hin:∀ e∈f :: l,e∈s.es:=fun e he=>readyE_mem hok (a4 e he)
  have hlen:(f :: l).length<=1000000:=by
   have hS:=(cmd_some hk.a.head (c:=c) (by unfold St.cmd;rw[if_neg (by omega),hn0,h2];simpa using hc)).2
   obtain⟨g,m,hS,_,hnums⟩:=hS
   have hnd:=hS.nodup hk.a.rs.nums
   have hsub:∀ n∈(g :: m).map (·.num),n∈s.er.rs.map (·.num):=fun n hn=>by
    obtain⟨r,hr,rfl⟩:=List.mem_map.1 hn
    exact List.mem_map_of_mem (mem_readyR (hS.mem r hr).1).1
   have hle:=len_sub _ hnd _ hsub
   have e1:((g :: m).map (·.num)).length=(f :: l).length:=by
    rw[<-hnums,<-hc];simp
   have e2:=ok_len hk
   have e3:=hsm.last
   rw[e1,List.length_map]at hle
   omega
  obtain rfl:c=⟨f.r.write,p,n,(f :: l).map (·.r.num)⟩:=by rw[<-hc];simp
  have hdd:s.er.depth=s.depth:=rfl
  refine (step_some q s F w h1 (by omega) hk.a.head p n f l h2 a1 a2 hin hlen hdep.2).mono fun x w' ⟨v,v',F',e1,e2,e3,e4,e5,e6⟩=>⟨v',F',e1,⟨_,e2,?_⟩,e3,e4,e5,by simpa using e6⟩
  unfold stepS St.sent sendE Sta.er
  simp only
  rw[List.map_append]
  congr 1
  rw[List.map_map,List.map_map]
  refine List.map_congr_left fun x _=>?_
  simp only[Function.comp]
  split <;> rfl
theorem complete_no_c(h:QT w q t F)(k:Int)(fault:Bool)(hk:k<0\/(t.cs.length:Int)<=k):
  Calls Tryx.prog 40 #[ptr q,.int .i64 k,.bool fault] w fun x w'=>x=.returned (errK 10)/\Below w.heap.size w w':=by
 obtain⟨s,h1,rfl⟩:=h
 exact complete_no q s F w k fault h1 (by simpa[Sta.er]using hk)
theorem landsS_er(fault:Bool):∀ (ns:List Int) (s:Sta),(∀ j,j<=ns.length->EntsOk (landsS fault s (ns.take j)).es)->(landsS fault s ns).er=ns.foldl (St.land fault) s.er
 | [],_,_=>rfl
 | n :: ns,s,h=>by
   have h0:=h 0 (by simp)
   show (landsS fault (landS fault s n) ns).er=ns.foldl (St.land fault) (s.er.land fault n)
   rw[landsS_er fault ns (landS fault s n) fun j hj=>h (j+1) (by simp;omega),er_land (s:=s) h0]
theorem complete_c(h:QT w q t F)(hk:t.Ok)(hsm:t.Small)(k:Nat)(fault:Bool)(t':St)(hc:t.complete k fault=some t'):
  Calls Tryx.prog 40 #[ptr q,.int .i64 k,.bool fault] w fun x w'=>x=.returned .nilIface/\QT w' q t' F/\Chg F w w':=by
 obtain⟨s,h1,rfl⟩:=h
 unfold St.complete at hc
 cases hck:s.er.cs[k]? with
 | none=>rw [hck]at hc;cases hc
 | some c0=>
   rw[hck]at hc
   simp only[Option.some.injEq]at hc
   have hck2:(s.cs.map (·.1))[k]?=some c0:=hck
   rw[List.getElem?_map,Option.map_eq_some_iff]at hck2
   obtain⟨c,hcs,rfl⟩:=hck2
   have hlt:=(List.getElem?_eq_some_iff.1 hcs).1
   have hA:∀ j,j<=c.1.nums.length->∀ s1:Sta,s1=landsS fault {s with cs:=s.cs.eraseIdx k} (c.1.nums.take j)->(s1.er.OkA (c.1.nums.drop j ++ ((s.er.cs.eraseIdx k).flatMap (·.nums)))/\EntsOk s1.es/\s1.last=s.last):=by
    have hbase:({s with cs:=s.cs.eraseIdx k}:Sta).er.OkA (c.1.nums ++ ((s.er.cs.eraseIdx k).flatMap (·.nums))):=by
     obtain⟨hlt2,hck3⟩:=List.getElem?_eq_some_iff.1 hck
     have hperm:(s.er.cs.flatMap (·.nums)).Perm (c.1.nums ++ (s.er.cs.eraseIdx k).flatMap (·.nums)):=by
      have:=(perm_erase hlt2 hck3).flatMap_right (·.nums)
      simpa using this
     exact⟨hk.a.depth,hk.a.head,hk.a.dlen,hk.a.dbyte,hk.a.last,hk.a.now,⟨hk.a.rs.nums,hk.a.rs.num,hk.a.rs.ok,hperm.nodup_iff.1 hk.a.rs.nodup,fun n hn=>hk.a.rs.fly n (hperm.mem_iff.2 hn),fun r hr ha=>hperm.mem_iff.1 (hk.a.rs.airs r hr ha),hk.a.rs.free⟩,hk.a.held,hk.a.h40,hk.a.soon⟩
    have hents:∀ s1:Sta,s1.last=s.last->∀ air,s1.er.OkA air->EntsOk s1.es:=fun s1 hl air ho=>by
     refine⟨fun e he=>(ho.rs.ok e.r (List.mem_map_of_mem he)).page,fun e he=>?_,(List.pairwise_map (f:=fun e:Ent=>e.r) (R:=fun x y:Req=>x.num<y.num)).1 ho.rs.nums⟩
     have h1:=ho.rs.num e.r (List.mem_map_of_mem he)
     have h2:s1.er.last=s.last:=hl
     have h3:s.last<900000:=hsm.last
     omega
    intro j
    induction j with
    | zero=>
      rintro - s1 rfl
      exact⟨hbase,hents _ rfl _ hbase,rfl⟩
    | succ j ih=>
      rintro hj s1 rfl
      obtain⟨i1,i2,i3⟩:=ih (by omega) _ rfl
      have hjl:j<c.1.nums.length:=by omega
      have hst:landsS fault {s with cs:=s.cs.eraseIdx k} (c.1.nums.take (j+1))=landS fault (landsS fault {s with cs:=s.cs.eraseIdx k} (c.1.nums.take j)) (c.1.nums[j]'hjl):=by
       unfold landsS
       rw[List.take_succ_eq_append_getElem hjl,List.foldl_append];rfl
      rw[hst]
      rw[List.drop_eq_getElem_cons hjl]at i1
      have h1:=okA_land i1 fault
      rw[<-er_land i2]at h1
      have h2:=(landS_same fault (landsS fault {s with cs:=s.cs.eraseIdx k} (c.1.nums.take j)) (c.1.nums[j]'hjl)).2.2.2.1
      exact⟨h1,hents _ (h2.trans i3) _ h1,h2.trans i3⟩
   have hnow:=hsm.now
   have hnl:c.1.nums.length<=1000000:=by
    have hm:c.1∈s.er.cs:=List.mem_map_of_mem (List.mem_of_getElem? hcs)
    have hnd:c.1.nums.Nodup:=by
     have:=hk.a.rs.nodup
     exact (List.pairwise_flatMap.1 this).1 _ hm
    have hsub:∀ n∈c.1.nums,n∈s.er.rs.map (·.num):=fun n hn=>by
     obtain⟨r,hr,h1,_⟩:=CmdOk.air hk hm hn
     exact List.mem_map.2 ⟨r,hr,h1⟩
    have hle:=len_sub _ hnd _ hsub
    have e2:=ok_len hk
    have e3:=hsm.last
    rw[List.length_map]at hle
    omega
   have hl4:s.cs.length<=4:=by
    have h1:=hk.len
    have h2:=hk.a.depth
    have h3:s.er.cs.length=s.cs.length:=by simp[Sta.er]
    omega
   refine (complete_any q s F w k fault c h1 hcs ⟨hk.a.now,Int.lt_trans hnow (by decide)⟩ hl4 hnl fun j hj=>?_).mono fun x w' ⟨e1,e2,e3⟩=>⟨e1,⟨_,e2,?_⟩,e3⟩
   ·obtain⟨i1,i2,i3⟩:=hA j (by omega) _ rfl
    rw[List.drop_eq_getElem_cons hj]at i1
    obtain⟨r,hr,hrn,hra⟩:=i1.rs.fly (c.1.nums[j]'hj) (List.mem_append_left _ List.mem_cons_self)
    obtain⟨e,he,rfl⟩:=List.mem_map.1 hr
    have hro:=i1.rs.ok e.r hr
    exact⟨e,he,hrn,hro.tries.1,hro.try3 (by simp[Req.live,hra])⟩
   ·rw[landsS_er fault c.1.nums _ fun j hj=>(hA j hj _ rfl).2.1,<-hc]
    unfold Sta.er
    simp only[map_erase]
end
end
section
open Go.RowKit Go.Shelf Go.Lib
set_option maxRecDepth 100000
inductive ErrIs(w:World):Value->Int->Int->Int->Prop
 | nil:ErrIs w .nilIface 0 (-1) 0
 | kind (k:Int) (hk:0<=k/\k<=10):ErrIs w (errK k) k (-1) 0
 | req (b:Nat) (r t k:Int) (hk:0<=k/\k<=10) (h:ReqErr w b r t k):ErrIs w (errR b) k r t
theorem told_any{w:World}{err:Value}{k r t:Int}(hg:ErrVar w)(h:ErrIs w err k r t):Calls Tryx.prog 34 #[err] w fun e w'=>e=.returned (plErr k r t)/\Below w.heap.size w w':=by
 cases h with
 | nil=>exact told_nil w
 | kind k hk=>exact told_K k w hk hg
 | req b r t k hk h=>exact told_R b r t k w hk hg h
abbrev zErr:Obj:=.cells #[.int .i64 0,.int .i64 0,.int .i64 0,.bool false] 39
theorem err_set{W:World}{b:Nat}{x0 x1 x2 x3:Value}{t:TypeId}(y0 y1 y2 y3:Value)(h:W.heap[b]?=some (.cells #[x0,x1,x2,x3] t (0,0))):
  ((((W.setCell ⟨b,0,none⟩ y0).setCell ⟨b,1,none⟩ y1).setCell ⟨b,2,none⟩ y2).setCell ⟨b,3,none⟩ y3).heap[b]?=some (.cells #[y0,y1,y2,y3] t (0,0))/\
  Chg (fun k=>k=b) W ((((W.setCell ⟨b,0,none⟩ y0).setCell ⟨b,1,none⟩ y1).setCell ⟨b,2,none⟩ y2).setCell ⟨b,3,none⟩ y3):=
 ⟨heap_setCell (i:=3) _ (heap_setCell (i:=2) _ (heap_setCell (i:=1) _ (heap_setCell (i:=0) _ h))),(((chg_set _).then (chg_set _)).then (chg_set _)).then (chg_set _)⟩
theorem plRead_of(q:Nat)(page k r t:Int)(w:World)(P:Value->Value->World->Prop)
  (hM:Calls Tryx.prog 46 #[ptr q,.int .i64 page] (w.alloc zErr) fun x w'=>∃ X err,x=.returned (.tuple #[X,err])/\P X err w')
  (hP:∀ X err w',P X err w'->ErrVar w'/\ErrIs w' err k r t/\w'.heap[w.heap.size]?=some zErr):
  Calls Tryx.prog 25 #[ptr q,.int .i64 page] w fun x w'=>∃ X err w1,x=.returned (.tuple #[X,plErr k r t])/\P X err w1/\Chg (fun k=>k=w.heap.size) w1 w':=by
 have HM:=Lib.hid hM
 have HP:=Lib.hid hP
 clear hM hP
 go_enter Tryx.func25,Tryz.ntmps25
 go_wp2_with fail
 refine HM.out.mono ?_
 rintro x w1 ⟨X,err,rfl,hp⟩
 obtain⟨hg,he,hz⟩:=HP.out X err w1 hp
 have HT:=Lib.hid (told_any hg he)
 have HPP:=Lib.hid hp
 have HZ:=Lib.hid hz
 clear hp hg he hz
 go_wp2_with fail
 refine HT.out.mono ?_
 rintro x w2 ⟨rfl,hB⟩
 have hz2:w2.heap[w.heap.size]?=some zErr:=(hB.block _ (lt_of_heap HZ.out)).trans HZ.out
 have z0:w2.cell? ⟨w.heap.size,0,none⟩=some (.int .i64 0):=cell_of hz2 rfl
 have z1:w2.cell? ⟨w.heap.size,1,none⟩=some (.int .i64 0):=cell_of hz2 rfl
 have z2:w2.cell? ⟨w.heap.size,2,none⟩=some (.int .i64 0):=cell_of hz2 rfl
 have z3:w2.cell? ⟨w.heap.size,3,none⟩=some (.bool false):=cell_of hz2 rfl
 have zf:∀ i,w2.frozen? ⟨w.heap.size,i,none⟩=false:=fun i=>free_of hz2
 have HB:=Lib.hid hB
 have HZ2:=Lib.hid hz2
 clear hB hz2
 go_wp2_with fail
 obtain⟨e5,hc5⟩:=err_set (W:=w2) (.int .i64 k) (.int .i64 r) (.int .i64 t) (.bool true) HZ2.out
 obtain⟨W5,hW5⟩:∃ W5,((((w2.setCell ⟨w.heap.size,0,none⟩ (.int .i64 k)).setCell ⟨w.heap.size,1,none⟩ (.int .i64 r)).setCell ⟨w.heap.size,2,none⟩ (.int .i64 t)).setCell ⟨w.heap.size,3,none⟩ (.bool true))=W5:=⟨_,rfl⟩
 rw[hW5]at e5 hc5 ⊢
 have y0:W5.cell? ⟨w.heap.size,0,none⟩=some (.int .i64 k):=cell_of e5 rfl
 have y1:W5.cell? ⟨w.heap.size,1,none⟩=some (.int .i64 r):=cell_of e5 rfl
 have y2:W5.cell? ⟨w.heap.size,2,none⟩=some (.int .i64 t):=cell_of e5 rfl
 have y3:W5.cell? ⟨w.heap.size,3,none⟩=some (.bool true):=cell_of e5 rfl
 refine bodyPost_ret (v:=.tuple #[X,plErr k r t]) (by simp[results,Tryz.results25,go_sem,y0,y1,y2,y3]) rfl ⟨X,err,w1,rfl,HPP.out,(chgB HB.out _).then hc5⟩
theorem plWrite_of(q:Nat)(v:Value)(page k r t:Int)(w:World)(P:Value->Value->World->Prop)
  (hM:Calls Tryx.prog 60 #[ptr q,.int .i64 page,v] (w.alloc zErr) fun x w'=>∃ X err,x=.returned (.tuple #[X,err])/\P X err w')
  (hP:∀ X err w',P X err w'->ErrVar w'/\ErrIs w' err k r t/\w'.heap[w.heap.size]?=some zErr):
  Calls Tryx.prog 33 #[ptr q,.int .i64 page,v] w fun x w'=>∃ X err w1,x=.returned (.tuple #[X,plErr k r t])/\P X err w1/\Chg (fun k=>k=w.heap.size) w1 w':=by
 have HM:=Lib.hid hM
 have HP:=Lib.hid hP
 clear hM hP
 go_enter Tryx.func33,Tryz.ntmps33
 go_wp2_with fail
 refine HM.out.mono ?_
 rintro x w1 ⟨X,err,rfl,hp⟩
 obtain⟨hg,he,hz⟩:=HP.out X err w1 hp
 have HT:=Lib.hid (told_any hg he)
 have HPP:=Lib.hid hp
 have HZ:=Lib.hid hz
 clear hp hg he hz
 go_wp2_with fail
 refine HT.out.mono ?_
 rintro x w2 ⟨rfl,hB⟩
 have hz2:w2.heap[w.heap.size]?=some zErr:=(hB.block _ (lt_of_heap HZ.out)).trans HZ.out
 have z0:w2.cell? ⟨w.heap.size,0,none⟩=some (.int .i64 0):=cell_of hz2 rfl
 have z1:w2.cell? ⟨w.heap.size,1,none⟩=some (.int .i64 0):=cell_of hz2 rfl
 have z2:w2.cell? ⟨w.heap.size,2,none⟩=some (.int .i64 0):=cell_of hz2 rfl
 have z3:w2.cell? ⟨w.heap.size,3,none⟩=some (.bool false):=cell_of hz2 rfl
 have zf:∀ i,w2.frozen? ⟨w.heap.size,i,none⟩=false:=fun i=>free_of hz2
 have HB:=Lib.hid hB
 have HZ2:=Lib.hid hz2
 clear hB hz2
 go_wp2_with fail
 obtain⟨e5,hc5⟩:=err_set (W:=w2) (.int .i64 k) (.int .i64 r) (.int .i64 t) (.bool true) HZ2.out
 obtain⟨W5,hW5⟩:∃ W5,((((w2.setCell ⟨w.heap.size,0,none⟩ (.int .i64 k)).setCell ⟨w.heap.size,1,none⟩ (.int .i64 r)).setCell ⟨w.heap.size,2,none⟩ (.int .i64 t)).setCell ⟨w.heap.size,3,none⟩ (.bool true))=W5:=⟨_,rfl⟩
 rw[hW5]at e5 hc5 ⊢
 have y0:W5.cell? ⟨w.heap.size,0,none⟩=some (.int .i64 k):=cell_of e5 rfl
 have y1:W5.cell? ⟨w.heap.size,1,none⟩=some (.int .i64 r):=cell_of e5 rfl
 have y2:W5.cell? ⟨w.heap.size,2,none⟩=some (.int .i64 t):=cell_of e5 rfl
 have y3:W5.cell? ⟨w.heap.size,3,none⟩=some (.bool true):=cell_of e5 rfl
 refine bodyPost_ret (v:=.tuple #[X,plErr k r t]) (by simp[results,Tryz.results33,go_sem,y0,y1,y2,y3]) rfl ⟨X,err,w1,rfl,HPP.out,(chgB HB.out _).then hc5⟩
theorem plNew_of(d k r t:Int)(w:World)(P:Value->Value->World->Prop)
  (hM:Calls Tryx.prog 59 #[.int .i64 d] (w.alloc zErr) fun x w'=>∃ X err,x=.returned (.tuple #[X,err])/\P X err w')
  (hP:∀ X err w',P X err w'->ErrVar w'/\ErrIs w' err k r t/\w'.heap[w.heap.size]?=some zErr):
  Calls Tryx.prog 32 #[.int .i64 d] w fun x w'=>∃ X err w1,x=.returned (.tuple #[X,plErr k r t])/\P X err w1/\Chg (fun k=>k=w.heap.size) w1 w':=by
 have HM:=Lib.hid hM
 have HP:=Lib.hid hP
 clear hM hP
 go_enter Tryx.func32,Tryz.ntmps32
 go_wp2_with fail
 refine HM.out.mono ?_
 rintro x w1 ⟨X,err,rfl,hp⟩
 obtain⟨hg,he,hz⟩:=HP.out X err w1 hp
 have HT:=Lib.hid (told_any hg he)
 have HPP:=Lib.hid hp
 have HZ:=Lib.hid hz
 clear hp hg he hz
 go_wp2_with fail
 refine HT.out.mono ?_
 rintro x w2 ⟨rfl,hB⟩
 have hz2:w2.heap[w.heap.size]?=some zErr:=(hB.block _ (lt_of_heap HZ.out)).trans HZ.out
 have z0:w2.cell? ⟨w.heap.size,0,none⟩=some (.int .i64 0):=cell_of hz2 rfl
 have z1:w2.cell? ⟨w.heap.size,1,none⟩=some (.int .i64 0):=cell_of hz2 rfl
 have z2:w2.cell? ⟨w.heap.size,2,none⟩=some (.int .i64 0):=cell_of hz2 rfl
 have z3:w2.cell? ⟨w.heap.size,3,none⟩=some (.bool false):=cell_of hz2 rfl
 have zf:∀ i,w2.frozen? ⟨w.heap.size,i,none⟩=false:=fun i=>free_of hz2
 have HB:=Lib.hid hB
 have HZ2:=Lib.hid hz2
 clear hB hz2
 go_wp2_with fail
 obtain⟨e5,hc5⟩:=err_set (W:=w2) (.int .i64 k) (.int .i64 r) (.int .i64 t) (.bool true) HZ2.out
 obtain⟨W5,hW5⟩:∃ W5,((((w2.setCell ⟨w.heap.size,0,none⟩ (.int .i64 k)).setCell ⟨w.heap.size,1,none⟩ (.int .i64 r)).setCell ⟨w.heap.size,2,none⟩ (.int .i64 t)).setCell ⟨w.heap.size,3,none⟩ (.bool true))=W5:=⟨_,rfl⟩
 rw[hW5]at e5 hc5 ⊢
 have y0:W5.cell? ⟨w.heap.size,0,none⟩=some (.int .i64 k):=cell_of e5 rfl
 have y1:W5.cell? ⟨w.heap.size,1,none⟩=some (.int .i64 r):=cell_of e5 rfl
 have y2:W5.cell? ⟨w.heap.size,2,none⟩=some (.int .i64 t):=cell_of e5 rfl
 have y3:W5.cell? ⟨w.heap.size,3,none⟩=some (.bool true):=cell_of e5 rfl
 refine bodyPost_ret (v:=.tuple #[X,plErr k r t]) (by simp[results,Tryz.results32,go_sem,y0,y1,y2,y3]) rfl ⟨X,err,w1,rfl,HPP.out,(chgB HB.out _).then hc5⟩
theorem plComplete_of(q:Nat)(fault:Bool)(n k r t:Int)(w:World)(P:Value->World->Prop)
  (hM:Calls Tryx.prog 40 #[ptr q,.int .i64 n,.bool fault] (w.alloc zErr) fun x w'=>∃ err,x=.returned err/\P err w')
  (hP:∀ err w',P err w'->ErrVar w'/\ErrIs w' err k r t/\w'.heap[w.heap.size]?=some zErr):
  Calls Tryx.prog 19 #[ptr q,.int .i64 n,.bool fault] w fun x w'=>∃ err w1,x=.returned (plErr k r t)/\P err w1/\Chg (fun k=>k=w.heap.size) w1 w':=by
 have HM:=Lib.hid hM
 have HP:=Lib.hid hP
 clear hM hP
 go_enter Tryx.func19,Tryz.ntmps19
 go_wp2_with fail
 refine HM.out.mono ?_
 rintro x w1 ⟨err,rfl,hp⟩
 obtain⟨hg,he,hz⟩:=HP.out err w1 hp
 have HT:=Lib.hid (told_any hg he)
 have HPP:=Lib.hid hp
 have HZ:=Lib.hid hz
 clear hp hg he hz
 go_wp2_with fail
 refine HT.out.mono ?_
 rintro x w2 ⟨rfl,hB⟩
 have hz2:w2.heap[w.heap.size]?=some zErr:=(hB.block _ (lt_of_heap HZ.out)).trans HZ.out
 have z0:w2.cell? ⟨w.heap.size,0,none⟩=some (.int .i64 0):=cell_of hz2 rfl
 have z1:w2.cell? ⟨w.heap.size,1,none⟩=some (.int .i64 0):=cell_of hz2 rfl
 have z2:w2.cell? ⟨w.heap.size,2,none⟩=some (.int .i64 0):=cell_of hz2 rfl
 have z3:w2.cell? ⟨w.heap.size,3,none⟩=some (.bool false):=cell_of hz2 rfl
 have zf:∀ i,w2.frozen? ⟨w.heap.size,i,none⟩=false:=fun i=>free_of hz2
 have HB:=Lib.hid hB
 have HZ2:=Lib.hid hz2
 clear hB hz2
 go_wp2_with fail
 obtain⟨e5,hc5⟩:=err_set (W:=w2) (.int .i64 k) (.int .i64 r) (.int .i64 t) (.bool true) HZ2.out
 obtain⟨W5,hW5⟩:∃ W5,((((w2.setCell ⟨w.heap.size,0,none⟩ (.int .i64 k)).setCell ⟨w.heap.size,1,none⟩ (.int .i64 r)).setCell ⟨w.heap.size,2,none⟩ (.int .i64 t)).setCell ⟨w.heap.size,3,none⟩ (.bool true))=W5:=⟨_,rfl⟩
 rw[hW5]at e5 hc5 ⊢
 have y0:W5.cell? ⟨w.heap.size,0,none⟩=some (.int .i64 k):=cell_of e5 rfl
 have y1:W5.cell? ⟨w.heap.size,1,none⟩=some (.int .i64 r):=cell_of e5 rfl
 have y2:W5.cell? ⟨w.heap.size,2,none⟩=some (.int .i64 t):=cell_of e5 rfl
 have y3:W5.cell? ⟨w.heap.size,3,none⟩=some (.bool true):=cell_of e5 rfl
 refine bodyPost_ret (v:=plErr k r t) (by simp[results,Tryz.results19,go_sem,y0,y1,y2,y3]) rfl ⟨err,w1,rfl,HPP.out,(chgB HB.out _).then hc5⟩
abbrev zAns:Obj:=.cells #[.slice none 0 0,.int .i64 0] 43
theorem ErrIs.chg{w W:World}{err:Value}{k r t:Int}(h:ErrIs w err k r t){S:Nat->Prop}(hc:Chg S w W)(hS:∀ b,err=errR b->¬S b):ErrIs W err k r t:=by
 cases h with
 | nil=>exact .nil
 | kind k hk=>exact .kind k hk
 | req b r t k hk h=>exact .req b r t k hk (h.chg hc (hS b rfl))
theorem plPoll_of(q:Nat)(n k r t:Int)(w:World)(P:Value->Int->Value->World->Prop)
  (hM:Calls Tryx.prog 36 #[ptr q,.int .i64 n] ((w.alloc zAns).alloc zErr) fun x w'=>∃ va vn vc tr err,x=.returned (.tuple #[.agg #[.slice va vn vc,.int .i64 tr],err])/\P (.slice va vn vc) tr err w')
  (hP:∀ v tr err w',P v tr err w'->ErrVar w'/\ErrIs w' err k r t/\w'.heap[w.heap.size]?=some zAns/\w'.heap[w.heap.size+1]?=some zErr):
  Calls Tryx.prog 16 #[ptr q,.int .i64 n] w fun x w'=>∃ v tr err w1,x=.returned (.tuple #[.agg #[v,.int .i64 tr],plErr k r t])/\P v tr err w1/\w.heap.size+2<=w1.heap.size/\Chg (fun k=>k=w.heap.size\/k=w.heap.size+1) w1 w':=by
 have HM:=Lib.hid hM
 have HP:=Lib.hid hP
 clear hM hP
 go_enter Tryx.func16,Tryz.ntmps16
 go_wp2_with fail
 refine HM.out.mono ?_
 rintro x w1 ⟨va,vn,vc,tr,err,rfl,hp⟩
 obtain⟨hg,he,hza,hze⟩:=HP.out _ tr err w1 hp
 obtain⟨W2,hW2⟩:∃ W2,w1.alloc (.cells #[.slice va vn vc,.int .i64 tr] 43)=W2:=⟨_,rfl⟩
 have hB2:Below w1.heap.size w1 W2:=by rw[<-hW2];exact (Below.refl _ _).alloc (Nat.le_refl _) _
 have hr2:W2.heap[w1.heap.size]?=some (.cells #[.slice va vn vc,.int .i64 tr] 43 (0,0)):=by rw[<-hW2];exact World.alloc_heap_new w1 _
 have a0:W2.cell? ⟨w1.heap.size,0,none⟩=some (.slice va vn vc):=cell_of hr2 rfl
 have a1:W2.cell? ⟨w1.heap.size,1,none⟩=some (.int .i64 tr):=cell_of hr2 rfl
 have HG:=Lib.hid (hg.chg (chgB hB2 fun _=>False) fun x=>x)
 have HE:=Lib.hid (he.chg (chgB hB2 fun _=>False) fun _ _ x=>x)
 have HA:=Lib.hid ((hB2.block _ (lt_of_heap hza)).trans hza)
 have HZ:=Lib.hid ((hB2.block _ (lt_of_heap hze)).trans hze)
 have HPP:=Lib.hid hp
 have HB2:=Lib.hid hB2
 have hlt2:=lt_of_heap hr2
 have hl1:=lt_of_heap hze
 clear hp hg he hza hze hB2 hr2
 go_wp2_with fail
 have hn1:w1.heap.size≠w.heap.size:=by omega
 have hn2:w1.heap.size≠w.heap.size+1:=by omega
 have hn3:w.heap.size≠w1.heap.size:=by omega
 have hn4:w.heap.size+1≠w1.heap.size:=by omega
 go_region_held3 (fun w'=>w'.cell? ⟨w1.heap.size,0,none⟩=some (.slice va vn vc)/\w'.cell? ⟨w1.heap.size,1,none⟩=some (.int .i64 tr)) (go_keep)
  (first
    | (go_at_call 34;refine (told_any (k:=k) (r:=r) (t:=t) ?_ ?_).mono ?_;exact HG.out;exact HE.out.chg ((Chg.refl (fun _=>False) W2).drew) fun _ _ x=>x
       rintro e w3 ⟨rfl,hB3⟩
       have e0:w3.cell? ⟨w1.heap.size,0,none⟩=some (.slice va vn vc):=(hB3.cell (p:=⟨w1.heap.size,0,none⟩) hlt2).trans a0
       have e1:w3.cell? ⟨w1.heap.size,1,none⟩=some (.int .i64 tr):=(hB3.cell (p:=⟨w1.heap.size,1,none⟩) hlt2).trans a1
       have z0:w3.cell? ⟨w.heap.size,0,none⟩=some (.slice none 0 0):=cell_of ((hB3.block _ (lt_of_heap HA.out)).trans HA.out) rfl
       have z1:w3.cell? ⟨w.heap.size,1,none⟩=some (.int .i64 0):=cell_of ((hB3.block _ (lt_of_heap HA.out)).trans HA.out) rfl
       have zf:∀ i,w3.frozen? ⟨w.heap.size,i,none⟩=false:=fun i=>free_of ((hB3.block _ (lt_of_heap HA.out)).trans HA.out)
       have x0:w3.cell? ⟨w.heap.size+1,0,none⟩=some (.int .i64 0):=cell_of ((hB3.block _ (lt_of_heap HZ.out)).trans HZ.out) rfl
       have x1:w3.cell? ⟨w.heap.size+1,1,none⟩=some (.int .i64 0):=cell_of ((hB3.block _ (lt_of_heap HZ.out)).trans HZ.out) rfl
       have x2:w3.cell? ⟨w.heap.size+1,2,none⟩=some (.int .i64 0):=cell_of ((hB3.block _ (lt_of_heap HZ.out)).trans HZ.out) rfl
       have x3:w3.cell? ⟨w.heap.size+1,3,none⟩=some (.bool false):=cell_of ((hB3.block _ (lt_of_heap HZ.out)).trans HZ.out) rfl
       have xf:∀ i,w3.frozen? ⟨w.heap.size+1,i,none⟩=false:=fun i=>free_of ((hB3.block _ (lt_of_heap HZ.out)).trans HZ.out)))
 obtain⟨f5,fc5⟩:=ans_set (W:=w3) (.slice va vn vc) (.int .i64 tr) ((hB3.block _ (lt_of_heap HA.out)).trans HA.out)
 obtain⟨W4,hW4⟩:∃ W4,(w3.setCell ⟨w.heap.size,0,none⟩ (.slice va vn vc)).setCell ⟨w.heap.size,1,none⟩ (.int .i64 tr)=W4:=⟨_,rfl⟩
 rw[hW4]at f5 fc5 ⊢
 have hz4:W4.heap[w.heap.size+1]?=some zErr:=(fc5.block _ (Nat.lt_of_lt_of_le (lt_of_heap HZ.out) hB3.size) (by omega)).trans ((hB3.block _ (lt_of_heap HZ.out)).trans HZ.out)
 obtain⟨g5,gc5⟩:=err_set (W:=W4) (.int .i64 k) (.int .i64 r) (.int .i64 t) (.bool true) hz4
 obtain⟨W5,hW5⟩:∃ W5,((((W4.setCell ⟨w.heap.size+1,0,none⟩ (.int .i64 k)).setCell ⟨w.heap.size+1,1,none⟩ (.int .i64 r)).setCell ⟨w.heap.size+1,2,none⟩ (.int .i64 t)).setCell ⟨w.heap.size+1,3,none⟩ (.bool true))=W5:=⟨_,rfl⟩
 rw[hW5]at g5 gc5 ⊢
 have h5:W5.heap[w.heap.size]?=some (.cells #[.slice va vn vc,.int .i64 tr] 43 (0,0)):=(gc5.block _ (lt_of_heap f5) (by omega)).trans f5
 have y0:W5.cell? ⟨w.heap.size+1,0,none⟩=some (.int .i64 k):=cell_of g5 rfl
 have y1:W5.cell? ⟨w.heap.size+1,1,none⟩=some (.int .i64 r):=cell_of g5 rfl
 have y2:W5.cell? ⟨w.heap.size+1,2,none⟩=some (.int .i64 t):=cell_of g5 rfl
 have y3:W5.cell? ⟨w.heap.size+1,3,none⟩=some (.bool true):=cell_of g5 rfl
 have u0:W5.cell? ⟨w.heap.size,0,none⟩=some (.slice va vn vc):=cell_of h5 rfl
 have u1:W5.cell? ⟨w.heap.size,1,none⟩=some (.int .i64 tr):=cell_of h5 rfl
 have hfin:Chg (fun k=>k=w.heap.size\/k=w.heap.size+1) w1 W5:=(((chgB HB2.out _).drew.of_below hB3).then (fc5.mono fun _ _ h=>.inl h)).then (gc5.mono fun _ _ h=>.inr h)
 go_wp2_with fail
 refine bodyPost_ret (v:=.tuple #[.agg #[.slice va vn vc,.int .i64 tr],plErr k r t]) (by simp[results,Tryz.results16,go_sem,y0,y1,y2,y3,u0,u1]) rfl ⟨_,tr,err,w1,rfl,HPP.out,by omega,hfin⟩
theorem Tryz.eqF0(w:World):(binOp BinOp.eql 39 (plErr 0 (-1) 0) (plErr 0 (-1) 0)).run Tryx.prog w=.ok (.bool true) w:=by kernel_rfl
theorem Tryz.eqFk(k r t:Int)(hk:k=1\/k=2\/k=3\/k=4\/k=5\/k=6\/k=7\/k=8\/k=9\/k=10)(w:World):(binOp BinOp.eql 39 (plErr k r t) (plErr 0 (-1) 0)).run Tryx.prog w=.ok (.bool false) w:=by
 rcases hk with rfl | rfl | rfl | rfl | rfl | rfl | rfl | rfl | rfl | rfl <;> kernel_rfl
theorem fine_yes(w:World):Calls Tryx.prog 17 #[plErr 0 (-1) 0] w fun x w'=>x=.returned (.bool true)/\Below w.heap.size w w':=by
 have h:=Tryz.eqF0
 go_enter Tryx.func17,Tryz.ntmps17
 go_wp2_with fail
 go_ret
 exact⟨rfl,by go_grown⟩
theorem fine_no(k r t:Int)(hk:k=1\/k=2\/k=3\/k=4\/k=5\/k=6\/k=7\/k=8\/k=9\/k=10)(w:World):Calls Tryx.prog 17 #[plErr k r t] w fun x w'=>x=.returned (.bool false)/\Below w.heap.size w w':=by
 have h:=Tryz.eqFk k r t hk
 clear hk
 go_enter Tryx.func17,Tryz.ntmps17
 go_wp2_with fail
 go_ret
 exact⟨rfl,by go_grown⟩
def pickI(c n:Int):Int:=(if c<0 then -(c+1)else c) % n
theorem pickI_lt(c:Int){n:Int}(hn:0<n):0<=pickI c n/\pickI c n<n:=⟨Int.emod_nonneg _ (by omega),Int.emod_lt_of_pos _ hn⟩
theorem pick_any(c n:Int)(w:World)(hc:-9223372036854775808<=c/\c<=9223372036854775807)(hn:0<n/\n<=1000000):Calls Tryx.prog 13 #[.int .i64 c,.int .i64 n] w fun x w'=>x=.returned (.int .i64 (pickI c n))/\w'=w:=by
 have hn0:(n == 0)=false:=by simp;omega
 have hnn:¬n=0:=by omega
 by_cases h0:c<0
 ·have d0:decide (c<0)=true:=by simpa using h0
  have w1:IntKind.i64.wrap (c+1)=c+1:=by rw[IntKind.wrap_i64];omega
  have w2:IntKind.i64.wrap (-(c+1))= -(c+1):=by rw[IntKind.wrap_i64];omega
  have e:(-(c+1)).tmod n=pickI c n:=by unfold pickI;rw[if_pos h0,Int.tmod_eq_emod_of_nonneg (by omega)]
  have hp:=pickI_lt c hn.1
  have w3:IntKind.i64.wrap (pickI c n)=pickI c n:=by rw[IntKind.wrap_i64];omega
  clear h0
  go_enter Tryx.func13,Tryz.ntmps13
  go_wp2_with fail
  go_ret
  exact⟨rfl,rfl⟩
 ·have d0:decide (c<0)=false:=by simpa using h0
  have e:c.tmod n=pickI c n:=by unfold pickI;rw[if_neg h0,Int.tmod_eq_emod_of_nonneg (by omega)]
  have hp:=pickI_lt c hn.1
  have w3:IntKind.i64.wrap (pickI c n)=pickI c n:=by rw[IntKind.wrap_i64];omega
  go_enter Tryx.func13,Tryz.ntmps13
  go_wp2_with fail
  go_ret
  exact⟨rfl,rfl⟩
end
section
open Go.RowKit Go.Shelf Go.Lib
theorem zErr_alloc(w:World):(w.alloc zErr).heap[w.heap.size]?=some zErr:=World.alloc_heap_new w _
theorem chg_two{F S T:Nat->Prop}{w w1 w':World}{o:Obj}(h1:Chg F (w.alloc o) w1)(h2:Chg S w1 w')(hF:∀ k,F k->T k)(hS:∀ k,S k->T k\/w.heap.size<=k):Chg T w w':=
 (((Chg.refl T w).alloc o).then (h1.mono fun k _ hk=>hF k hk)).trans (h2.mono fun k _ hk=>hS k hk)
section
variable {q:Nat} {t:St} {F:Nat->Prop} {w:World}
theorem QT.alloc(h:QT w q t F)(o:Obj):QT (w.alloc o) q t fun k=>F k/\k<w.heap.size:=h.lt.below ((Below.refl _ _).alloc (Nat.le_refl _) _)
theorem new_p(d:Nat)(w:World)(hg:ErrVar w)(hd:1<=d/\d<=4):Calls Tryx.prog 32 #[.int .i64 d] w fun x w'=>∃ q,x=.returned (.tuple #[ptr q,plErr 0 (-1) 0])/\QT w' q (St.new d) (fun k=>w.heap.size<k)/\Below w.heap.size w w':=by
 refine (plNew_of d 0 (-1) 0 w (fun X err w'=>∃ q,X=ptr q/\err=.nilIface/\QT w' q (St.new d) (fun k=>w.heap.size<k)/\Below (w.heap.size+1) (w.alloc zErr) w') ?_ ?_).mono ?_
 ·refine (new_c d _ hd).mono fun x w' ⟨q,h1,h2,h3,h4⟩=>⟨ptr q,.nilIface,h1,q,rfl,rfl,h2.mono fun k hk=>by simp at hk;omega,by simpa using h4⟩
 ·rintro X err w' ⟨q,rfl,rfl,h1,h2⟩
  have hz:=zErr_alloc w
  exact⟨(hg.alloc _).chg (chgB (by simpa using h2) fun _=>False) fun x=>x,.nil,(h2.block _ (by simp)).trans hz⟩
 ·rintro x w' ⟨X,err,w1,rfl,⟨q,rfl,rfl,h1,h2⟩,hc⟩
  refine⟨q,rfl,h1.kept hc fun k hk e=>by omega,?_⟩
  exact Chg.below (chg_two (F:=fun _=>False) (chgB (by simpa using h2) _) hc (fun _ x=>x) fun k hk=>.inr (by omega))
theorem read_p(h:QT w q t F)(hk:t.Ok)(hs:t.Small)(hg:ErrVar w)(hF:¬F 0)(hh:t.held<40)(page:Int)(hp:0<=page/\page<16):
  Calls Tryx.prog 25 #[ptr q,.int .i64 page] w fun x w'=>x=.returned (.tuple #[.int .i64 (t.last+1),plErr 0 (-1) 0])/\QT w' q (t.add false page ⟨0,0,0,0⟩) (fun k=>F k\/w.heap.size<k)/\Chg F w w':=by
 refine (plRead_of q page 0 (-1) 0 w (fun X err w'=>X=.int .i64 (t.last+1)/\err=.nilIface/\QT w' q (t.add false page ⟨0,0,0,0⟩) (fun k=>(F k/\k<w.heap.size)\/(w.alloc zErr).heap.size<=k)/\Chg (fun k=>F k/\k<w.heap.size) (w.alloc zErr) w') ?_ ?_).mono ?_
 ·exact (read_c (h.alloc zErr) hk hs hh page hp).mono fun x w' ⟨h1,h2,h3⟩=>⟨_,_,h1,rfl,rfl,h2,h3⟩
 ·rintro X err w' ⟨rfl,rfl,h1,h2⟩
  exact⟨(hg.alloc _).chg h2 fun x=>hF x.1,.nil,(h2.block _ (by simp) (by omega)).trans (zErr_alloc w)⟩
 ·rintro x w' ⟨X,err,w1,rfl,⟨rfl,rfl,h1,h2⟩,hc⟩
  refine⟨rfl,(h1.kept hc fun k hk e=>?_).mono fun k hk=>?_,chg_two h2 hc (fun k x=>x.1) fun k hk=>.inr (by omega)⟩
  ·simp at hk;omega
  ·simp at hk;exact hk.imp (fun x=>x.1) (fun x=>by omega)
theorem read_full_p(h:QT w q t F)(hg:ErrVar w)(hh:40<=t.held)(page:Int)(hp:0<=page/\page<16):
  Calls Tryx.prog 25 #[ptr q,.int .i64 page] w fun x w'=>x=.returned (.tuple #[.int .i64 0,plErr 4 (-1) 0])/\Below w.heap.size w w':=by
 refine (plRead_of q page 4 (-1) 0 w (fun X err w'=>X=.int .i64 0/\err=errK 4/\w'=w.alloc zErr) ?_ ?_).mono ?_
 ·exact (read_full_c (h.alloc zErr) hh page hp).mono fun x w' ⟨h1,h2⟩=>⟨_,_,h1,rfl,rfl,h2⟩
 ·rintro X err w' ⟨rfl,rfl,rfl⟩
  exact⟨hg.alloc _,.kind 4 (by omega),zErr_alloc w⟩
 ·rintro x w' ⟨X,err,w1,rfl,⟨rfl,rfl,rfl⟩,hc⟩
  exact⟨rfl,Chg.below (((Chg.refl (fun _=>False) w).alloc _).trans (hc.mono fun k _ hk=>.inr (by omega)))⟩
theorem DatV.below{w W:World}{v:Value}{d:B4}(h:DatV w v d)(hb:Below w.heap.size w W):DatV W v d:=h.kept (chgB hb fun _=>False) fun _ x=>x.elim
theorem write_p(h:QT w q t F)(hk:t.Ok)(hs:t.Small)(hg:ErrVar w)(hF:¬F 0)(hh:t.held<40)(page:Int)(hp:0<=page/\page<16)(d:B4)(cap:Nat)(a:Option Addr)(hd:DatV w (.slice a 4 cap) d):
  Calls Tryx.prog 33 #[ptr q,.int .i64 page,.slice a 4 cap] w fun x w'=>x=.returned (.tuple #[.int .i64 (t.last+1),plErr 0 (-1) 0])/\QT w' q (t.add true page d) (fun k=>F k\/w.heap.size<k)/\Chg F w w':=by
 refine (plWrite_of q (.slice a 4 cap) page 0 (-1) 0 w (fun X err w'=>X=.int .i64 (t.last+1)/\err=.nilIface/\QT w' q (t.add true page d) (fun k=>(F k/\k<w.heap.size)\/(w.alloc zErr).heap.size<=k)/\Chg (fun k=>F k/\k<w.heap.size) (w.alloc zErr) w') ?_ ?_).mono ?_
 ·exact (write_c (h.alloc zErr) hk hs hh page hp _ d cap a rfl (hd.below ((Below.refl _ _).alloc (Nat.le_refl _) _))).mono fun x w' ⟨h1,h2,h3⟩=>⟨_,_,h1,rfl,rfl,h2,h3⟩
 ·rintro X err w' ⟨rfl,rfl,h1,h2⟩
  exact⟨(hg.alloc _).chg h2 fun x=>hF x.1,.nil,(h2.block _ (by simp) (by omega)).trans (zErr_alloc w)⟩
 ·rintro x w' ⟨X,err,w1,rfl,⟨rfl,rfl,h1,h2⟩,hc⟩
  refine⟨rfl,(h1.kept hc fun k hk e=>?_).mono fun k hk=>?_,chg_two h2 hc (fun k x=>x.1) fun k hk=>.inr (by omega)⟩
  ·simp at hk;omega
  ·simp at hk;exact hk.imp (fun x=>x.1) (fun x=>by omega)
theorem write_full_p(h:QT w q t F)(hg:ErrVar w)(hh:40<=t.held)(page:Int)(hp:0<=page/\page<16)(cap:Nat)(a:Option Addr):
  Calls Tryx.prog 33 #[ptr q,.int .i64 page,.slice a 4 cap] w fun x w'=>x=.returned (.tuple #[.int .i64 0,plErr 4 (-1) 0])/\Below w.heap.size w w':=by
 refine (plWrite_of q (.slice a 4 cap) page 4 (-1) 0 w (fun X err w'=>X=.int .i64 0/\err=errK 4/\w'=w.alloc zErr) ?_ ?_).mono ?_
 ·exact (write_full_c (h.alloc zErr) hh page hp cap a).mono fun x w' ⟨h1,h2⟩=>⟨_,_,h1,rfl,rfl,h2⟩
 ·rintro X err w' ⟨rfl,rfl,rfl⟩
  exact⟨hg.alloc _,.kind 4 (by omega),zErr_alloc w⟩
 ·rintro x w' ⟨X,err,w1,rfl,⟨rfl,rfl,rfl⟩,hc⟩
  exact⟨rfl,Chg.below (((Chg.refl (fun _=>False) w).alloc _).trans (hc.mono fun k _ hk=>.inr (by omega)))⟩
theorem complete_no_p(h:QT w q t F)(hg:ErrVar w)(k:Int)(fault:Bool)(hk:k<0\/(t.cs.length:Int)<=k):
  Calls Tryx.prog 19 #[ptr q,.int .i64 k,.bool fault] w fun x w'=>x=.returned (plErr 10 (-1) 0)/\Below w.heap.size w w':=by
 refine (plComplete_of q fault k 10 (-1) 0 w (fun err w'=>err=errK 10/\Below (w.alloc zErr).heap.size (w.alloc zErr) w') ?_ ?_).mono ?_
 ·exact (complete_no_c (h.alloc zErr) k fault hk).mono fun x w' ⟨h1,h2⟩=>⟨_,h1,rfl,h2⟩
 ·rintro err w' ⟨rfl,h2⟩
  exact⟨(hg.alloc _).chg (chgB h2 fun _=>False) fun x=>x,.kind 10 (by omega),(h2.block _ (by simp)).trans (zErr_alloc w)⟩
 ·rintro x w' ⟨err,w1,rfl,⟨rfl,h2⟩,hc⟩
  exact⟨rfl,Chg.below (chg_two (F:=fun _=>False) (chgB h2 _) hc (fun _ x=>x) fun k hk=>.inr (by omega))⟩
theorem complete_p(h:QT w q t F)(hk:t.Ok)(hs:t.Small)(hg:ErrVar w)(hF:¬F 0)(k:Nat)(fault:Bool)(t':St)(hc:t.complete k fault=some t'):
  Calls Tryx.prog 19 #[ptr q,.int .i64 k,.bool fault] w fun x w'=>x=.returned (plErr 0 (-1) 0)/\QT w' q t' F/\Chg F w w':=by
 refine (plComplete_of q fault k 0 (-1) 0 w (fun err w'=>err=.nilIface/\QT w' q t' (fun k=>F k/\k<w.heap.size)/\Chg (fun k=>F k/\k<w.heap.size) (w.alloc zErr) w') ?_ ?_).mono ?_
 ·exact (complete_c (h.alloc zErr) hk hs k fault t' hc).mono fun x w' ⟨h1,h2,h3⟩=>⟨_,h1,rfl,h2,h3⟩
 ·rintro err w' ⟨rfl,h1,h2⟩
  exact⟨(hg.alloc _).chg h2 fun x=>hF x.1,.nil,(h2.block _ (by simp) (by omega)).trans (zErr_alloc w)⟩
 ·rintro x w' ⟨err,w1,rfl,⟨rfl,h1,h2⟩,hc⟩
  exact⟨rfl,(h1.kept hc fun k hk e=>by omega).mono fun k hk=>hk.1,chg_two h2 hc (fun k x=>x.1) fun k hk=>.inr (by omega)⟩
end
end
section
open Go.RowKit Go.Shelf Go.Lib
set_option maxRecDepth 100000
structure KReq where
 num:Int
 write:Bool
 page:Int
 data:ByteArray
 how:Int
 read:ByteArray
def kCells(r:KReq):List Value:=[.int .i64 r.num,.bool r.write,.int .i64 r.page,.string r.data,.int .i64 r.how,.string r.read]
structure KB(w:World)(wo q:Nat)(rv:Value)(F:Nat->Prop)(t:St)(rs:List KReq):Prop where
 blk:w.heap[wo]?=some (.cells #[ptr q,rv] 36 (0,0))
 row:w.ownsRow 0 32 6 rv rs.length (rs.flatMap kCells)
 que:QT w q t F
 now:¬F wo
 nor:∀ k,rv.ownBlock=some k->¬F k
def KFoot(wo:Nat)(rv:Value)(F:Nat->Prop)(k:Nat):Prop:=F k\/k=wo\/rv.ownBlock=some k
theorem KB.kept{w W:World}{wo q:Nat}{rv:Value}{F:Nat->Prop}{t:St}{rs:List KReq}(h:KB w wo q rv F t rs){S:Nat->Prop}(hc:Chg S w W)(hS:∀ k,KFoot wo rv F k->¬S k):KB W wo q rv F t rs:=
 ⟨(hc.block _ (lt_of_heap h.blk) (hS _ (.inr (.inl rfl)))).trans h.blk,ownsRow_chg h.row hc fun k hk=>hS k (.inr (.inr hk)),h.que.kept hc fun k hk=>hS k (.inl hk),h.now,h.nor⟩
theorem KB.below{w W:World}{wo q:Nat}{rv:Value}{F:Nat->Prop}{t:St}{rs:List KReq}(h:KB w wo q rv F t rs)(hb:Below w.heap.size w W):KB W wo q rv F t rs:=h.kept (chgB hb fun _=>False) fun _ _ x=>x
theorem KB.ne{w:World}{wo q:Nat}{rv:Value}{F:Nat->Prop}{t:St}{rs:List KReq}(h:KB w wo q rv F t rs){k:Nat}(hk:rv.ownBlock=some k):wo≠k:=by
 obtain⟨cur,hc⟩:=own_heap h.row hk
 exact ne_of_heap h.blk hc (by simp)
theorem KB.que'{w W:World}{wo q:Nat}{rv:Value}{F F':Nat->Prop}{t t':St}{rs:List KReq}(h:KB w wo q rv F t rs)(hc:Chg F w W)(hq:QT W q t' F')(hF:∀ k,F' k->F k\/w.heap.size<=k):KB W wo q rv F' t' rs:=
 ⟨(hc.block _ (lt_of_heap h.blk) h.now).trans h.blk,ownsRow_chg h.row hc h.nor,hq,fun hk=>(hF _ hk).elim h.now fun hl=>by have:=lt_of_heap h.blk;omega,fun k hk hk2=>(hF _ hk2).elim (h.nor k hk) fun hl=>by
   obtain⟨cur,hcur⟩:=own_heap h.row hk
   have:=lt_of_heap hcur;omega⟩
theorem KB.c0{w:World}{wo q:Nat}{rv:Value}{F:Nat->Prop}{t:St}{rs:List KReq}(h:KB w wo q rv F t rs):w.cell? ⟨wo,0,none⟩=some (ptr q):=cell_of h.blk rfl
theorem KB.c1{w:World}{wo q:Nat}{rv:Value}{F:Nat->Prop}{t:St}{rs:List KReq}(h:KB w wo q rv F t rs):w.cell? ⟨wo,1,none⟩=some rv:=cell_of h.blk rfl
theorem KB.free{w:World}{wo q:Nat}{rv:Value}{F:Nat->Prop}{t:St}{rs:List KReq}(h:KB w wo q rv F t rs)(i:Nat):w.frozen? ⟨wo,i,none⟩=false:=free_of h.blk
theorem KB.lt{w:World}{wo q:Nat}{rv:Value}{F:Nat->Prop}{t:St}{rs:List KReq}(h:KB w wo q rv F t rs):KB w wo q rv (fun k=>F k/\k<w.heap.size) t rs:=
 ⟨h.blk,h.row,h.que.lt,fun hk=>h.now hk.1,fun k hk hk2=>h.nor k hk hk2.1⟩
theorem begun_any(d:Int)(w:World)(hg:ErrVar w)(hd:-9223372036854775808<=d/\d<=9223372036854775807):
  Calls Tryx.prog 12 #[.int .i64 d] w fun x w'=>∃ wo q F,x=.returned (.tuple #[ptr wo,.bool true])/\KB w' wo q (.slice none 0 0) F (St.new (1+pickI d 4).toNat) []/\(∀ k,F k->w.heap.size<=k)/\w.heap.size<=wo/\Below w.heap.size w w':=by
 have hp:=pickI_lt d (n:=4) (by omega)
 obtain⟨n,hn⟩:∃ n:Nat,1+pickI d 4=(n:Int):=⟨(1+pickI d 4).toNat,by omega⟩
 have hw1:IntKind.i64.wrap (1+pickI d 4)=(n:Int):=by rw[IntKind.wrap_i64];omega
 have hn1:1<=n/\n<=4:=by omega
 rw[show (1+pickI d 4).toNat=n from by omega]
 have hge:=lt_of_cell hg
 have HG:=Lib.hid hg
 clear hg hn
 go_enter Tryx.func12,Tryz.ntmps12
 go_wp2_with fail
 refine (pick_any d 4 w hd (by omega)).mono ?_
 rintro x w' ⟨rfl,rfl⟩
 go_wp2_with fail
 refine (new_p n w' HG.out hn1).mono ?_
 rintro x w1 ⟨q,rfl,hq,hB⟩
 have HQ:=Lib.hid hq
 have HB:=Lib.hid hB
 clear hq hB
 go_wp2_with fail
 refine (fine_yes _).mono ?_
 rintro x w2 ⟨rfl,hB2⟩
 have HB2:=Lib.hid hB2
 clear hB2
 go_wp2_with fail
 go_ret2
 have hb2:Below w1.heap.size w1 w2:=((Below.refl _ _).alloc (Nat.le_refl _) _).trans (HB2.out.mono (by simp))
 have hq2:QT (w2.alloc (.cells #[ptr q,.slice none 0 0] 36)) q (St.new n) fun k=>w'.heap.size<k/\k<w1.heap.size:=HQ.out.lt.below (hb2.alloc hb2.size _)
 have hz1:=hb2.size
 have hz2:=HB.out.size
 refine⟨w2.heap.size,q,fun k=>w'.heap.size<k/\k<w1.heap.size,rfl,⟨World.alloc_heap_new w2 _,World.ownsRow_nil _ _ _ _,hq2,fun h=>by omega,fun k hk=>by cases hk⟩,fun k hk=>by omega,by omega,(HB.out.trans (hb2.mono hz2)).alloc (by omega) _⟩
theorem KB.push{W4 W w5:World}{wo q n:Nat}{ra:Option Addr}{rc gg cap2:Nat}{F:Nat->Prop}{t:St}{rs:List KReq}{r:KReq}(h:KB W4 wo q (.slice ra n rc) F t rs)(hn:rs.length=n)(hW:Below W4.heap.size W4 W)
  (hown:w5.ownsRow 0 32 6 (.slice (some ⟨gg,0,none⟩) (n+1) cap2) (n+1) (rs.flatMap kCells ++ kCells r)) (hgrow:W.grownBy w5 (Value.slice ra n rc).ownBlock) (hat:(Value.slice ra n rc).ownBlock=some gg\/gg=W4.heap.size+1):
  KB (w5.setCell ⟨wo,1,none⟩ (.slice (some ⟨gg,0,none⟩) (n+1) cap2)) wo q (.slice (some ⟨gg,0,none⟩) (n+1) cap2) (fun k=>F k/\k<W4.heap.size) t (rs ++ [r])/\
  Chg (fun k=>k=wo\/(Value.slice ra n rc).ownBlock=some k) W4 (w5.setCell ⟨wo,1,none⟩ (.slice (some ⟨gg,0,none⟩) (n+1) cap2)):=by
 have hlt:=lt_of_heap h.blk
 have hc5:Chg (fun k=>(Value.slice ra n rc).ownBlock=some k) W4 w5:=(chgB hW _).grown hgrow fun k hk=>.inl hk
 have hne:wo≠gg:=by
  rcases hat with e | e
  ·exact h.ne e
  ·omega
 have hc6:Chg (fun k=>k=wo\/(Value.slice ra n rc).ownBlock=some k) W4 (w5.setCell ⟨wo,1,none⟩ (.slice (some ⟨gg,0,none⟩) (n+1) cap2)):=(hc5.mono fun _ _ h=>.inr h).then ((chg_set _).mono fun _ _ h=>.inl h)
 refine⟨⟨?_,?_,h.que.lt.kept hc6 fun k hk hh=>?_,fun hk=>h.now hk.1,fun k hk hk2=>?_⟩,hc6⟩
 ·have:w5.heap[wo]?=W4.heap[wo]?:=hc5.block _ hlt fun e=>h.ne e rfl
  exact heap_setCell (i:=1) _ (this.trans h.blk)
 ·rw[List.flatMap_append,List.length_append,hn]
  have hx:=ownsRow_chg hown (S:=fun k=>k=wo) (W:=w5.setCell ⟨wo,1,none⟩ (.slice (some ⟨gg,0,none⟩) (n+1) cap2)) (chg_set _) fun k hk e=>by
   simp[Value.ownBlock]at hk;omega
  simpa using hx
 ·rcases hh with e | e
  ·exact h.now (e ▸ hk.1)
  ·exact h.nor k e hk.1
 ·simp[Value.ownBlock]at hk
  subst hk
  rcases hat with e | e
  ·exact h.nor gg e hk2.1
  ·omega
def newK(n:Int)(write:Bool)(page:Int)(d:ByteArray):KReq:=⟨n,write,page,d,0,⟨#[]⟩⟩
theorem Tryz.infoQ:(Tryx.prog.info? 32).map (fun i=>(i.zero,i.size,i.bytes))=some (some (.agg #[.int .i64 0,.bool false,.int .i64 0,.string ⟨#[]⟩,.int .i64 0,.string ⟨#[]⟩]),6,64):=by kernel_rfl
theorem ask_read(wo q:Nat)(rv:Value)(F:Nat->Prop)(t:St)(rs:List KReq)(w:World)(page v:Int)(h:KB w wo q rv F t rs)(hg:ErrVar w)(hF:¬F 0)(_hw0:wo≠0)(hr0:rv.ownBlock≠some 0)(hk:t.Ok)(hs:t.Small)(hh:t.held<40)(hp:0<=page/\page<16)(hl:t.last=rs.length):
  Calls Tryx.prog 14 #[ptr wo,.bool false,.int .i64 page,.int .u8 v] w fun x w'=>x=.returned (.bool true)/\∃ rv' F',KB w' wo q rv' F' (t.add false page ⟨0,0,0,0⟩) (rs ++ [newK (t.last+1) false page ⟨#[]⟩])/\(∀ k,KFoot wo rv' F' k->KFoot wo rv F k\/w.heap.size<=k)/\Chg (KFoot wo rv F) w w':=by
 have h:=h.lt
 obtain⟨ra,rc,rfl⟩:=own_slice h.row
 obtain⟨n,hn⟩:∃ n,rs.length=n:=⟨_,rfl⟩
 obtain⟨W0,hW0⟩:∃ W0,w.alloc (.cells #[.int .i64 0,.bool false,.int .i64 page,.string ⟨#[]⟩,.int .i64 0,.string ⟨#[]⟩] 32)=W0:=⟨_,rfl⟩
 have hB0:Below w.heap.size w W0:=by rw[<-hW0];exact (Below.refl _ _).alloc (Nat.le_refl _) _
 have hr0':W0.heap[w.heap.size]?=some (.cells #[.int .i64 0,.bool false,.int .i64 page,.string ⟨#[]⟩,.int .i64 0,.string ⟨#[]⟩] 32 (0,0)):=by rw[<-hW0];exact World.alloc_heap_new w _
 have hK0:=h.below hB0
 have c0:=h.c0
 have c1:=h.c1
 have HK:=Lib.hid h
 have HK0:=Lib.hid hK0
 have HG:=Lib.hid (hg.chg (chgB hB0 fun _=>False) fun x=>x)
 have HB0:=Lib.hid hB0
 have HR0:=Lib.hid hr0'
 have hwlt:=lt_of_heap h.blk
 have hwlt0:=lt_of_heap hK0.blk
 have hs0:W0.heap.size=w.heap.size+1:=by rw[<-hW0];simp
 have HW0:=Lib.hid hW0
 clear h hg hB0 hr0' hK0 hW0
 go_enter Tryx.func14,Tryz.ntmps14
 go_wp2_with fail
 rw[HW0.out]
 refine (read_p HK0.out.que hk hs HG.out (fun x=>hF x.1) hh page hp).mono ?_
 rintro x w1 ⟨rfl,hq1,hc1⟩
 have hr1:=(hc1.block w.heap.size (by omega) (by omega)).trans HR0.out
 have r0:w1.cell? ⟨w.heap.size,0,none⟩=some (.int .i64 0):=cell_of hr1 rfl
 have r1:w1.cell? ⟨w.heap.size,1,none⟩=some (.bool false):=cell_of hr1 rfl
 have r2:w1.cell? ⟨w.heap.size,2,none⟩=some (.int .i64 page):=cell_of hr1 rfl
 have r3:w1.cell? ⟨w.heap.size,3,none⟩=some (.string ⟨#[]⟩):=cell_of hr1 rfl
 have r4:w1.cell? ⟨w.heap.size,4,none⟩=some (.int .i64 0):=cell_of hr1 rfl
 have r5:w1.cell? ⟨w.heap.size,5,none⟩=some (.string ⟨#[]⟩):=cell_of hr1 rfl
 have rf:∀ i,w1.frozen? ⟨w.heap.size,i,none⟩=false:=fun i=>free_of hr1
 have hK1:=HK0.out.que' hc1 hq1 fun k hk=>hk.imp id fun h=>by omega
 have hrl:=lt_of_heap hr1
 have d0:=hK1.c0
 have d1:=hK1.c1
 have df:=hK1.free
 have HK1:=Lib.hid hK1
 have HC1:=Lib.hid hc1
 have HR1:=Lib.hid hr1
 clear hK1 hc1 hr1 hq1
 go_wp2_with fail
 obtain⟨W2,hW2⟩:∃ W2,(w1.setCell ⟨w.heap.size,0,none⟩ (.int .i64 (n+1))).alloc (.cells #[.int .i64 0,.int .i64 (-1),.int .i64 0,.bool true] 39)=W2:=⟨_,rfl⟩
 have hc2:Chg (fun k=>k=w.heap.size) w1 W2:=by rw[<-hW2];exact (chg_set _).alloc _
 have hr2:W2.heap[w.heap.size]?=some (.cells #[.int .i64 (n+1),.bool false,.int .i64 page,.string ⟨#[]⟩,.int .i64 0,.string ⟨#[]⟩] 32 (0,0)):=by
  rw[<-hW2]
  exact (Below.heap_alloc _ _ _ (by simpa[World.setCell]using hrl)).trans (heap_setCell (i:=0) _ HR1.out)
 have hK2:=HK1.out.kept hc2 fun k hk e=>by
  rcases hk with h | h | h
  ·rcases h with ⟨_,h⟩ | h <;> omega
  ·omega
  ·obtain⟨cur,hcur⟩:=own_heap HK.out.row h
   have:=lt_of_heap hcur;omega
 rw[hW2]
 have HK2:=Lib.hid hK2
 have HR2:=Lib.hid hr2
 have HC2:=Lib.hid hc2
 clear hK2 hr2 hc2 hW2 r0 r1 r2 r3 r4 r5 rf d0 d1 df
 refine (fine_yes W2).mono ?_
 rintro x w3 ⟨rfl,hB3⟩
 have hr3:=(hB3.block _ (lt_of_heap HR2.out)).trans HR2.out
 have hK3:=HK2.out.below hB3
 have d0:=hK3.c0
 have d1:=hK3.c1
 have df:=hK3.free
 have r0:w3.cell? ⟨w.heap.size,0,none⟩=some (.int .i64 (n+1)):=cell_of hr3 rfl
 have r1:w3.cell? ⟨w.heap.size,1,none⟩=some (.bool false):=cell_of hr3 rfl
 have r2:w3.cell? ⟨w.heap.size,2,none⟩=some (.int .i64 page):=cell_of hr3 rfl
 have r3:w3.cell? ⟨w.heap.size,3,none⟩=some (.string ⟨#[]⟩):=cell_of hr3 rfl
 have r4:w3.cell? ⟨w.heap.size,4,none⟩=some (.int .i64 0):=cell_of hr3 rfl
 have r5:w3.cell? ⟨w.heap.size,5,none⟩=some (.string ⟨#[]⟩):=cell_of hr3 rfl
 have hwlt3:=lt_of_heap hK3.blk
 have hrl3:=lt_of_heap hr3
 have hrow:=hK3.row
 have hneb:∀ k,(Value.slice ra n rc).ownBlock=some k->wo≠k:=fun k hk=>by
  rw[<-hn]at hk;exact hK3.ne hk
 rw[hn]at d1 hrow
 have hwn:IntKind.i64.wrap ((n:Int)+1)=(n:Int)+1:=by
  have:=hs.last
  rw[IntKind.wrap_i64];omega
 have HK3:=Lib.hid hK3
 have HB3:=Lib.hid hB3
 clear hK3 hB3 hr3
 go_wp2_with fail
 go_quiet (fail)
 go_wp2_with fail
 obtain⟨W4,hW4⟩:∃ W4,w3.drewN nq=W4:=⟨_,rfl⟩
 have hB4:Below w3.heap.size w3 W4:=by rw[<-hW4];exact below_drewN (Below.refl _ _) _
 have hK4:=HK3.out.below hB4
 have hr4:=(hB4.block _ hrl3).trans ((HB3.out.block _ (lt_of_heap HR2.out)).trans HR2.out)
 have d0':=hK4.c0
 have d1':=hK4.c1
 have df':=hK4.free
 have u0:W4.cell? ⟨w.heap.size,0,none⟩=some (.int .i64 (n+1)):=cell_of hr4 rfl
 have u1:W4.cell? ⟨w.heap.size,1,none⟩=some (.bool false):=cell_of hr4 rfl
 have u2:W4.cell? ⟨w.heap.size,2,none⟩=some (.int .i64 page):=cell_of hr4 rfl
 have u3:W4.cell? ⟨w.heap.size,3,none⟩=some (.string ⟨#[]⟩):=cell_of hr4 rfl
 have u4:W4.cell? ⟨w.heap.size,4,none⟩=some (.int .i64 0):=cell_of hr4 rfl
 have u5:W4.cell? ⟨w.heap.size,5,none⟩=some (.string ⟨#[]⟩):=cell_of hr4 rfl
 have hrow4:=hK4.row
 rw[hn]at d1' hrow4
 have hwlt4:=lt_of_heap hK4.blk
 have hrl4:=lt_of_heap hr4
 have HK4:=Lib.hid hK4
 have HB4:=Lib.hid hB4
 rw[hW4]
 clear hW4 hK4 hB4 hr4 d0 d1 df r0 r1 r2 r3 r4 r5
 obtain⟨i4,hi4,hz40,hz41,hz42⟩:=info_parts Tryz.infoQ
 have ag:(Value.slice ra n rc).ownBlock≠some wo:=fun h=>hneb wo h rfl
 have hnl:n<=900000:=by have:=hs.last;omega
 have n1:=World.new_ne W4 _ d1'
 have n2:=World.new_ne W4 _ u0
 go_region_law
  ((refine step_append_lies _ (by rfl) _ _ _ (by rfl) 0 32 i4 _ 6 64 Tryx.underlying34 hi4 hz40 hz41 hz42 rfl (by omega) (.slice ra n rc) n _ (by rfl) ((hrow4.alloc _).drew)
     ⟨W4.heap.size,0,none⟩ 1 1 [.int .i64 (n+1),.bool false,.int .i64 page,.string ⟨#[]⟩,.int .i64 0,.string ⟨#[]⟩] (by rfl) (by rfl) (World.news_of_block (cs:=#[.int .i64 (n+1),.bool false,.int .i64 page,.string ⟨#[]⟩,.int .i64 0,.string ⟨#[]⟩]) (t:=32) (fr:=(0,0)) (heap_alloc_new W4 _)) (by simp[Value.oneCell'])
     (by omega) (by unfold maxLen;omega) (by omega) (by omega) (W4.heap.size+1) (by simp) ?_;intro gg cap2 w5 hown5 hgrow hat hltg
    have z2:=hgrow.cell (a:=⟨wo,1,none⟩) (v:=.slice ra n rc) (by go_keep) (fun h=>ag h.symm)
    have z3:=grown_free hgrow (a:=⟨wo,1,none⟩) (v:=.slice ra n rc) (by go_keep) (by simp[*,frozen?_alloc_cells]) (fun h=>ag h.symm)))
 all_goals
  have hg1:Below W4.heap.size W4 (((W4.alloc (.cells #[.int .i64 (n+1),.bool false,.int .i64 page,.string ⟨#[]⟩,.int .i64 0,.string ⟨#[]⟩] 32)).drew)):=by go_grown
  have hKB:KB W4 wo q (.slice ra n rc) _ _ rs:=hn ▸ HK4.out
  obtain⟨f1,f2⟩:=hKB.push hn hg1 (r:=newK (n+1) false page ⟨#[]⟩) hown5 hgrow hat
  have HF1:=Lib.hid f1
  have HF2:=Lib.hid f2
  clear f1 f2 hKB hg1 hown5 hgrow
  go_wp2_with fail
  go_ret
  refine⟨rfl,.slice (some ⟨gg,0,none⟩) (n+1) cap2,_,HF1.out,?_,?_⟩
  ·rintro k (h | h | h)
   ·rcases h.1 with h | h
    ·exact .inl (.inl h.1)
    ·exact .inr (by omega)
   ·exact .inl (.inr (.inl h))
   ·simp[Value.ownBlock]at h
    subst h
    rcases hat with e | e
    ·exact .inl (.inr (.inr e))
    ·exact .inr (by have:=HB4.out.size;have:=HB3.out.size;have:=HC2.out.size;omega)
  ·have g1:Chg (KFoot wo (.slice ra n rc) F) w w1:=(chgB HB0.out _).then (HC1.out.mono fun k _ hk=>.inl hk.1)
   have g2:Chg (KFoot wo (.slice ra n rc) F) w W4:=((g1.trans (HC2.out.mono fun k _ hk=>.inr (by omega))).of_below HB3.out).of_below HB4.out
   exact g2.then (HF2.out.mono fun k _ hk=>hk.elim (fun e=>.inr (.inl e)) fun e=>.inr (.inr e))
end
end Go.Proofs.YticobikhndlejaaGreatDoor
