/- Part 18 of the proof (see the last part). -/
import Derived.Test.YticobikhndlejaaGreatDoorOrQ
import Derived.Shelf.Sort.Plain
import Derived.Shelf.Slices.In.SortNone
namespace Go.Proofs.YticobikhndlejaaGreatDoor
section
open Go.RowKit Go.Shelf Go.Lib
set_option maxRecDepth 100000
set_option maxHeartbeats 8000000
structure CmdsAt(w:World)(base:Nat)(v:Value)(cs:List (Cmd×Value)):Prop where
 row:w.ownsRow base 48 4 v cs.length (cs.flatMap cmdCells)
 rows:∀ c∈cs,w.ownsRow base 3 1 c.2 c.1.nums.length (c.1.nums.map fun n=>Value.int .i64 n)
 apart:cs.Pairwise fun a b=>∀ k,a.2.ownBlock=some k->b.2.ownBlock≠some k
theorem flat4{cs:List (Cmd×Value)}{j:Nat}{c:Cmd×Value}(h:cs[j]?=some c):∀ i v,(cmdCells c)[i]?=some v->(cs.flatMap cmdCells)[j*4+i]?=some v:=by
 induction cs generalizing j with
 | nil=>simp at h
 | cons x cs ih=>
   intro i v hv
   have hi:i<4:=(List.getElem?_eq_some_iff.1 hv).1
   cases j with
   | zero=>
     simp at h
     subst h
     rw[List.flatMap_cons,List.getElem?_append_left (by simp[cmdCells];omega)]
     simpa using hv
   | succ j=>
     rw[List.flatMap_cons,List.getElem?_append_right (by simp[cmdCells];omega)]
     have:=ih (by simpa using h) i v hv
     rw[show (j+1)*4+i - (cmdCells x).length=j*4+i from by simp[cmdCells];omega]
     exact this
theorem cmd_cells{w:World}{base:Nat}{v:Value}{cs:List (Cmd×Value)}(h:w.ownsRow base 48 4 v cs.length (cs.flatMap cmdCells)){j:Nat}{c:Cmd×Value}(hj:cs[j]?=some c):∃ g cap,v=.slice (some ⟨g,0,none⟩) cs.length cap/\base<=g/\g<w.heap.size/\∀ i x,(cmdCells c)[i]?=some x->w.cell? ⟨g,j*4+i,none⟩=some x:=by
 have hjl:=(List.getElem?_eq_some_iff.1 hj).1
 rcases h.2 with ⟨_,h0⟩ |⟨g,cap,cur,e,hb,h3,h4,h5,h6,h7⟩
 ·omega
 ·refine⟨g,cap,e,hb,lt_of_heap h3,fun i x hx=>cell_of h3 ?_⟩
  have hi:i<4:=(List.getElem?_eq_some_iff.1 hx).1
  have h1:=flat4 hj i x hx
  rw[<-h7,List.getElem?_take_of_lt (by omega)]at h1
  rw[<-Array.getElem?_toList];exact h1
theorem flights_any(q:Nat)(s:Sta)(F:Nat->Prop)(w:World)(h:QAt w q s F)(hl:∀ c∈s.cs,c.1.nums.length<=1000000)(hcl:s.cs.length<=1000):
  Calls Tryx.prog 22 #[ptr q] w fun x w'=>∃ v cs',x=.returned v/\cs'.map (·.1)=s.cs.map (·.1)/\CmdsAt w' w.heap.size v cs'/\Below w.heap.size w w':=by
 obtain⟨tb,mb,clock,fv,hq,hF⟩:=h
 obtain⟨fa,fc,rfl⟩:=own_slice hq.fl
 have c2:=hq.c2
 obtain⟨n,hn⟩:∃ n,s.cs.length=n:=⟨_,rfl⟩
 rw[hn]at c2
 have HQ:=Lib.hid hq
 have HL:=Lib.hid hl
 obtain⟨i0,hi,hz0,hz1,hz2⟩:=info_parts Tryz.infoC
 clear hq hF hl
 go_enter Tryx.func22,Tryz.ntmps22
 go_wp2_with fail
 go_loopg [3,11] n (fun k out i wr=>∃ (j:Nat) (cs':List (Cmd×Value)),k=n - j/\j<=n/\i=.int .i64 j/\cs'.length=j/\Hid (cs'.map (·.1)=(s.cs.take j).map (·.1))/\CmdsAt wr w.heap.size out cs'/\Below w.heap.size w wr)
 case atStart=>exact ⟨0,[],by simp,by omega,rfl,rfl,Lib.hid (by simp),⟨World.ownsRow_nil _ _ _ _,(fun _ h=>by cases h),List.Pairwise.nil⟩,Below.refl _ _⟩
 case round=>
  obtain⟨j,cs',rfl,hj,rfl,hlen,hM,hC,hB⟩:=hrel
  by_cases hlt:j<n
  ·have hltI:(j:Int)<(n:Int):=by omega
   obtain⟨⟨c,cv⟩,hc⟩:∃ c,s.cs[j]?=some c:=⟨_,List.getElem?_eq_getElem (by omega)⟩
   have hQ:=HQ.out.kept (chgB hB fun _=>False) fun _ _ x=>x
   have hcm:(c,cv)∈s.cs:=List.mem_of_getElem? hc
   have hrow:=hQ.rows _ hcm
   obtain⟨va,vc,rfl⟩:∃ va vc,cv=.slice va c.nums.length vc:=own_slice hrow
   obtain⟨g,cap,e,_,hgl,hcell⟩:=cmd_cells hQ.fl hc
   simp only[Value.slice.injEq]at e
   obtain⟨rfl,_,rfl⟩:=e
   have p0:wr.cell? ⟨g,j*4,none⟩=some (.bool c.write):=hcell 0 _ rfl
   have p1:wr.cell? ⟨g,j*4+1,none⟩=some (.int .i64 c.page):=hcell 1 _ rfl
   have p2:wr.cell? ⟨g,j*4+2,none⟩=some (.int .i64 c.count):=hcell 2 _ rfl
   have p3:wr.cell? ⟨g,j*4+3,none⟩=some (.slice va c.nums.length vc):=hcell 3 _ rfl
   have hll:=HL.out _ hcm
   have hW:∀ W,Below wr.heap.size wr W->Calls Tryx.prog 39 #[.agg #[.bool c.write,.int .i64 c.page,.int .i64 c.count,.slice va c.nums.length vc]] W fun e w'=>∃ v',e=.returned (.agg #[.bool c.write,.int .i64 c.page,.int .i64 c.count,v'])/\w'.ownsRow W.heap.size 3 1 v' c.nums.length (c.nums.map fun n=>Value.int .i64 n)/\Below W.heap.size W w':=
    fun W hb=>clone_any c.write c.page c.count _ c.nums W (ownsRow_chg hrow (chgB hb fun _=>False) fun _ _ x=>x) hll
   have HC:=Lib.hid hC
   have HW:=Lib.hid hW
   have HCC:=Lib.hid hc
   clear hcell hQ hC hrow hc hW hcm hll
   go_wp2_with fail
   refine (HW.out _ (by go_grown)).mono ?_
   rintro x w2 ⟨v',rfl,hr2,hb2⟩
   obtain⟨va',vc',rfl⟩:=own_slice hr2
   have hb2':Below wr.heap.size wr w2:=((Below.refl _ _).alloc (Nat.le_refl _) _).trans (hb2.mono (by simp))
   have hB2:Below w.heap.size w w2:=hB.trans (hb2'.mono hB.size)
   have hC2:CmdsAt w2 w.heap.size u3 cs':=⟨ownsRow_chg HC.out.row (chgB hb2' fun _=>False) (fun _ _ x=>x),(fun d hd=>ownsRow_chg (HC.out.rows d hd) (chgB hb2' fun _=>False) fun _ _ x=>x),HC.out.apart⟩
   have hsz:=hb2'.size
   have hszB:=hB.size
   have hrow0:=hC2.row
   rw[hlen]at hrow0
   have HC2:=Lib.hid hC2
   have HR2:=Lib.hid hr2
   clear hC2 hr2
   go_wp2_with (at_builtin;refine wpList_append_own _ rfl _ _ 55 rfl w.heap.size 48 i0 (.agg #[.bool false,.int .i64 0,.int .i64 0,.slice none 0 0]) 4 48 Tryx.underlying55 hi hz0 hz1 hz2 rfl (by decide) _ _ _ rfl (hrow0.alloc _) ⟨w2.heap.size,0,none⟩ 1 1 [.bool c.write,.int .i64 c.page,.int .i64 c.count,.slice va' c.nums.length vc'] rfl rfl (World.news_of_block (World.alloc_heap_new w2 _)) (by simp[Value.oneCell']) ?_ ?_ ?_ ?_)
   ·unfold maxLen;omega
   ·omega
   ·simp;omega
   intro v'' w3 hown' hgrow _
   have hc3:Chg (fun k=>u3.ownBlock=some k) w2 w3:=((Chg.refl _ w2).alloc _).grown hgrow fun k hk=>.inl hk
   have hB3:Below w.heap.size w w3:=(hB2.alloc hB2.size _).grown hgrow (by have:=hB2.size;simp;omega) (fun k ek=>(hrow0.lt k ek).1)
   have hkeep:∀ (v:Value) (ns:List Int) (b:Nat),w2.ownsRow b 3 1 v ns.length (ns.map fun n=>Value.int .i64 n)->w3.ownsRow b 3 1 v ns.length (ns.map fun n=>Value.int .i64 n):=fun v ns b hv=>ownsRow_chg hv hc3 fun k hk hh=>by
    obtain⟨cur1,e1⟩:=own_heap hv hk
    obtain⟨cur2,e2⟩:=own_heap hrow0 hh
    rw[e1]at e2
    cases e2
   have hC3:CmdsAt w3 w.heap.size v'' (cs' ++ [(c,.slice va' c.nums.length vc')]):=by
    refine⟨?_,fun d hd=>?_,?_⟩
    ·rw[List.flatMap_append,List.length_append,hlen]
     simpa[cmdCells]using hown'
    ·rcases List.mem_append.1 hd with hd | hd
     ·exact hkeep _ _ _ (HC2.out.rows d hd)
     ·rw[List.mem_singleton.1 hd]
      exact ownsRow_low (hkeep _ _ _ HR2.out) (by simp;omega)
    ·refine List.pairwise_append.2 ⟨HC2.out.apart,List.pairwise_singleton _ _,fun d hd e he k hk hk2=>?_⟩
     rw[List.mem_singleton.1 he]at hk2
     have h1:=(HR2.out.lt k hk2).1
     have h2:=((HC.out.rows d hd).lt k hk).2
     simp at h1
     omega
   have HC3:=Lib.hid hC3
   clear hown' hgrow hC3 hkeep hc3 hrow0
   go_wp2
   go_roundg (n - (j+1))
   case measure=>omega
   case rel=>exact ⟨j+1,_,rfl,by omega,by go_num,by simp[hlen],Lib.hid (by rw[List.take_succ_eq_append_getElem (by omega),List.map_append,List.map_append,hM.out,(List.getElem?_eq_some_iff.1 HCC.out).2];rfl),HC3.out,hB3⟩
  ·obtain rfl:j=n:=by omega
   have HC:=Lib.hid hC
   clear hC
   go_wp2
   go_ret
   exact⟨_,rfl,cs',by rw[hM.out,List.take_of_length_le (by omega)],HC.out,hB⟩
def BRow(w:World)(v:Value)(l:List Bool):Prop:=w.ownsRow 0 4 1 v l.length (l.map Value.bool)
theorem BRow.cell{w:World}{a:Option Addr}{n c:Nat}{l:List Bool}(h:BRow w (.slice a n c) l){i:Nat}(hi:i<l.length):∃ g,a=some ⟨g,0,none⟩/\n=l.length/\w.cell? ⟨g,i,none⟩=some (.bool (l.getD i false)):=by
 rcases h.2 with ⟨e,h0⟩ |⟨g,cap,cur,e,hb,h3,h4,h5,h6,h7⟩
 ·omega
 ·simp only[Value.slice.injEq]at e
  obtain⟨rfl,rfl,rfl⟩:=e
  refine⟨g,rfl,rfl,cell_of h3 ?_⟩
  have h1:(l.map Value.bool)[i]?=some (.bool (l.getD i false)):=by rw[List.getElem?_map,List.getD_eq_getElem?_getD,List.getElem?_eq_getElem hi];rfl
  rw[<-h7,List.getElem?_take_of_lt (by omega)]at h1
  rw[<-Array.getElem?_toList];exact h1
end
section
open Go.RowKit Go.Shelf Go.Lib
structure Own(w w':World)(G G':Nat->Prop):Prop where
 grow:∀ k,G' k->G k\/w.heap.size<=k
 chg:Chg G w w'
theorem Own.below{w w':World}(h:Below w.heap.size w w')(G:Nat->Prop):Own w w' G G:=⟨fun _ h=>.inl h,chgB h _⟩
theorem Own.trans{w w1 w2:World}{G G1 G2:Nat->Prop}(h:Own w w1 G G1)(k:Own w1 w2 G1 G2):Own w w2 G G2:=
 ⟨fun x hx=>(k.grow x hx).elim (h.grow x) fun hs=>.inr (Nat.le_trans h.chg.size hs),h.chg.trans (k.chg.mono fun x _ hx=>h.grow x hx)⟩
theorem BRow.chg{w W:World}{v:Value}{l:List Bool}(h:BRow w v l){S:Nat->Prop}(hc:Chg S w W)(hn:∀ k,v.ownBlock=some k->¬S k):BRow W v l:=ownsRow_chg h hc hn
structure DR(f:Nat->Bool)(t:St)(n:Nat)(T:St):Prop where
 ok:T.Ok
 eq:T.drive f n=t.drive f 0
 last:T.last=t.last
 now:T.now+T.mu<=t.now+t.mu
 cnt:n+T.mu<=t.mu
theorem DR.start{f:Nat->Bool}{t:St}(h:t.Ok):DR f t 0 t:=⟨h,rfl,rfl,Int.le_refl _,by omega⟩
theorem mu_lt{t:St}(h:t.Ok)(hl:t.last<900000):t.mu<90000000:=by
 have h1:=mu_le h h.a.soon
 have h2:=ok_len h
 omega
theorem DR.small{f:Nat->Bool}{t:St}{n:Nat}{T:St}(h:DR f t n T)(hk:t.Ok)(hl:t.last<900000)(hn:t.now<2 ^ 58):T.Small/\n<90000000:=by
 have h1:=mu_lt hk hl
 have h2:=h.now
 have h3:=h.cnt
 exact⟨⟨by rw[h.last];exact hl,by omega⟩,by omega⟩
theorem DR.step{f:Nat->Bool}{t:St}{n:Nat}{T:St}(h:DR f t n T){n':Nat}{T':St}(hd:T.dnext f n=some (n',T')):DR f t n' T'/\T'.mu<T.mu:=by
 have hs:=dnext_step h.ok h.ok.a.soon hd
 have h1:=hs.mu
 have h2:=h.now
 have h3:=h.cnt
 have h4:=hs.now
 have h5:=hs.cnt
 exact⟨⟨hs.ok,(drive_step h.ok h.ok.a.soon hd).symm.trans h.eq,hs.last.trans h.last,by omega,by omega⟩,h1⟩
theorem dnext_cmd{f:Nat->Bool}{n:Nat}{t:St}{c:Cmd}(h:t.cmd=some c):t.dnext f n=some (n,t.sent c):=by
 unfold St.dnext
 rw[h]
theorem dnext_comp{f:Nat->Bool}{n:Nat}{t t':St}(h:t.cmd=none)(hc:t.complete 0 (f n)=some t'):t.dnext f n=some (n+1,t'):=by
 unfold St.dnext
 rw[h]
 cases hcs:t.cs with
 | nil=>simp [St.complete,hcs]at hc
 | cons c l=>simp only;rw[hc];rfl
theorem dnext_tick{f:Nat->Bool}{n:Nat}{t:St}(h:t.cmd=none)(hcs:t.cs=[])(hw:t.waiting≠[]):t.dnext f n=some (n,t.tick):=by
 unfold St.dnext
 rw[h,hcs]
 simp only
 rw[if_neg hw]
theorem dnext_stop{f:Nat->Bool}{n:Nat}{t:St}(h:t.cmd=none)(hcs:t.cs=[])(hw:t.waiting=[]):t.dnext f n=none:=by
 unfold St.dnext
 rw[h,hcs]
 simp only
 rw[if_pos hw]
theorem DR.stop{f:Nat->Bool}{t:St}{n:Nat}{T:St}(h:DR f t n T)(hd:T.dnext f n=none):t.drive f 0=(n,T):=by
 rw[<-h.eq,drive_end hd]
theorem complete_yes{t:St}(h:t.cs≠[])(fault:Bool):∃ t',t.complete 0 fault=some t':=by
 cases hcs:t.cs with
 | nil=>exact absurd hcs h
 | cons c l=>exact ⟨_,by unfold St.complete;rw[hcs];rfl⟩
theorem QT.fl{w:World}{q:Nat}{t:St}{F:Nat->Prop}(h:QT w q t F):∃ a c,w.cell? ⟨q,2,none⟩=some (.slice a t.cs.length c):=by
 obtain⟨s,⟨tb,mb,clock,fv,h1,_⟩,rfl⟩:=h
 obtain⟨a,c,rfl⟩:=own_slice h1.fl
 exact⟨a,c,by rw[show s.er.cs.length=s.cs.length by simp[Sta.er]];exact cell_of h1.que rfl⟩
end
end Go.Proofs.YticobikhndlejaaGreatDoor
namespace Go.Proofs
section
open Go.Shelf
def Tryz.lays189_ren:Go.Shelf.Ren:=⟨fun | 189=>106 | 125=>123 | 257=>122 | 128=>140 | 129=>141 | 294=>131 | 295=>132 | 296=>133 | 297=>134 | 298=>135 | 299=>136 | 216=>137 | 300=>138 | 301=>139 | 328=>151 | 329=>152 | 330=>153 | 331=>154 | 332=>155 | 215=>156 | 343=>160 | n=>n,fun | 28=>24 | 3=>3 | 46=>220 | 0=>0 | 51=>239 | 53=>241 | 4=>4 | 183=>231 | 182=>230 | 131=>236 | 5=>5 | 9=>9 | 218=>247 | 222=>251 | 228=>255 | 229=>256 | n=>n,fun | n=>n⟩
theorem Tryz.lays189:Go.Proofs.Lays.n189 Tryx.prog Tryz.lays189_ren:={
 mixed:=by kernel_rfl
 f125:=Tryx.func123.trans (congrArg some (by kernel_rfl))
 f128:=Tryx.func140.trans (congrArg some (by kernel_rfl))
 f129:=Tryx.func141.trans (congrArg some (by kernel_rfl))
 f189:=Tryx.func106.trans (congrArg some (by kernel_rfl))
 f215:=Tryx.func156.trans (congrArg some (by kernel_rfl))
 f216:=Tryx.func137.trans (congrArg some (by kernel_rfl))
 f257:=Tryx.func122.trans (congrArg some (by kernel_rfl))
 f294:=Tryx.func131.trans (congrArg some (by kernel_rfl))
 f295:=Tryx.func132.trans (congrArg some (by kernel_rfl))
 f296:=Tryx.func133.trans (congrArg some (by kernel_rfl))
 f297:=Tryx.func134.trans (congrArg some (by kernel_rfl))
 f298:=Tryx.func135.trans (congrArg some (by kernel_rfl))
 f299:=Tryx.func136.trans (congrArg some (by kernel_rfl))
 f300:=Tryx.func138.trans (congrArg some (by kernel_rfl))
 f301:=Tryx.func139.trans (congrArg some (by kernel_rfl))
 f328:=Tryx.func151.trans (congrArg some (by kernel_rfl))
 f329:=Tryx.func152.trans (congrArg some (by kernel_rfl))
 f330:=Tryx.func153.trans (congrArg some (by kernel_rfl))
 f331:=Tryx.func154.trans (congrArg some (by kernel_rfl))
 f332:=Tryx.func155.trans (congrArg some (by kernel_rfl))
 f343:=Tryx.func160.trans (congrArg some (by kernel_rfl))
 t0:=Tryx.underlying0
 a0:=Tryx.isAgg0
 z0:=Tryx.sizeOf0
 v0:=Tryx.zeroValue0
 t3:=Tryx.underlying3
 a3:=Tryx.isAgg3
 z3:=Tryx.sizeOf3
 v3:=Tryx.zeroValue3
 t4:=Tryx.underlying4
 a4:=Tryx.isAgg4
 z4:=Tryx.sizeOf4
 v4:=Tryx.zeroValue4
 t5:=Tryx.underlying5
 a5:=Tryx.isAgg5
 z5:=Tryx.sizeOf5
 v5:=Tryx.zeroValue5
 t9:=Tryx.underlying9
 a9:=Tryx.isAgg9
 z9:=Tryx.sizeOf9
 v9:=Tryx.zeroValue9
 t28:=Tryx.underlying24
 a28:=Tryx.isAgg24
 z28:=Tryx.sizeOf24
 v28:=Tryx.zeroValue24
 t46:=Tryx.underlying220
 a46:=Tryx.isAgg220
 z46:=Tryx.sizeOf220
 v46:=Tryx.zeroValue220
 t51:=Tryx.underlying239
 a51:=Tryx.isAgg239
 z51:=Tryx.sizeOf239
 v51:=Tryx.zeroValue239
 t53:=Tryx.underlying241
 a53:=Tryx.isAgg241
 z53:=Tryx.sizeOf241
 v53:=Tryx.zeroValue241
 t131:=Tryx.underlying236
 a131:=Tryx.isAgg236
 z131:=Tryx.sizeOf236
 v131:=Tryx.zeroValue236
 t182:=Tryx.underlying230
 a182:=Tryx.isAgg230
 z182:=Tryx.sizeOf230
 v182:=Tryx.zeroValue230
 t183:=Tryx.underlying231
 a183:=Tryx.isAgg231
 z183:=Tryx.sizeOf231
 v183:=Tryx.zeroValue231
 t218:=Tryx.underlying247
 a218:=Tryx.isAgg247
 z218:=Tryx.sizeOf247
 v218:=Tryx.zeroValue247
 t222:=Tryx.underlying251
 a222:=Tryx.isAgg251
 z222:=Tryx.sizeOf251
 v222:=Tryx.zeroValue251
 t228:=Tryx.underlying255
 a228:=Tryx.isAgg255
 z228:=Tryx.sizeOf255
 v228:=Tryx.zeroValue255
 t229:=Tryx.underlying256
 a229:=Tryx.isAgg256
 z229:=Tryx.sizeOf256
 v229:=Tryx.zeroValue256}
open Go.Sort Go.RowKit in
theorem Tryz.slices_Sort_int(blk off cap:Nat)(zs:List Int)(w:World)(hH:Holds (Value.int .i64) w blk off zs.toArray)(hblk:blk<w.heap.size)(hsz:zs.length<4611686018427387904):
  Calls Tryx.prog 106 #[.slice (some ⟨blk,off,none⟩) zs.length cap] w fun e w'=>
   e=.returned (.tuple #[])/\∃ n os,w'=grow (putRow (Value.int .i64) (Sort.ahead w n) blk off (zs.mergeSort fun x y=>decide (x<=y)).toArray) os:=Any.slices_Sort_int Tryz.lays189 blk off cap zs w hH hblk hsz
open Go.RowKit Go.Sort in
theorem Tryz.slices_Sort_int_none(p:Option Addr)(cap:Nat)(w:World):
  Calls Tryx.prog 106 #[.slice p 0 cap] w fun e w'=>e=.returned (.tuple #[])/\w'=w:=Any.slices_Sort_int_none Tryz.lays189 p cap w
end
end Go.Proofs
namespace Go.Proofs.YticobikhndlejaaGreatDoor
section
open Go.RowKit Go.Shelf
set_option maxRecDepth 100000
set_option maxHeartbeats 8000000
attribute [local go_sem] Oper.semAt_some
theorem keys1_in(F:Fence)(n:Nat)(hf:F.fn 107)(hro:F.round=none)(hn:1<=n)(l Bm mb clock:Nat)(es:List Ent)(J Jx:List Ent->World->Prop)
  (hY:∀ pre x W,J pre W->pre.length<es.length->YieldAt F (n - 1) Tryx.prog l #[Value.int .i64 x.r.num] W fun e W'=>
    (e=.returned (.bool true)/\J (pre ++ [x]) W'/\KeepsWalks W W')\/(e=.returned (.bool false)/\Jx (pre ++ [x]) W'))
  (W:World) (hJ:AbidesFrom W.heap.size J) (hm:W.cell? ⟨Bm,0,none⟩=some (.map (some mb))) (hmap:W.heap[mb]?=some (mapObj es clock)) (hb:∀ e∈es,e.born<clock) (hnd:(es.map Ent.born).Nodup) (h0:J [] W):
  CallsIn F n Tryx.prog 107 #[.func (.yield l) #[] #[],ptr Bm] W fun e W'=>(∃ v,e=.returned v)/\
   ((∃ xs,xs.Perm es/\J xs W')\/(∃ pre,True/\Jx pre W')):=by
 have hml:=lt_of_heap hmap
 have hrg:=run_range_map (P:=Tryx.prog) (w:=W) Tryx.underlying146 hmap
 refine callsIn_of_wp Tryx.func107 rfl hf ?_ hro
 simp only[Tryz.ntmps107,List.size_toArray,List.length_cons,List.length_nil,Nat.reduceAdd,Nat.reduceSub,Array.replicate_succ,Array.replicate_zero,List.push_toArray,List.append_toArray,List.nil_append,List.cons_append]
 gi_wp2
 gi_loopw [3] (fun _ wr=>∃ vs:List Ent,wr.heap[W.heap.size]?=some (iterObj mb clock (vs.map Ent.born))/\wr.heap[mb]?=some (mapObj es clock)/\(∀ v∈vs,v∈es)/\(vs.map Ent.born).Nodup/\J vs wr)
  (fun _ wr=>iterLeft es.length W.heap.size wr)
 case atStart=>
  refine⟨[],World.alloc_heap_new W _,(Below.heap_alloc _ _ _ hml).trans hmap,by simp,by simp,?_⟩
  exact hJ [] W _ none h0 (World.grownBy_alloc W _ none) (fun r e=>by cases e)
 case round=>
  obtain⟨vs,hI,hM,hve,hvn,hJs⟩:=hrel
  by_cases hl:leftOf es (vs.map Ent.born)=[]
  ·have hnx:=fun ty=>next_over (P:=Tryx.prog) ty _ _ hI hM hb hl
   have hp:=left_perm hve hnd hvn hl
   gi_wp2
   go_end0
   exact⟨⟨_,rfl⟩,.inl ⟨vs,hp,hJs⟩⟩
  ·obtain⟨e,he,w2,hnx,hw2⟩:=next_some (P:=Tryx.prog) 0 _ _ hI hM hb hl
   have hlt:=len_lt_of_left hve hvn he
   have hee:=(List.mem_filter.1 he).1
   have hnb:e.born ∉ vs.map Ent.born:=by simpa using (List.mem_filter.1 he).2
   have hml2:=lt_of_heap hM
   have hil:=lt_of_heap hI
   have hI2:w2.heap[W.heap.size]?=some (iterObj mb clock ((vs ++ [e]).map Ent.born)):=by
    rcases hw2 with rfl | rfl
    ·rw[World.putObj_heap_same hil];simp
    ·rw[World.putObj_heap_same (by simpa using hil)];simp
   have hM2:w2.heap[mb]?=some (mapObj es clock):=by
    rcases hw2 with rfl | rfl <;> rw[World.putObj_heap_other (by omega)]
    ·exact hM
    ·exact hM
   have hg2:wr.grownBy w2 (some W.heap.size):=by
    rcases hw2 with rfl | rfl
    ·exact grownBy_putObj' _ _ _
    ·exact⟨rfl,rfl,rfl,by simp,fun k _ hk=>World.putObj_heap_other (fun e=>hk (by rw[e]))⟩
   have hJ2:J vs w2:=hJ vs wr w2 (some W.heap.size) hJs hg2 (fun r e=>by cases e;exact⟨Nat.le_refl _,_,hI,rfl⟩)
   have hen:=entry_run (P:=Tryx.prog) (w:=w2) _ _ (by simpa using hI2) hM2 hee hnd
   obtain⟨fn,tmps,assign,body,hy,hR⟩:=hY vs e w2 hJ2 hlt
   clear hw2
   have HI2:=Lib.hid hI2
   have HM2:=Lib.hid hM2
   have HI:=Lib.hid hI
   clear hI2 hM2 hI hM hmap hrg
   gi_wp2
   refine hR.mono ?_
   have hve':∀ v∈vs ++ [e],v∈es:=fun v hv=>(List.mem_append.1 hv).elim (hve v) (fun h=>by simp at h;subst h;exact hee)
   have hvn':((vs ++ [e]).map Ent.born).Nodup:=by
    rw[List.map_append]
    exact List.nodup_append.2 ⟨hvn,by simp,fun a ha b hb hab=>by simp at hb;subst hb;exact hnb (hab ▸ ha)⟩
   rintro e' W3 (⟨rfl,hJ3,hk3⟩ |⟨rfl,hJx3⟩)
   ·gi_wp2
    have hI3:=hk3.same _ _ HI2.out rfl
    go_roundw
    case rel=>exact ⟨vs ++ [e],hI3,hk3.same _ _ HM2.out rfl,hve',hvn',hJ3⟩
    case measure=>rw [iterLeft_eq hI3,iterLeft_eq HI.out];simp;omega
   ·gi_wp2
    refine bodyPost_ret (results_none rfl _ _ _) rfl ?_
    exact⟨⟨_,rfl⟩,.inr ⟨vs ++ [e],trivial,hJx3⟩⟩
theorem keys_in(F:Fence)(n:Nat)(hf:F.fn 74)(hro:F.round=none)(m:Option Nat)(w:World):
  CallsIn F n Tryx.prog 74 #[.map m] w fun e w'=>e=.returned (.func (.func 107) #[] #[ptr w.heap.size])/\w'=w.alloc (.cells #[.map m] 146):=by
 refine callsIn_of_wp Tryx.func74 rfl hf ?_ hro
 simp only[Tryz.ntmps74,List.size_toArray,List.length_cons,List.length_nil,Nat.reduceAdd,Nat.reduceSub,Array.replicate_succ,Array.replicate_zero,List.push_toArray,List.append_toArray,List.nil_append,List.cons_append]
 gi_wp2
 go_ret
 exact⟨rfl,rfl⟩
theorem keys_stops(F:Fence)(n:Nat)(hf:F.fn 107)(hro:F.round=none)(hn:1<=n)(Bm mb clock:Nat)(es:List Ent)(w:World)(hBm:Bm<w.heap.size)
  (hm:w.cell? ⟨Bm,0,none⟩=some (.map (some mb))) (hmap:w.heap[mb]?=some (mapObj es clock)) (hb:∀ e∈es,e.born<clock) (hnd:(es.map Ent.born).Nodup):
  SeqStopsK F n Tryx.prog 107 #[ptr Bm] (fun e:Ent=>#[Value.int .i64 e.r.num]) KeepsWalks (fun xs=>xs.Perm es) (fun _=>True) es.length w:=fun l J Jx W hW hJ _ hY h0=>
 keys1_in F n hf hro hn l Bm mb clock es J Jx hY W hJ ((hW.cell (p:=⟨Bm,0,none⟩) hBm).trans hm) ((hW.block mb (lt_of_heap hmap)).trans hmap) hb hnd h0
theorem Tryz.infoK:(Tryx.prog.info? 3).map (fun i=>(i.zero,i.size,i.bytes))=some (some (.int .i64 0),1,8):=by kernel_rfl
theorem appendSeq_inK(F:Fence)(n:Nat)(hf:F.fn 121)(hg:F.fn 107)(hro:F.round=none)(hn:3<=n)(Bm:Nat)(S:List Ent->Prop)(N:Nat)(hN:N<=1000000)
  (w:World) (hs:SeqStopsK F (n - 1) Tryx.prog 107 #[ptr Bm] (fun e:Ent=>#[Value.int .i64 e.r.num]) KeepsWalks S (fun _=>True) N w):
  CallsIn F n Tryx.prog 121 #[.slice none 0 0,.func (.func 107) #[] #[ptr Bm]] w fun e W'=>
   ∃ v vs,e=.returned v/\S vs/\W'.ownsRow w.heap.size 3 1 v vs.length (vs.map fun e=>Value.int .i64 e.r.num)/\Below w.heap.size w W':=by
 have h1:1<=n:=by omega
 obtain⟨i0,hi,hz0,hz1,hz2⟩:=info_parts Tryz.infoK
 refine callsIn_of_wp_marks Tryx.func121 rfl hf ?_ hro
 simp only[Tryz.ntmps121,List.size_toArray,List.length_cons,List.length_nil,Nat.reduceAdd,Nat.reduceSub,Array.replicate_succ,Array.replicate_zero,List.push_toArray,List.append_toArray,List.nil_append,List.cons_append]
 have HS:=Lib.hid hs
 clear hs
 gi_wp2
 have bO:=Boxed.new w 24 (.slice none 0 0)
 have hB0:Below w.heap.size w (w.alloc (.cells #[.slice none 0 0] 24)):=(Below.refl _ w).alloc (Nat.le_refl _) _
 refine wpIn_rangeFunc_ownG hro h1 (gf:=107) (lb:=#[ptr Bm]) rfl hg (enters_of Tryx.func107 (by kernel_rfl) rfl)
  (fun l J Jx W' hW hJ hJx hY h0=>HS.out l J Jx W' (hB0.trans (hW.mono hB0.size)) hJ hJx hY h0) walksK_t walksK_b (Below.refl _ _) (fun _=>rfl)
  (fun (pre:List Ent) W=>(∃ v,Boxed W w.heap.size 24 v/\W.ownsRow w.heap.size 3 1 v pre.length (pre.map fun e:Ent=>Value.int .i64 e.r.num)/\True)/\Below w.heap.size w W)
  (fun _ _ _=>False)
  (OwnFrom.and (Own.from (holdsRow_own w.heap.size w.heap.size 24 3 1 (fun pre:List Ent=>pre.length) (fun pre:List Ent=>pre.map fun e=>Value.int .i64 e.r.num) (fun (_:List Ent) _=>True)) _) (ownFrom_below (Nat.le_refl _) (by simp)))
  (fun _ _ _ _ _ hs _ _=>hs)
  ⟨⟨_,bO,World.ownsRow_nil _ _ _ _,trivial⟩,hB0⟩
  (fun x:Ent=>{tmps:=#[.slice none 0 0,.func (.func 107) #[] #[ptr Bm],ptr w.heap.size,undef,.slice none 0 0,Value.int .i64 x.r.num,.func (.func 107) #[] #[ptr Bm],Value.int .i64 x.r.num,undef,undef,undef,undef,undef],defers:=[]}) ?assign ?body ?done ?stop
 case assign=>
  intro l x W K hK
  gi_wp2
  exact hK
 case body=>
  rintro l pre x W ⟨⟨v,hv,hrow,_⟩,hB⟩ hlt
  have hc:=hv.cell
  gi_wp2_with (gi_at_builtin;refine wpListIn_append_own _ rfl _ _ 24 rfl w.heap.size 3 i0 (.int .i64 0) 1 8 Tryx.underlying24 hi hz0 hz1 hz2 rfl (by decide) _ _ _ rfl (hrow.alloc _) ⟨W.heap.size,0,none⟩ 1 1 [Value.int .i64 x.r.num] rfl rfl (cell_one_new _ _ _) (by simp[Value.oneCell']) (by unfold maxLen;omega) (by omega) (by have:=hB.size;simp;omega) ?_;intro v' w1 hown' hgrow _;obtain⟨g',cap',rfl⟩:=ownsRow_succ hown';obtain⟨hv1,hv2,hr2,hk2,hb2⟩:=hv.appended (by decide) hrow hB.size (Nat.le_refl _) hown' hgrow;have hc1:=hv1.cell;have hf1:=hv1.frozen)
  exact⟨hk2.from _,hk2.walks,⟨_,hv2,by simpa using hr2,trivial⟩,hB.trans hb2⟩
 case done=>
  rintro D ys W hD hS ⟨⟨v,hv,hrow,_⟩,hB⟩ hK
  have hc:=hv.cell
  gi_wp2
  refine⟨by simp,.inl ⟨_,_,rfl,run_takeDeferred hK,?_⟩⟩
  exact⟨_,results_tmp rfl _ _ _,v,ys,rfl,hS,ownsRow_putObj hrow _ hK rfl,hB.trans (belowK_b (w:=w) (Nat.le_refl _) W D _ _ (by simp at hD;omega) hK rfl rfl)⟩
 case stop=>
  rintro D c pre W _ _ h _
  exact h.elim
theorem collect_inK(F:Fence)(n:Nat)(hf:F.fn 105)(hf2:F.fn 121)(hg:F.fn 107)(hro:F.round=none)(hn:4<=n)(Bm:Nat)(S:List Ent->Prop)(N:Nat)(hN:N<=1000000)
  (w:World) (hs:SeqStopsK F (n - 1 - 1) Tryx.prog 107 #[ptr Bm] (fun e:Ent=>#[Value.int .i64 e.r.num]) KeepsWalks S (fun _=>True) N w):
  CallsIn F n Tryx.prog 105 #[.func (.func 107) #[] #[ptr Bm]] w fun e W'=>
   ∃ v vs,e=.returned v/\S vs/\W'.ownsRow w.heap.size 3 1 v vs.length (vs.map fun e=>Value.int .i64 e.r.num)/\Below w.heap.size w W':=by
 have h1:1<=n:=by omega
 refine callsIn_of_wp Tryx.func105 rfl hf ?_ hro
 simp only[Tryz.ntmps105,List.size_toArray,List.length_cons,List.length_nil,Nat.reduceAdd,Nat.reduceSub,Array.replicate_succ,Array.replicate_zero,List.push_toArray,List.append_toArray,List.nil_append,List.cons_append]
 have HS:=Lib.hid hs
 clear hs
 gi_wp2_with (gi_at_call 121;refine (appendSeq_inK F (n - 1) hf2 hg hro (by omega) Bm S N hN _ HS.out).mono ?_;rintro e w' ⟨v,vs,rfl,hS,hrow,hb⟩)
 go_ret
 exact⟨v,vs,rfl,hS,hrow,hb⟩
theorem collect_anyK(Bm mb clock:Nat)(es:List Ent)(w:World)(hlen:es.length<=1000000)(hm:w.cell? ⟨Bm,0,none⟩=some (.map (some mb)))(hmap:w.heap[mb]?=some (mapObj es clock))(hb:∀ e∈es,e.born<clock)(hnd:(es.map Ent.born).Nodup):
  Calls Tryx.prog 105 #[.func (.func 107) #[] #[ptr Bm]] w fun e W'=>
   ∃ (v:Value) (vs:List Ent),e=.returned v/\vs.Perm es/\W'.ownsRow w.heap.size 3 1 v vs.length (vs.map fun e=>Value.int .i64 e.r.num)/\Below w.heap.size w W':=
 (callsIn_wide (n:=6)).1 (collect_inK Fence.wide 6 trivial trivial trivial rfl (by omega) Bm _ es.length hlen w
   (keys_stops Fence.wide (6 - 1 - 1) trivial rfl (by omega) Bm mb clock es w (lt_of_cell hm) hm hmap hb hnd))
end
section
open Go.RowKit Go.Shelf Go.Lib Go.Sort
set_option maxRecDepth 100000
set_option maxHeartbeats 8000000
theorem sorted_ints{l m:List Int}(hp:l.Perm m)(hl:l.Pairwise (·<=·))(hm:m.Pairwise (· < ·)):l=m:=
 List.Perm.eq_of_pairwise (le:=fun a b:Int=>a<=b) (fun a b _ _ h1 h2=>by omega) hl (hm.imp fun h=>by omega) hp
theorem sortedK_any(Bm mb clock:Nat)(es:List Ent)(w:World)(hlen:es.length<=1000000)(hm:w.cell? ⟨Bm,0,none⟩=some (.map (some mb)))(hmap:w.heap[mb]?=some (mapObj es clock))(hb:∀ e∈es,e.born<clock)(hnd:(es.map Ent.born).Nodup)
  (hok:EntsOk es):
  Calls Tryx.prog 73 #[.func (.func 107) #[] #[ptr Bm]] w fun e w'=>
   ∃ v:Value,e=.returned v/\w'.ownsRow w.heap.size 3 1 v es.length (es.map fun e=>.int .i64 e.r.num)/\Below w.heap.size w w':=by
 have HC:=Lib.hid (collect_anyK Bm mb clock es w hlen hm hmap hb hnd)
 clear hm hmap hb
 go_enter Tryx.func73,Tryz.ntmps73
 go_wp2_with fail
 refine HC.out.mono ?_
 rintro e w1 ⟨v,vs,rfl,hp,hrow,hbel⟩
 rcases hrow.2 with ⟨rfl,hz⟩ |⟨g,cap,cur,rfl,hbase,hgb,r1,r2,r3,r4⟩
 ·have hvs:vs=[]:=List.eq_nil_of_length_eq_zero hz
  subst hvs
  have hes:es=[]:=hp.symm.eq_nil
  subst hes
  go_wp2_with fail
  refine (Tryz.slices_Sort_int_none none 0 w1).mono ?_
  rintro e w2 ⟨rfl,rfl⟩
  go_wp2
  go_ret
  exact⟨_,rfl,World.ownsRow_nil _ _ _ _,hbel⟩
 ·obtain⟨D,hD⟩:∃ D:List Int,vs.map (·.r.num)=D:=⟨_,rfl⟩
  have hlD:D.length=vs.length:=by rw[<-hD];simp
  have hDm:vs.map (fun e=>Value.int .i64 e.r.num)=D.map (Value.int .i64):=by rw[<-hD,List.map_map];rfl
  rw[hDm,<-hlD,Nat.mul_one]at r4
  rw[<-hlD]at r1
  have hH:Holds (Value.int .i64) w1 g 0 D.toArray:=holds_of_blockE hgb r4
  have hle:=hp.length_eq
  have hsz:D.length<4611686018427387904:=by omega
  have hgl:g<w1.heap.size:=lt_of_heap hgb
  have hc:=Tryz.slices_Sort_int g 0 cap D w1 hH hgl hsz
  have hfin:(D.mergeSort fun x y=>decide (x<=y))=es.map (·.r.num):=by
   refine sorted_ints ((List.mergeSort_perm D _).trans (by rw[<-hD];exact hp.map _)) ?_ (List.pairwise_map.2 hok.nums)
   have:=List.pairwise_mergeSort (le:=fun x y:Int=>decide (x<=y)) (fun a b c hab hbc=>by simp at *;omega) (fun a b=>by simp;omega) D
   exact this.imp fun h=>by simpa using h
  have HCs:=Lib.hid hc
  have HF:=Lib.hid hfin
  have hlen2:vs.length=D.length:=hlD.symm
  have HL:=Lib.hid hlen2
  have hne:es.length=D.length:=by omega
  have HN:=Lib.hid hne
  clear hc hfin hrow hp hD hDm hlD hlen2 hne r4 hH hle
  go_wp2_with fail
  rw[HL.out]
  refine HCs.out.mono ?_
  rintro e w2 ⟨rfl,n,os,hw2⟩
  have hrow2:w2.ownsRow w.heap.size 3 1 (.slice (some ⟨g,0,none⟩) D.length cap) D.length ((D.mergeSort fun x y=>decide (x<=y)).map (Value.int .i64)):=by
   rw[hw2];exact ownsRow_sortedE (by simp) hbase hgb r1 r2 r3
  have hb2:Below w.heap.size w w2:=by rw[hw2];exact hbel.grown (grownBy_sortedE _) hbel.size (fun k e=>by cases e;exact hbase)
  have HR2:=Lib.hid hrow2
  clear hrow2 hw2
  go_wp2
  go_ret
  refine⟨_,rfl,?_,hb2⟩
  have:=HR2.out
  rw[HF.out,List.map_map]at this
  rw[HN.out]
  exact this
theorem Tryz.infoI2:(Tryx.prog.info? 3).map (fun i=>(i.zero,i.size,i.bytes))=some (some (.int .i64 0),1,8):=by kernel_rfl
def waitE(es:List Ent):List Int:=(es.filter fun e=>e.r.state == 0).map (·.r.num)
theorem row_at{w:World}{base n:Nat}{a:Option Addr}{c:Nat}{t:TypeId}{xs:List Value}(h:w.ownsRow base t 1 (.slice a n c) n xs){j:Nat}{x:Value}(hj:xs[j]?=some x)(hn:xs.length=n):∃ g,a=some ⟨g,0,none⟩/\g<w.heap.size/\base<=g/\w.cell? ⟨g,j,none⟩=some x:=by
 have hjl:=(List.getElem?_eq_some_iff.1 hj).1
 rcases h.2 with ⟨_,h0⟩ |⟨g,cap,cur,e,hb,h3,h4,h5,h6,h7⟩
 ·omega
 ·simp only[Value.slice.injEq]at e
  obtain⟨rfl,_,rfl⟩:=e
  refine⟨g,rfl,lt_of_heap h3,hb,cell_of h3 ?_⟩
  rw[<-h7,List.getElem?_take_of_lt (by omega)]at hj
  rw[<-Array.getElem?_toList];exact hj
theorem twaiting_any(tb mb clock:Nat)(last held:Int)(es:List Ent)(w:World)(h:TabB w tb mb clock last held es):
  Calls Tryx.prog 41 #[ptr tb] w fun x w'=>∃ v,x=.returned v/\w'.ownsRow w.heap.size 3 1 v (waitE es).length ((waitE es).map fun n=>Value.int .i64 n)/\Below w.heap.size w w':=by
 have c0:=h.c0
 have hb:Below w.heap.size w (w.alloc (.cells #[.map (some mb)] 146)):=(Below.refl _ w).alloc (Nat.le_refl _) _
 have h1:=h.below hb
 have HC:=Lib.hid (sortedK_any w.heap.size mb clock es _ h1.len (cell_new (w:=w) (c:=#[.map (some mb)]) (t:=146) rfl) h1.map h1.born h1.borns h1.ok)
 have hV:=(callsIn_wide (n:=6)).1 (keys_in Fence.wide 6 trivial rfl (some mb) w)
 have HV:=Lib.hid hV
 have HT:=Lib.hid h
 obtain⟨n,hn⟩:∃ n,es.length=n:=⟨_,rfl⟩
 obtain⟨i0,hi,hz0,hz1,hz2⟩:=info_parts Tryz.infoI2
 have hlen:=h.len
 clear h h1 hV
 go_enter Tryx.func41,Tryz.ntmps41
 go_wp2_with fail
 refine HV.out.mono ?_
 rintro e w1 ⟨rfl,rfl⟩
 go_wp2_with fail
 refine HC.out.mono ?_
 rintro e w1 ⟨v,rfl,hrow,hbel⟩
 rw[hn]at hrow
 obtain⟨va,vc,rfl⟩:=own_slice hrow
 have hbw:Below w.heap.size w w1:=hb.trans (hbel.mono (by simp))
 have HR:=Lib.hid hrow
 have HBW:=Lib.hid hbw
 clear hrow hbel hbw
 go_wp2_with fail
 go_loopg [3,13] n (fun k out i wr=>∃ (j:Nat),k=n - j/\j<=n/\i=.int .i64 j/\wr.ownsRow w1.heap.size 3 1 out (waitE (es.take j)).length ((waitE (es.take j)).map fun n=>Value.int .i64 n)/\Below w1.heap.size w1 wr)
 case atStart=>exact ⟨0,by simp,by omega,rfl,by simpa[waitE]using World.ownsRow_nil _ _ _ _,Below.refl _ _⟩
 case round=>
  obtain⟨j,rfl,hj,rfl,hrow,hB⟩:=hrel
  by_cases hlt:j<n
  ·have hltI:(j:Int)<(n:Int):=by omega
   obtain⟨e,he⟩:∃ e,es[j]?=some e:=⟨_,List.getElem?_eq_getElem (by omega)⟩
   have hem:e∈es:=List.mem_of_getElem? he
   have hrw:wr.ownsRow (w.alloc (.cells #[.map (some mb)] 146)).heap.size 3 1 (.slice va n vc) n (es.map fun e=>Value.int .i64 e.r.num):=ownsRow_chg HR.out (chgB hB fun _=>False) fun _ _ x=>x
   obtain⟨g,rfl,hgl,_,hcell⟩:=row_at hrw (j:=j) (x:=.int .i64 e.r.num) (by rw[List.getElem?_map,he];rfl) (by simp[hn])
   have hT:=HT.out.below (HBW.out.trans (hB.mono HBW.out.size))
   have t0:=hT.c0
   have hlk:=(hT.look hem).2
   have hreq:=hT.reqs e hem
   have a7:=hreq.at.c7
   have htk:waitE (es.take (j+1))=waitE (es.take j) ++ (if e.r.state == 0 then [e.r.num]else []):=by
    obtain⟨h1,h2⟩:=List.getElem?_eq_some_iff.1 he
    unfold waitE
    rw[List.take_succ_eq_append_getElem h1,h2,List.filter_append,List.map_append]
    congr 1
    cases hs:(e.r.state == 0) <;> simp[hs]
   have hwl:(waitE (es.take j)).length<=j:=by
    unfold waitE
    rw[List.length_map]
    refine Nat.le_trans (List.length_filter_le _ _) ?_
    rw[List.length_take]
    exact Nat.min_le_left _ _
   have HTK:=Lib.hid htk
   clear hrw htk he hem hT hreq
   cases hs:(e.r.state == 0)with
   | false=>
     go_wp2_with fail
     go_roundg (n - (j+1))
     case measure=>omega
     case rel=>exact ⟨j+1,rfl,by omega,by go_num,by rw[HTK.out,hs];simpa using hrow,hB⟩
   | true=>
     have hsz:=hB.size
     obtain⟨m,hm⟩:∃ m,(waitE (es.take j)).length=m:=⟨_,rfl⟩
     rw[hm]at hrow hwl
     have HM:=Lib.hid hm
     clear hm
     go_wp2_with (at_builtin;refine wpList_append_own _ rfl _ _ 24 rfl w1.heap.size 3 i0 (.int .i64 0) 1 8 Tryx.underlying24 hi hz0 hz1 hz2 rfl (by decide) _ _ _ rfl (hrow.alloc _) ⟨wr.heap.size,0,none⟩ 1 1 [.int .i64 e.r.num] rfl rfl (World.news_of_block (World.alloc_heap_new wr _)) (by simp[Value.oneCell']) ?_ ?_ ?_ ?_)
     ·unfold maxLen;omega
     ·omega
     ·simp;omega
     intro v' w3 hown' hgrow _
     have hB3:Below w1.heap.size w1 w3:=(hB.alloc hB.size _).grown hgrow (by simp;omega) (fun k ek=>(hrow.lt k ek).1)
     have HO:=Lib.hid hown'
     clear hown' hgrow hrow
     go_wp2
     go_roundg (n - (j+1))
     case measure=>omega
     case rel=>exact ⟨j+1,rfl,by omega,by go_num,by rw[HTK.out,hs,if_pos rfl,List.length_append,List.map_append,HM.out];exact HO.out,hB3⟩
  ·obtain rfl:j=n:=by omega
   have hall:es.take j=es:=List.take_of_length_le (by omega)
   rw[hall]at hrow
   have HO:=Lib.hid hrow
   clear hrow hall
   go_wp2
   go_ret
   exact⟨_,rfl,ownsRow_low HO.out HBW.out.size,HBW.out.trans (hB.mono HBW.out.size)⟩
theorem waiting_any(q:Nat)(s:Sta)(F:Nat->Prop)(w:World)(h:QAt w q s F):
  Calls Tryx.prog 20 #[ptr q] w fun x w'=>∃ v,x=.returned v/\w'.ownsRow w.heap.size 3 1 v (waitE s.es).length ((waitE s.es).map fun n=>Value.int .i64 n)/\Below w.heap.size w w':=by
 obtain⟨tb,mb,clock,fv,hq,hF⟩:=h
 have c1:=hq.c1
 have HW:=Lib.hid (twaiting_any tb mb clock s.last s.held s.es w hq.tab)
 clear hq hF
 go_enter Tryx.func20,Tryz.ntmps20
 go_wp2_with fail
 refine HW.out.mono ?_
 rintro x w1 ⟨v,rfl,h1,h2⟩
 have H1:=Lib.hid h1
 clear h1
 go_wp2_with fail
 go_ret
 exact⟨v,rfl,H1.out,h2⟩
end
section
open Go.RowKit Go.Shelf Go.Lib
theorem cmd_len{t:St}(h:t.Ok){c:Cmd}(hc:c∈t.cs):(c.nums.length:Int)<=t.last:=by
 have hnd:c.nums.Nodup:=(List.pairwise_flatMap.1 h.a.rs.nodup).1 c hc
 have:=len_sub c.nums hnd (t.rs.map (·.num)) fun n hn=>by
  obtain⟨r,hr,hrn,_⟩:=(h.cmds c hc).ins n hn
  exact List.mem_map.2 ⟨r,hr,hrn⟩
 rw[List.length_map]at this
 have:=ok_len h
 omega
theorem sta_len{s:Sta}(h:s.er.Ok)(hs:s.er.Small):(∀ c∈s.cs,c.1.nums.length<=1000000)/\s.cs.length<=1000:=by
 refine⟨fun c hc=>?_,?_⟩
 ·have:=cmd_len h (c:=c.1) (List.mem_map_of_mem hc)
  have:=hs.last
  omega
 ·have h1:=h.len
  have h2:=h.a.depth
  have h3:s.er.cs.length=s.cs.length:=by simp[Sta.er]
  omega
section
variable {q:Nat} {t:St} {F:Nat->Prop} {w:World}
theorem flights_c(h:QT w q t F)(hk:t.Ok)(hs:t.Small):
  Calls Tryx.prog 22 #[ptr q] w fun x w'=>∃ v cs',x=.returned v/\cs'.map (·.1)=t.cs/\CmdsAt w' w.heap.size v cs'/\Below w.heap.size w w':=by
 obtain⟨s,h1,rfl⟩:=h
 exact flights_any q s F w h1 (sta_len hk hs).1 (sta_len hk hs).2
theorem waiting_c(h:QT w q t F)(hk:t.Ok)(hs:t.Small):
  Calls Tryx.prog 20 #[ptr q] w fun x w'=>∃ v,x=.returned v/\w'.ownsRow w.heap.size 3 1 v t.waiting.length (t.waiting.map fun n=>Value.int .i64 n)/\Below w.heap.size w w':=by
 obtain⟨s,h1,rfl⟩:=h
 have e:s.er.waiting=waitE s.es:=by
  unfold St.waiting waitE Sta.er
  simp only[List.filter_map,List.map_map]
  rfl
 rw[e]
 exact waiting_any q s F w h1
end
end
section
open Go.RowKit Go.Shelf Go.Lib
set_option maxRecDepth 100000
set_option maxHeartbeats 8000000
theorem Tryz.infoBo:(Tryx.prog.info? 4).map (fun i=>(i.zero,i.size,i.bytes))=some (some (.bool false),1,1):=by kernel_rfl
theorem cloneBools(v:Value)(b:List Bool)(w:World)(h:BRow w v b)(hl:b.length<=1000000):
  Calls Tryx.prog 48 #[v] w fun e w'=>∃ v',e=.returned v'/\BRow w' v' b/\(∀ k,v'.ownBlock=some k->w.heap.size<=k)/\Below w.heap.size w w':=by
 have q22:∀ (w:World) (a:Option Addr) (n c n' c':Nat),(binOp .eql 59 (.slice a n c) (.slice none n' c')).run Tryx.prog w=.ok (.bool a.isNone) w:=fun w a n c n' c'=>Lib.run_eql_slice_nil w _ _ a n c n' c' Tryx.underlying59
 have u22:∀ w,Sem.run Tryx.prog (underlying 59) w=.ok (TypeDesc.slice 4) w:=run_underlying Tryx.underlying59
 rcases h.2 with ⟨rfl,h0⟩ |⟨g,cap,cur,rfl,hb,h3,h4,h5,h6,h7⟩
 ·have:b=[]:=List.length_eq_zero_iff.1 h0
  subst this
  go_enter Tryx.func48,Tryz.ntmps48
  go_wp2
  go_ret
  exact⟨_,rfl,World.ownsRow_nil _ _ _ _,(fun k hk=>by cases hk),Below.refl _ _⟩
 ·obtain⟨i0,hi,hz0,hz1,hz2⟩:=info_parts Tryz.infoBo
  have A:Aside (∀ j u,(b.map Value.bool)[j]?=some u->w.cell? ⟨g,j,none⟩=some u):=fun j u hj=>by
   rw[<-h7,Nat.mul_one,List.getElem?_take]at hj
   split at hj
   ·exact cell_of h3 (by rw[<-Array.getElem?_toList];exact hj)
   ·cases hj
  have hlc:b.length<=maxLen:=by omega
  have hgl:=lt_of_heap h3
  clear h h3 h6 h7
  go_enter Tryx.func48,Tryz.ntmps48
  go_wp2_with (at_builtin;refine wpList_append_own _ rfl _ _ 59 rfl w.heap.size 4 i0 (.bool false) 1 1 Tryx.underlying59 hi hz0 hz1 hz2 rfl (by decide) _ _ _ rfl (World.ownsRow_made w #[] 0 (Nat.le_refl _) (Nat.zero_le _) rfl) ⟨g,0,none⟩ b.length cap (b.map Value.bool) rfl ?qc1 ?qc2 ?qc3 ?qc4 ?qc5 ?qc6 ?_)
  case qc1=>simp
  case qc2=>
   intro j u hj
   rw[Addr.add_lit]
   refine Lib.cell?_alloc_some _ ?_
   simpa using A.out j u hj
  case qc3=>intro u hu;obtain⟨x,_,rfl⟩:=List.mem_map.1 hu;rfl
  case qc4=>unfold maxLen;omega
  case qc5=>omega
  case qc6=>simp
  intro v' w1 hown hgrow hnil
  go_wp2
  go_ret
  have hown':w1.ownsRow w.heap.size 4 1 v' b.length (b.map Value.bool):=by simpa using hown
  refine⟨v',rfl,⟨hown'.1,hown'.2.imp id fun ⟨g,c,cur,a1,_,a3⟩=>⟨g,c,cur,a1,Nat.zero_le _,a3⟩⟩,fun k hk=>?_,((Below.refl _ w).alloc (Nat.le_refl _) _).grown hgrow (by simp) (by intro k hk;simp[Value.ownBlock]at hk;omega)⟩
  rcases hown'.2 with ⟨rfl,_⟩ |⟨g',c',cur',rfl,hb',_⟩
  ·cases hk
  ·simp only[Value.ownBlock,Option.some.injEq]at hk
   omega
theorem mk_of{P:Program}{t e:TypeId}{dir:ChanDir}(ht:P.underlying t=some (.chan dir e))(hi:(P.info? e).isSome=true)(w:World):(Instr.makeChan t (.int .i64 0)).run P w=.ok (.chan (some w.heap.size)) (w.alloc (.chan 0 #[] false 0 0 false)):=by
 obtain⟨i,hi⟩:=Option.isSome_iff_exists.1 hi
 exact Conc.run_makeChan ht hi .i64 0 (by decide) (by omega)
theorem mkW(w:World):(Instr.makeChan 103 (.int .i64 0)).run Tryx.prog w=.ok (.chan (some w.heap.size)) (w.alloc (.chan 0 #[] false 0 0 false)):=mk_of Tryx.underlying103 (by kernel_rfl) w
theorem mkE(w:World):(Instr.makeChan 104 (.int .i64 0)).run Tryx.prog w=.ok (.chan (some w.heap.size)) (w.alloc (.chan 0 #[] false 0 0 false)):=mk_of Tryx.underlying104 (by kernel_rfl) w
theorem mkB(w:World):(Instr.makeChan 107 (.int .i64 0)).run Tryx.prog w=.ok (.chan (some w.heap.size)) (w.alloc (.chan 0 #[] false 0 0 false)):=mk_of Tryx.underlying107 (by kernel_rfl) w
theorem eqC(w:World)(a b:Nat):(binOp .eql 108 (.chan (some a)) (.chan (some b))).run Tryx.prog w=.ok (.bool (some a == some b)) w:=by
 have ht:=run_underlying Tryx.underlying108
 have h1:(Op.equal 108 (.chan (some a)) (.chan (some b))).run Tryx.prog w=.ok (some a == some b) w:=by
  have h1:Op.equal 108 (.chan (some a)) (.chan (some b))=Op.equalIn (9999+1) 108 (.chan (some a)) (.chan (some b)):=rfl
  rw[h1,Op.equalIn,Sem.run_bind,ht]
  rfl
 simp only[binOp]
 rw[Sem.run_bind,h1]
 rfl
theorem Tryx.ntmps26:Tryx.f26.ntmps=84:=rfl
theorem drive_c(w:World){q:Nat}{t:St}{F:Nat->Prop}(h:QT w q t F)(hk:t.Ok)(hl:t.last<900000)(hn:t.now<2 ^ 58)(v:Value)(b:List Bool)(hB:BRow w v b)(hbl:b.length<=1000000):
  Calls Tryx.prog 26 #[ptr q,v] w fun y w'=>∃ F',y=.returned (.int .i64 (t.drive (fun i=>b.getD i false) 0).1)/\QT w' q (t.drive (fun i=>b.getD i false) 0).2 F'/\Own w w' F F':=by
 obtain⟨f,hf⟩:∃ f:Nat->Bool,(fun i=>b.getD i false)=f:=⟨_,rfl⟩
 have hql:=h.qlt
 rw[hf]
 have HB:=Lib.hid hB
 have HF:=Lib.hid hf
 have HS:=Lib.hid (And.intro h (DR.start (f:=f) hk))
 have HK:=Lib.hid (And.intro hk (And.intro hl hn))
 clear h hB hf hk hl hn
 go_enter Tryx.func26,Tryx.ntmps26
 unfold gD bD Tryz.f26
 simp only[Option.getD_some,gh,mapA,List.map_cons,List.map_nil,ghOp,gh4,gh5,gh6,gh7,ghOps4,gh0,clr,kT,kOps4,kOps5,kArm,kLoop,bK,Tryz.f47,Option.getD_some,cIn,cTl,cHd,cYes,cOps,shOper,shOp,shO,BEq.rfl,if_true,Option.map_some,Option.map_none,List.map_toArray,Array.getD_eq_getD_getElem?,List.getElem?_toArray,List.getElem?_cons_succ,List.getElem?_cons_zero,Nat.reduceAdd,reduceIte,reduceBEq,Option.some_beq_some,Nat.reduceBEq,Bool.false_eq_true]
 have mk1:=mkW
 have mk2:=mkE
 have mk3:=mkB
 go_wp2_with fail
 obtain⟨W3,hW3⟩:∃ W3,((w.alloc (.chan 0 #[] false 0 0 false)).alloc (.chan 0 #[] false 0 0 false)).alloc (.chan 0 #[] false 0 0 false)=W3:=⟨_,rfl⟩
 have hb3:Below w.heap.size w W3:=by rw[<-hW3];exact (((Below.refl _ _).alloc (Nat.le_refl _) _).alloc (by simp) _).alloc (by simp;omega) _
 rw[hW3]
 refine (cloneBools v b W3 (HB.out.chg (chgB hb3 fun _=>False) fun _ _ x=>x) hbl).mono ?_
 rintro x W4 ⟨v',rfl,hB4,hv4,hb4⟩
 have hz3:=hb3.size
 have hz4:=hb4.size
 have hW4:Below w.heap.size w W4:=hb3.trans (hb4.mono hz3)
 have hO:∀ S,(W4.alloc S).heap.size=W4.heap.size+1:=fun S=>by simp
 have hvo:∀ k,v'.ownBlock=some k->w.heap.size<=k/\k<W4.heap.size:=fun k hk=>⟨Nat.le_trans hz3 (hv4 k hk),by obtain⟨cur,hcur⟩:=own_heap hB4 hk;exact lt_of_heap hcur⟩
 have HVO:=Lib.hid hvo
 clear hvo
 have HW4:=Lib.hid (And.intro hB4 (And.intro hv4 (And.intro hW4 hz3)))
 clear hB4 hv4 hb4 hW4 hb3 hW3
 obtain⟨va,vc,rfl⟩:=own_slice HW4.out.1
 go_wp2_with fail
 obtain⟨W5,hW5⟩:∃ W5,W4.alloc (.chan 0 #[] false 0 0 false)=W5:=⟨_,rfl⟩
 rw[hW5]
 have h5:Below W4.heap.size W4 W5:=by rw[<-hW5];exact (Below.refl _ _).alloc (Nat.le_refl _) _
 have hz5:W4.heap.size<W5.heap.size:=by rw[<-hW5];simp
 have H5:=Lib.hid h5
 clear h5 hW5 mk1 mk2 mk3
 go_loopg [8] t.mu (fun k nv wr=>∃ (n:Nat) (T:St) (F':Nat->Prop),k=T.mu/\nv=.int .i64 n/\Hid (QT wr q T F')/\Hid (Own W4 wr (fun k=>F k/\k<w.heap.size) F'/\DR f t n T/\W5.heap.size<=wr.heap.size/\BRow wr (.slice va b.length vc) b))
 case atStart=>
  refine⟨0,t,fun k=>F k/\k<w.heap.size,rfl,rfl,Lib.hid ?_,Lib.hid ⟨Own.below H5.out _,HS.out.2,Nat.le_refl _,HW4.out.1.chg (chgB H5.out fun _=>False) fun _ _ x=>x⟩⟩
  exact ((HS.out.1.lt.below HW4.out.2.2.1)).below H5.out
 case round=>
  obtain⟨n,T,F',rfl,rfl,hQ,hR⟩:=hrel
  have hqr:=hQ.out.qlt
  obtain⟨hsm,hn9⟩:=hR.out.2.1.small HK.out.1 HK.out.2.1 HK.out.2.2
  have hvn:∀ k,(Value.slice va b.length vc).ownBlock=some k->¬F' k:=fun k hk hF=>by
   have h1:=HVO.out k hk
   rcases hR.out.1.grow k hF with h2 | h2
   ·have:=h2.2;omega
   ·omega
  cases hc:T.cmd with
  | some c=>
    have hd:=hR.out.2.1.step (dnext_cmd hc)
    have HD:=Lib.hid hd
    have HC:=Lib.hid hc
    have HSM:=Lib.hid hsm
    clear hd hc hsm
    go_wp2_with fail
    refine (step_some_c hQ.out hR.out.2.1.ok HSM.out c HC.out).mono ?_
    rintro x w5 ⟨vv,F2,rfl,hq2,hF2,_,hch,hrow⟩
    obtain⟨sa,sc,rfl⟩:=own_slice hrow
    have H2:=Lib.hid (And.intro hq2 (And.intro hF2 hch))
    clear hq2 hF2 hch hrow
    go_wp2_with fail
    obtain⟨w6,hw6⟩:∃ w6,w5.alloc (.cells #[.bool c.write,.int .i64 c.page,.int .i64 c.count,.slice sa c.nums.length sc] 48)=w6:=⟨_,rfl⟩
    have hb6:Below w5.heap.size w5 w6:=by rw[<-hw6];exact (Below.refl _ _).alloc (Nat.le_refl _) _
    rw[hw6]
    have H6:=Lib.hid hb6
    clear hb6 hw6
    go_roundg (T.sent c).mu
    case measure=>exact HD.out.2
    case rel=>
     have hO:Own wr w6 F' F2:=(Own.mk H2.out.2.1 H2.out.2.2).trans (Own.below H6.out _)
     refine⟨n,T.sent c,F2,rfl,rfl,Lib.hid (H2.out.1.below H6.out),Lib.hid ⟨hR.out.1.trans hO,HD.out.1,Nat.le_trans hR.out.2.2.1 hO.chg.size,hR.out.2.2.2.chg hO.chg ?_⟩⟩
     exact fun k hk=>hvn k hk
  | none=>
    have HC:=Lib.hid hc
    have HSM:=Lib.hid hsm
    have HVN:=Lib.hid hvn
    clear hc hsm hvn
    go_upto_region 9 with fail
    refine (step_none_c hQ.out hR.out.2.1.ok HC.out).mono ?_
    rintro x w5 ⟨rfl,hb5⟩
    have H5':=Lib.hid hb5
    clear hb5
    go_upto_region 9 with fail
    obtain⟨w6,hw6⟩:∃ w6,w5.alloc (.cells #[.bool false,.int .i64 0,.int .i64 0,.slice none 0 0] 48)=w6:=⟨_,rfl⟩
    have hb6:Below wr.heap.size wr w6:=by rw[<-hw6];exact H5'.out.alloc H5'.out.size _
    rw[hw6]
    have hq6:=hQ.out.below hb6
    obtain⟨fa,fc,c2⟩:=hq6.fl
    obtain⟨m,hm⟩:∃ m,T.cs.length=m:=⟨_,rfl⟩
    rw[hm]at c2
    have hm4:m<=4:=by have:=hR.out.2.1.ok.len;have:=hR.out.2.1.ok.a.depth;omega
    have HQ6:=Lib.hid (And.intro hq6 (And.intro hb6 hm))
    clear hw6 hb6 hq6 hm H5'
    by_cases h0:m=0
    ·subst h0
     have hcs:T.cs=[]:=List.length_eq_zero_iff.1 HQ6.out.2.2
     have HCS:=Lib.hid hcs
     clear hcs
     go_upto_region 13 with fail
     go_wp2_with fail
     refine (waiting_c HQ6.out.1 hR.out.2.1.ok HSM.out).mono ?_
     rintro x w7 ⟨wv,rfl,hrow,hb7⟩
     obtain⟨wa,wc,rfl⟩:=own_slice hrow
     obtain⟨wn,hwn⟩:∃ wn,T.waiting.length=wn:=⟨_,rfl⟩
     rw[hwn]
     have hO7:Own wr w7 F' F':=(Own.below HQ6.out.2.1 F').trans (Own.below hb7 F')
     have HQ7:=Lib.hid (And.intro (HQ6.out.1.below hb7) (And.intro hO7 hwn))
     clear hrow hb7 hO7 hwn
     by_cases hw0:wn=0
     ·subst hw0
      have hst:=hR.out.2.1.stop (dnext_stop HC.out HCS.out (List.length_eq_zero_iff.1 HQ7.out.2.2))
      have HST:=Lib.hid hst
      clear hst
      go_wp2_with fail
      go_ret
      rw[HST.out]
      have hO:=(Own.below HW4.out.2.2.1 (fun k=>F k/\k<w.heap.size)).trans (hR.out.1.trans HQ7.out.2.1)
      exact⟨F',rfl,HQ7.out.1,⟨fun k hk=>(hO.grow k hk).imp And.left id,hO.chg.mono fun k _ hk=>hk.1⟩⟩
     ·have hw0I:¬(wn:Int)=0:=by omega
      have hd:=hR.out.2.1.step (dnext_tick HC.out HCS.out (fun e=>hw0 (by rw[<-HQ7.out.2.2,e];rfl)))
      have HD:=Lib.hid hd
      clear hd
      go_wp2_with fail
      refine (tick_c HQ7.out.1 hR.out.2.1.ok HSM.out).mono ?_
      rintro x w8 ⟨rfl,hq8,hch8⟩
      have H8:=Lib.hid (And.intro hq8 hch8)
      clear hq8 hch8
      go_wp2_with fail
      go_roundg T.tick.mu
      case measure=>exact HD.out.2
      case rel=>
       have hO:Own wr w8 F' F':=HQ7.out.2.1.trans ⟨fun _ h=>.inl h,H8.out.2⟩
       exact⟨n,T.tick,F',rfl,rfl,Lib.hid H8.out.1,Lib.hid ⟨hR.out.1.trans hO,HD.out.1,Nat.le_trans hR.out.2.2.1 hO.chg.size,hR.out.2.2.2.chg hO.chg HVN.out⟩⟩
    ·have h0I:(0:Int)<(m:Int):=by omega
     obtain⟨T',hT'⟩:=complete_yes (t:=T) (fun e=>h0 (by rw[<-HQ6.out.2.2,e];rfl)) (f n)
     have HD:=Lib.hid (hR.out.2.1.step (dnext_comp HC.out hT'))
     have HT':=Lib.hid hT'
     clear hT'
     go_upto_region 105 with fail
     obtain⟨w7,hw7⟩:∃ w7,w6.alloc (.cells #[.int .i64 n,.chan (some W4.heap.size)] 110)=w7:=⟨_,rfl⟩
     rw[hw7]
     have hb7:Below w6.heap.size w6 w7:=by rw[<-hw7];exact (Below.refl _ _).alloc (Nat.le_refl _) _
     have hr7:w7.heap[w6.heap.size]?=some (.cells #[.int .i64 n,.chan (some W4.heap.size)] 110 (0,0)):=by rw[<-hw7];exact World.alloc_heap_new _ _
     have z0:w7.cell? ⟨w6.heap.size,0,none⟩=some (.int .i64 n):=cell_of hr7 rfl
     have z1:w7.cell? ⟨w6.heap.size,1,none⟩=some (.chan (some W4.heap.size)):=cell_of hr7 rfl
     have hO7:Own wr w7 F' F':=(Own.below HQ6.out.2.1 F').trans (Own.below hb7 F')
     have hB7:BRow w7 (.slice va b.length vc) b:=hR.out.2.2.2.chg hO7.chg HVN.out
     have HO7:=Lib.hid (And.intro (HQ6.out.1.below hb7) hO7)
     clear hw7 hb7 hr7 hO7
     have hn0:(0:Int)<=(n:Int):=by omega
     by_cases hbl:n<b.length
     ·have hblI:(n:Int)<(b.length:Int):=by omega
      obtain⟨g,rfl,_,hcell⟩:=hB7.cell hbl
      rw[show b.getD n false=f n by rw[<-HF.out]]at hcell
      have hbd:decide ((n:Int)<(b.length:Int))=true:=by simpa using hbl
      go_quiet (fail)
      obtain⟨w8,hw8⟩:∃ w8,w7.drewN nq=w8:=⟨_,rfl⟩
      have hb8:Below w7.heap.size w7 w8:=by rw[<-hw8];exact below_drewN (Below.refl _ _) _
      rw[hw8]
      have hO8:=HO7.out.2.trans (Own.below hb8 F')
      have HO8:=Lib.hid (And.intro (HO7.out.1.below hb8) hO8)
      have eqc:=eqC
      have hwrap:IntKind.i64.wrap ((n:Int)+1)=((n+1:Nat):Int):=by rw[IntKind.wrap_i64];omega
      clear hw8 hb8 hO8 hB7
      go_wp2_with fail
      refine (complete_c HO8.out.1 hR.out.2.1.ok HSM.out 0 (f n) T' HT'.out).mono ?_
      rintro x w9 ⟨rfl,hq9,hch9⟩
      have H9:=Lib.hid (And.intro hq9 hch9)
      clear hq9 hch9
      go_wp2_with fail
      go_roundg T'.mu
      case measure=>exact HD.out.2
      case rel=>
       have hO:Own wr w9 F' F':=HO8.out.2.trans ⟨fun _ h=>.inl h,H9.out.2⟩
       exact⟨n+1,T',F',rfl,by go_num,Lib.hid H9.out.1,Lib.hid ⟨hR.out.1.trans hO,HD.out.1,Nat.le_trans hR.out.2.2.1 hO.chg.size,hR.out.2.2.2.chg hO.chg HVN.out⟩⟩
     ·have hblI:¬(n:Int)<(b.length:Int):=by omega
      have hfn:f n=false:=by rw[<-HF.out];simp[List.getD,List.getElem?_eq_none (Nat.le_of_not_lt hbl)]
      rw[hfn]at HT'
      have hbd:decide ((n:Int)<(b.length:Int))=false:=by simpa using hbl
      go_quiet (fail)
      obtain⟨w8,hw8⟩:∃ w8,w7.drewN nq=w8:=⟨_,rfl⟩
      have hb8:Below w7.heap.size w7 w8:=by rw[<-hw8];exact below_drewN (Below.refl _ _) _
      rw[hw8]
      have hO8:=HO7.out.2.trans (Own.below hb8 F')
      have HO8:=Lib.hid (And.intro (HO7.out.1.below hb8) hO8)
      have eqc:=eqC
      have hwrap:IntKind.i64.wrap ((n:Int)+1)=((n+1:Nat):Int):=by rw[IntKind.wrap_i64];omega
      clear hw8 hb8 hO8 hB7
      go_wp2_with fail
      refine (complete_c HO8.out.1 hR.out.2.1.ok HSM.out 0 false T' HT'.out).mono ?_
      rintro x w9 ⟨rfl,hq9,hch9⟩
      have H9:=Lib.hid (And.intro hq9 hch9)
      clear hq9 hch9
      go_wp2_with fail
      go_roundg T'.mu
      case measure=>exact HD.out.2
      case rel=>
       have hO:Own wr w9 F' F':=HO8.out.2.trans ⟨fun _ h=>.inl h,H9.out.2⟩
       exact⟨n+1,T',F',rfl,by go_num,Lib.hid H9.out.1,Lib.hid ⟨hR.out.1.trans hO,HD.out.1,Nat.le_trans hR.out.2.2.1 hO.chg.size,hR.out.2.2.2.chg hO.chg HVN.out⟩⟩
end
section
open Go.RowKit Go.Shelf Go.Lib
theorem drive_o{w0 w:World}{wo:Nat}{x:KW}(h:KO w0 w wo x)(hk:x.t.Ok)(hl:x.t.last<900000)(hn:x.t.now<2 ^ 58):∃ q,w.cell? ⟨wo,0,none⟩=some (ptr q)/\wo<w.heap.size/\
  ∀ W,Below w.heap.size w W->∀ v b,BRow W v b->b.length<=1000000->Calls Tryx.prog 26 #[ptr q,v] W fun y w'=>y=.returned (.int .i64 (x.t.drive (fun i=>b.getD i false) 0).1)/\KO w0 w' wo ⟨x.rs,(x.t.drive (fun i=>b.getD i false) 0).2⟩/\Chg (fun k=>k<w.heap.size) W w':=by
 obtain⟨q,h1,h2,h3⟩:=h.cell
 refine⟨q,h1,h2,fun W hB v b hb hbl=>?_⟩
 obtain⟨F,f1,f2,f3⟩:=h3 W hB
 refine (drive_c W f1 hk hl hn v b hb hbl).mono ?_
 rintro y w' ⟨F',rfl,e1,e2⟩
 exact⟨rfl,f3 w' _ F' e1 e2.grow e2.chg,e2.chg.mono fun k _ hk=>(f2 k hk).2⟩
structure FinD(i N:Nat)(x:KW):Prop where
 mi:MI x
 sett:Sett x.t
 small:x.t.Small
 len:x.rs.length=N
 how:∀ (k:Nat) (r:KReq),k<i->x.rs[k]?=some r->r.how≠0
theorem FinD.drive{x:KW}(hm:MI x)(hl:x.t.last<=70000)(hn:x.t.now<=70000)(f:Nat->Bool):FinD 0 x.rs.length ⟨x.rs,(x.t.drive f 0).2⟩:=by
 have hs:=(drive_spec (f:=f) (n:=0) hm.k.ok hm.s).1
 have hmu:=mu_lt hm.k.ok (by omega)
 refine⟨MI.drive hm f 0,fun r hr=>settled hs.ok hs.cs hs.waiting r hr,⟨?_,?_⟩,rfl,fun k r hk=>by omega⟩
 ·show (x.t.drive f 0).2.last<900000
  rw[hs.last];omega
 ·show (x.t.drive f 0).2.now<2 ^ 59
  have:=hs.now.2
  omega
theorem FinD.poll{i N:Nat}{x:KW}(h:FinD i N x):FinD (i+1) N (x.poll i):=by
 obtain⟨p1,p2,p3,p4,p5,p6⟩:=poll_same x i
 refine⟨h.mi.poll i,poll_sett h.sett i,⟨by rw[p3];exact h.small.last,by rw[p4];exact h.small.now⟩,p1.trans h.len,fun k r hk hr=>?_⟩
 by_cases e:k=i
 ·subst e;exact poll_how h.mi.k h.sett hr
 ·rw[p5 k e]at hr
  exact h.how k r (by omega) hr
theorem FinD.may{N:Nat}{x:KW}(h:FinD N N x){i:Nat}{r:KReq}(hr:x.rs[i]?=some r)(hg:r.how=1)(hw:r.write=false):mayB x.rs r.page r.read i=true:=by
 obtain⟨D,hD⟩:=h.mi.m
 have hil:=(List.getElem?_eq_some_iff.1 hr).1
 exact may_ok hD r.page i r.read (fun k r' hk hr'=>h.how k r' (by have:=h.len;omega) hr') h.mi.k.how (hD.read i r hr hw hg)
theorem flights_o{w0 w:World}{wo:Nat}{x:KW}(h:KO w0 w wo x)(hk:x.t.Ok)(hs:x.t.Small):∃ q,w.cell? ⟨wo,0,none⟩=some (ptr q)/\wo<w.heap.size/\
  ∀ W,Below w.heap.size w W->Calls Tryx.prog 22 #[ptr q] W fun y w'=>∃ v cs',y=.returned v/\cs'.map (·.1)=x.t.cs/\CmdsAt w' W.heap.size v cs'/\Below W.heap.size W w':=by
 obtain⟨q,h1,h2,h3⟩:=h.cell
 refine⟨q,h1,h2,fun W hB=>?_⟩
 obtain⟨F,f1,f2,f3⟩:=h3 W hB
 exact flights_c f1 hk hs
end
section
open Go.RowKit Go.Shelf Go.Lib
set_option maxRecDepth 100000
theorem flies_o{w0 w:World}{wo:Nat}{x:KW}(h:KO w0 w wo x)(hk:x.t.Ok)(hs:x.t.Small)(num:Int):
  Calls Tryx.prog 75 #[ptr wo,.int .i64 num] w fun y w'=>y=.returned (.bool (x.t.flies num))/\Below w.heap.size w w':=by
 obtain⟨q,c0,hwl,hF⟩:=flights_o h hk hs
 have HF:=Lib.hid (hF w (Below.refl _ _))
 have hcl:x.t.cs.length<=4:=Nat.le_trans hk.len hk.a.depth.2
 have hnl:∀ c∈x.t.cs,c.nums.length<1000000:=fun c hc=>by
  have h1:=cmd_len hk hc
  have h2:=hs.last
  omega
 have HNL:=Lib.hid hnl
 obtain⟨n,hn⟩:∃ n,x.t.cs.length=n:=⟨_,rfl⟩
 rw[hn]at hcl
 clear h hF hnl
 go_enter Tryx.func75,Tryz.ntmps75
 go_wp2_with fail
 refine HF.out.mono ?_
 rintro y w1 ⟨v,cs',rfl,hcs,hC,hB⟩
 have hlen:cs'.length=n:=by rw[<-hn,<-hcs,List.length_map]
 have hrow:=hC.row
 rw[hlen]at hrow
 obtain⟨va,vc,rfl⟩:=own_slice hrow
 have HC:=Lib.hid hC
 have HB:=Lib.hid hB
 have HCS:=Lib.hid hcs
 have HLEN:=Lib.hid hlen
 have HN:=Lib.hid hn
 clear hrow hC hB hcs hlen hn
 go_wp2_with fail
 go_loopg [6] n (fun k i wr=>∃ (j:Nat),k=n - j/\j<=n/\i=.int .i64 j/\wr=w1/\Hid (∀ c∈x.t.cs.take j,c.nums.any (· == num)=false))
 case atStart=>exact ⟨0,by simp,by omega,rfl,rfl,Lib.hid (by simp)⟩
 case round=>
  obtain⟨j,rfl,hj,rfl,rfl,hnone⟩:=hrel
  by_cases hlt:j<n
  ·have hltI:(j:Int)<(n:Int):=by omega
   obtain⟨⟨c,cv⟩,hc⟩:∃ c,cs'[j]?=some c:=⟨_,List.getElem?_eq_getElem (by rw[HLEN.out];exact hlt)⟩
   have hcx:x.t.cs[j]?=some c:=by rw[<-HCS.out,List.getElem?_map,hc];rfl
   have hcm:(c,cv)∈cs':=List.mem_of_getElem? hc
   have hcxm:c∈x.t.cs:=List.mem_of_getElem? hcx
   have hrow:=HC.out.rows _ hcm
   obtain⟨ra,rc,rfl⟩:∃ ra rc,cv=.slice ra c.nums.length rc:=own_slice hrow
   obtain⟨g,cap,e,_,hgl,hcell⟩:=cmd_cells HC.out.row hc
   simp only[Value.slice.injEq]at e
   obtain⟨rfl,_,rfl⟩:=e
   obtain⟨m,hm⟩:∃ m,c.nums.length=m:=⟨_,rfl⟩
   have p3:wr.cell? ⟨g,j*4+3,none⟩=some (.slice ra m rc):=by rw[<-hm];exact hcell 3 _ rfl
   have hml:m<1000000:=by rw[<-hm];exact HNL.out c hcxm
   simp only at hrow
   rw[hm]at hrow
   have HR:=Lib.hid hrow
   have HX:=Lib.hid (And.intro hcx (And.intro hcxm hm))
   clear hcell hc hcm hcx hcxm hm hrow
   go_wp2_with fail
   go_loopg [7] m (fun kk iv wx=>∃ (i:Nat),kk=m - i/\i<=m/\iv=.int .i64 i/\wx=wr/\Hid ((c.nums.take i).any (· == num)=false))
   case atStart=>exact ⟨0,by simp,by omega,rfl,rfl,Lib.hid (by simp)⟩
   case round=>
    obtain⟨i,rfl,hi,rfl,rfl,hno⟩:=hrel
    by_cases hilt:i<m
    ·have hiltI:(i:Int)<(m:Int):=by omega
     obtain⟨a,ha⟩:∃ a,c.nums[i]?=some a:=⟨_,List.getElem?_eq_getElem (by rw[HX.out.2.2];exact hilt)⟩
     obtain⟨rg,rfl,hrgl,_,hac⟩:=row_at HR.out (j:=i) (x:=.int .i64 a) (by rw[List.getElem?_map,ha];rfl) (by rw[List.length_map];exact HX.out.2.2)
     by_cases he:a=num
     ·subst he
      go_wp2_with fail
      go_ret
      refine⟨?_,HB.out⟩
      have:x.t.flies a=true:=by
       unfold St.flies
       rw[List.any_eq_true]
       exact⟨c,HX.out.2.1,List.any_eq_true.2 ⟨a,List.mem_of_getElem? ha,by simp⟩⟩
      rw[this]
      rfl
     ·go_wp2_with fail
      go_roundg (m - (i+1))
      case measure=>omega
      case rel=>
       refine⟨i+1,rfl,by omega,by go_num,rfl,Lib.hid ?_⟩
       obtain⟨h1,h2⟩:=List.getElem?_eq_some_iff.1 ha
       rw[List.take_succ_eq_append_getElem h1,h2,List.any_append,hno.out]
       simp[he]
    ·obtain rfl:i=m:=by omega
     go_wp2_with fail
     go_roundg (n - (j+1))
     case measure=>omega
     case rel=>
      refine⟨j+1,rfl,by omega,by go_num,rfl,Lib.hid ?_⟩
      obtain⟨h1,h2⟩:=List.getElem?_eq_some_iff.1 HX.out.1
      intro d hd
      rw[List.take_succ_eq_append_getElem h1,h2]at hd
      rcases List.mem_append.1 hd with hd | hd
      ·exact hnone.out d hd
      ·rw[List.mem_singleton]at hd
       subst hd
       have:=hno.out
       rwa [List.take_of_length_le (by rw[HX.out.2.2];exact Nat.le_refl _)]at this
  ·obtain rfl:j=n:=by omega
   go_wp2_with fail
   go_ret
   refine⟨?_,HB.out⟩
   have:x.t.flies num=false:=by
    unfold St.flies
    have:=hnone.out
    rw[List.take_of_length_le (by rw[HN.out];exact Nat.le_refl _)]at this
    rw[Bool.eq_false_iff]
    intro hh
    obtain⟨c,hc,h2⟩:=List.any_eq_true.1 hh
    rw[this c hc]at h2
    cases h2
   rw[this]
   rfl
end
end Go.Proofs.YticobikhndlejaaGreatDoor
