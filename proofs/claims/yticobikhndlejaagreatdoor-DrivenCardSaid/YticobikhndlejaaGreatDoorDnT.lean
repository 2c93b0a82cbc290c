/- Part 20 of the proof (see the last part). -/
import Derived.Test.YticobikhndlejaaGreatDoorDnS
import Derived.Deep.RegionLawGrows
import Derived.LaidHandle
import Derived.Stop.Joined
namespace Go.Proofs.YticobikhndlejaaGreatDoor
section
open Go.RowKit Go.Shelf Go.Lib
theorem conv_d{w:World}{b cap:Nat}{disk:List Int}(h:∀ j,j<64->w.cell? ⟨b,j,none⟩=some (.int .u8 (disk.getD j 0))){p:Nat}(hp:p<16):
  (convert 41 9 (.slice (some ⟨b,4*p,none⟩) 4 (cap - 4*p))).run Tryx.prog w=.ok (.string (bytesOf (dget disk p))) w:=by
 refine run_convert_bytes_arg (P:=Tryx.prog) _ 41 5 Tryx.underlying41 Tryx.underlying5 b (4*p) 4 (cap - 4*p) _ rfl (fun j hj=>?_) 9 Tryx.underlying9
 have h4':j<4:=by simpa using hj
 unfold dget
 simp only[Int.toNat_natCast]
 rcases (show j=0\/j=1\/j=2\/j=3 by omega)with rfl | rfl | rfl | rfl
 ·exact h (4*p+0) (by omega)
 ·exact h (4*p+1) (by omega)
 ·exact h (4*p+2) (by omega)
 ·exact h (4*p+3) (by omega)
theorem flat6:∀ {l:List KReq} {i:Nat} {x:KReq},l[i]?=some x->∀ (j:Nat) (v:Value),(kCells x)[j]?=some v->(l.flatMap kCells)[i*6+j]?=some v
 | [],_,_,h,_,_,_=>by simp at h
 | y :: l,0,x,h,j,v,hv=>by
   simp only[List.getElem?_cons_zero,Option.some.injEq]at h
   subst h
   have hj:j<(kCells y).length:=(List.getElem?_eq_some_iff.1 hv).1
   rw[List.flatMap_cons,Nat.zero_mul,Nat.zero_add,List.getElem?_append_left hj]
   exact hv
 | y :: l,i+1,x,h,j,v,hv=>by
   simp only[List.getElem?_cons_succ]at h
   have hy:(kCells y).length=6:=rfl
   rw[List.flatMap_cons,List.getElem?_append_right (by rw[hy];omega),hy,show (i+1)*6+j - 6=i*6+j by omega]
   exact flat6 h j v hv
theorem krow_of{W:World}{bx g rc:Nat}{rs:List KReq}(h1:W.cell? ⟨bx,1,none⟩=some (.slice (some ⟨g,0,none⟩) rs.length rc))(h2:∀ j u,(rs.flatMap kCells)[j]?=some u->W.cell? ⟨g,j,none⟩=some u):KRow W bx rs:=
 ⟨_,rc,h1,fun _ _ hi=>⟨g,rfl,fun j v hv=>h2 _ v (flat6 hi j v hv)⟩⟩
structure PG(w:World)(wo:Nat)(ra:Option Addr)(rc N:Nat)(L:List Value)(b:Nat)(disk:List Int)(wx:World):Prop where
 bel:Below w.heap.size w wx
 c1:wx.cell? ⟨wo,1,none⟩=some (.slice ra N rc)
 len:L.length=N*6
 row:(ra=none/\N=0/\rc=0)\/∃ g cur,ra=some ⟨g,0,none⟩/\w.heap.size<=g/\g≠wo/\g≠b/\wx.heap[g]?=some (.cells cur 32 (0,0))/\cur.size=rc*6/\∀ j u,L[j]?=some u->wx.cell? ⟨g,j,none⟩=some u
 dsk:∀ j,j<64->wx.cell? ⟨b,j,none⟩=some (.int .u8 (disk.getD j 0))
section
variable {w wx W:World} {wo:Nat} {ra:Option Addr} {rc N:Nat} {L:List Value} {b:Nat} {disk:List Int}
theorem PG.below(h:PG w wo ra rc N L b disk wx)(hb:Below wx.heap.size wx W):PG w wo ra rc N L b disk W:=by
 refine⟨h.bel.trans (hb.mono h.bel.size),cell_later hb h.c1,h.len,h.row.imp id ?_,fun j hj=>cell_later hb (h.dsk j hj)⟩
 rintro⟨g,cur,e,h1,h2,h3,h4,h5,h6⟩
 exact⟨g,cur,e,h1,h2,h3,(hb.block g (lt_of_heap h4)).trans h4,h5,fun j u hj=>cell_later hb (h6 j u hj)⟩
theorem PG.holds(h:PG w wo ra rc N L b disk wx):∀ a,ra=some a->∀ j u,L[j]?=some u->wx.cell? (a.add j)=some u:=fun a ha j u hj=>by
 rcases h.row with ⟨e,_⟩ |⟨g,cur,e,_,_,_,_,_,h6⟩
 ·rw[e]at ha;cases ha
 ·rw[e]at ha
  obtain rfl:=Option.some.inj ha
  rw[show (⟨g,0,none⟩:Addr).add j=⟨g,j,none⟩ by unfold Addr.add;split <;> simp_all]
  exact h6 j u hj
theorem PG.spare{g:Nat}(h:PG w wo (some ⟨g,0,none⟩) rc N L b disk wx)(hr:N+1<=rc):∀ j,j<6->(wx.cell? ⟨g,0+N*6+j,none⟩).isSome=true/\wx.frozen? ⟨g,0+N*6+j,none⟩=false:=fun j hj=>by
 rcases h.row with ⟨e,_⟩ |⟨g',cur,e,_,_,_,h4,h5,_⟩
 ·cases e
 ·simp only[Option.some.injEq,Addr.mk.injEq]at e
  obtain⟨rfl,_⟩:=e
  refine⟨?_,free_of h4⟩
  have hlt:0+N*6+j<cur.size:=by rw[h5];omega
  rw[cell_of (i:=0+N*6+j) h4 (Array.getElem?_eq_getElem hlt)]
  rfl
theorem PG.write{g:Nat}(h:PG w wo (some ⟨g,0,none⟩) rc N L b disk wx)(hr:N+1<=rc)(news:List Value)(hn:news.length=6):
  PG w wo (some ⟨g,0,none⟩) rc N L b disk (wx.setCells g (0+N*6) news)/\∀ j u,(L ++ news)[j]?=some u->(wx.setCells g (0+N*6) news).cell? ⟨g,j,none⟩=some u:=by
 have hsp:=h.spare hr
 rcases h.row with ⟨e,_⟩ |⟨g',cur,e,h1,h2,h3,h4,h5,h6⟩
 ·cases e
 ·simp only[Option.some.injEq,Addr.mk.injEq]at e
  obtain⟨rfl,_⟩:=e
  have hc:=chg_setCells g news (0+N*6) wx
  obtain⟨cur',k1,k2⟩:=heap_setCellsE g news (0+N*6) wx cur h4
  have hold:∀ j u,L[j]?=some u->(wx.setCells g (0+N*6) news).cell? ⟨g,j,none⟩=some u:=fun j u hj=>by
   have hjl:j<N*6:=by rw[<-h.len];exact (List.getElem?_eq_some_iff.1 hj).1
   rw[World.cell?_setCells_out g news (0+N*6) wx ⟨g,j,none⟩ (fun _ _=>.inl (by simp only;omega))]
   exact h6 j u hj
  refine⟨⟨h.bel.trans (hc.to_below (fun k hk=>by rw[hk];exact h1) h.bel.size),?_,h.len,.inr ⟨g,cur',rfl,h1,h2,h3,k1,k2.trans h5,hold⟩,fun j hj=>?_⟩,fun j u hj=>?_⟩
  ·rw[World.cell?_setCells_out g news (0+N*6) wx ⟨wo,1,none⟩ (fun e _=>absurd e.symm h2)]
   exact h.c1
  ·rw[World.cell?_setCells_out g news (0+N*6) wx ⟨b,j,none⟩ (fun e _=>absurd e.symm h3)]
   exact h.dsk j hj
  ·by_cases hjl:j<L.length
   ·rw[List.getElem?_append_left hjl]at hj
    exact hold j u hj
   ·rw[List.getElem?_append_right (by omega)]at hj
    obtain⟨q1,q2⟩:=List.getElem?_eq_some_iff.1 hj
    have:=World.cell?_setCells_in g news (0+N*6) wx (fun i hi=>(hsp i (by omega)).1) (j - L.length) q1
    rw[show 0+N*6+(j - L.length)=j by have:=h.len;omega]at this
    rw[this,q2]
theorem step_app{ops:Array Oper}{o:Oper}{a:Act}{K:Act->World->Prop}{Q:Exit->Act->World->Prop}{E:Prop}(h:PG w wo ra rc N L b disk wx)(hg:o.guard=none)(s x:Operand)
  (hop:o.op=Op.call {callee:=Callee.builtin Builtin.append,args:=#[s,x],argTypes:=#[34,34]}) (hs:a.eval s=.slice ra N rc) (ad:Addr) (news:List Value) (hx:a.eval x=.slice (some ad) 1 1)
  (hn:news.length=6) (hc:∀ j u,news[j]?=some u->wx.cell? (ad.add j)=some u) (h1c:∀ u∈news,u.oneCell'=true) (hN:N<=100000)
  (hK:∀ (g rc':Nat) (W3:World),PG w wo ra rc N L b disk W3->(∀ j u,(L ++ news)[j]?=some u->W3.cell? ⟨g,j,none⟩=some u)->K (a.put o.dst (.slice (some ⟨g,0,none⟩) (N+1) rc')) W3):
  if Region.wanted o (yielded ops a.tmps)=true then Oper.wp Tryx.prog o a wx K Q else E:=by
 obtain⟨i0,hi,hz0,hz1,hz2⟩:=info_parts Tryz.infoQ
 by_cases hr:N+1<=rc
 ·rcases h.row with ⟨_,_,h3⟩ |⟨g,cur,rfl,_⟩
  ·omega
  ·obtain⟨k1,k2⟩:=h.write hr news hn
   exact step_append_room hg s x _ hop _ i0 6 Tryx.underlying34 hi hz1 g 0 N rc hs ad 1 1 news hx (by rw[hn]) hc h1c hr (by rw[hn];exact h.spare hr) (hK g rc _ k1 k2)
 ·refine step_append_grows hg s x _ hop _ i0 _ 6 64 Tryx.underlying34 hi hz0 hz1 hz2 rfl (by omega) ra N rc L hs (fun e=>?_) h.len h.holds ad 1 1 news hx (by rw[hn]) hc h1c (by omega) (by unfold maxLen;omega) (by omega) fun v' W3 q1 q2=>?_
  ·rcases h.row with ⟨_,h2,h3⟩ |⟨g,cur,e2,_⟩
   ·exact⟨h2,h3⟩
   ·rw[e2]at e;cases e
  ·have hb:Below wx.heap.size wx W3:=(Below.refl _ _).grown q2 (Nat.le_refl _) fun k e=>by cases e
   rcases q1.2 with ⟨_,h0⟩ |⟨g,cap,cur,rfl,_,h3,h4,h5,h6,h7⟩
   ·omega
   ·refine hK g cap W3 (h.below hb) fun j u hj=>cell_of h3 ?_
    have hjl:j<(N+1)*6:=by
     have:=(List.getElem?_eq_some_iff.1 hj).1
     rw[List.length_append,h.len,hn]at this
     omega
    rw[<-h7,List.getElem?_take_of_lt (by omega)]at hj
    rw[<-Array.getElem?_toList];exact hj
theorem KAp.pages{x:KW}(h:KAp w wx wo x b){dt:TypeId}{cur:Array Value}(hb:wx.heap[b]?=some (.cells cur dt (0,0)))(hd:cur.toList.take 64=disk.map fun v=>Value.int .u8 v)(hl:disk.length=64):
  ∃ ra rc,PG w wo ra rc x.rs.length (x.rs.flatMap kCells) b disk wx:=by
 obtain⟨q,rv,F,h1,h2⟩:=h.ex
 have hlen:(x.rs.flatMap kCells).length=x.rs.length*6:=h1.row.1
 have hds:∀ j,j<64->wx.cell? ⟨b,j,none⟩=some (.int .u8 (disk.getD j 0)):=fun j hj=>cell_of hb (by
  have e:(disk.map fun v=>Value.int .u8 v)[j]?=some (.int .u8 (disk.getD j 0)):=by
   rw[List.getElem?_map,List.getD_eq_getElem?_getD,List.getElem?_eq_getElem (by omega)];rfl
  rw[<-hd,List.getElem?_take_of_lt (by omega)]at e
  rw[<-Array.getElem?_toList];exact e)
 rcases h1.row.2 with ⟨rfl,h0⟩ |⟨g,cap,cu,rfl,_,h3,h4,h5,h6,h7⟩
 ·refine⟨none,0,h.below,?_,hlen,.inl ⟨rfl,h0,rfl⟩,hds⟩
  have:=h1.c1
  rw[h0]
  exact this
 ·refine⟨_,cap,h.below,h1.c1,hlen,.inr ⟨g,cu,rfl,(h2 g (.inr (.inr rfl))).1,fun e=>?_,(h2 g (.inr (.inr rfl))).2,h3,h6,fun j u hj=>cell_of h3 ?_⟩,hds⟩
  ·subst e
   exact ne_of_heap h3 h1.blk (fun z=>by injection z with _ z2 _;exact absurd z2 (by decide)) rfl
  ·rw[<-h7,List.getElem?_take]at hj
   split at hj
   ·rw[<-Array.getElem?_toList];exact hj
   ·cases hj
end
end
section
open Go.RowKit Go.Shelf Go.Lib
set_option maxRecDepth 100000
set_option maxHeartbeats 8000000
theorem Tryz.infoBd:(Tryx.prog.info? 4).map (fun i=>(i.zero,i.size,i.bytes))=some (some (.bool false),1,1):=by kernel_rfl
theorem may_page{w W3:World}{wo:Nat}{ra:Option Addr}{rc N:Nat}{L:List Value}{b:Nat}{dk:List Int}{y:KW}(hF:FinD N N y)(hd:y.t.disk=dk)(hL:y.rs.flatMap kCells=L)(hP:PG w wo ra rc N L b dk W3){gg cap2 p:Nat}{rd:ByteArray}(hp:p<16)(hrd:bytesOf (dget dk (p:Int))=rd)
  (hc:∀ (j:Nat) (u:Value),(L ++ [.int .i64 0,.bool false,.int .i64 p,.string ⟨#[]⟩,.int .i64 0,.string rd])[j]?=some u->W3.cell? ⟨gg,j,none⟩=some u) (hN:N<=65536):
  Calls Tryx.prog 28 #[.pointer (some ⟨W3.heap.size,0,none⟩),.int .i64 N] (W3.alloc (.cells #[.pointer none,.slice (some ⟨gg,0,none⟩) (N+1) cap2] 36)) fun x w'=>x=.returned (.bool true)/\PG w wo ra rc N L b dk w':=by
 obtain⟨r,hr⟩:∃ r:KReq,r=⟨0,false,p,⟨#[]⟩,0,rd⟩:=⟨_,rfl⟩
 have hcl:kCells r=[.int .i64 0,.bool false,.int .i64 p,.string ⟨#[]⟩,.int .i64 0,.string rd]:=by rw[hr];rfl
 have hlen:(y.rs ++ [r]).length=N+1:=by rw[List.length_append,hF.len];rfl
 have hb4:Below W3.heap.size W3 (W3.alloc (.cells #[.pointer none,.slice (some ⟨gg,0,none⟩) (N+1) cap2] 36)):=(Below.refl _ _).alloc (Nat.le_refl _) _
 have hKR:KRow (W3.alloc (.cells #[.pointer none,.slice (some ⟨gg,0,none⟩) (N+1) cap2] 36)) W3.heap.size (y.rs ++ [r]):=
  krow_of (by rw[hlen];exact cell_of (World.alloc_heap_new _ _) rfl) fun j u hj=>cell_later hb4 (hc j u (by rw[<-hL,<-hcl];simpa using hj))
 have hrN:(y.rs ++ [r])[N]?=some r:=by rw[List.getElem?_append_right (by rw[hF.len];exact Nat.le_refl _),hF.len,Nat.sub_self];rfl
 have hmay:mayB (y.rs ++ [r]) r.page r.read N=true:=by
  rw[mayB_app (by rw[hF.len];exact Nat.le_refl _),hr]
  have:=hF.page (p:Int) (by omega)
  rw[hd,hrd]at this
  exact this
 refine (may_k _ _ _ hKR N r hrN (by rw[hlen];omega)).mono ?_
 rintro z w5 ⟨rfl,hB5⟩
 rw[hmay]
 exact⟨rfl,(hP.below hb4).below hB5⟩
theorem driven_m(d:Int)(s k:ByteArray)(w:World)(hg:ErrVar w)(h1:-9223372036854775808<=d/\d<=9223372036854775807)(hsz:s.size<=maxLen)(hkz:k.size<=maxLen):
  Calls Tryx.prog 9 #[.int .i64 d,.string s,.string k] w fun x w'=>x=.returned (.bool true)/\Below w.heap.size w w':=by
 have hp:=pickI_lt d (n:=4) (by omega)
 obtain⟨D,hD⟩:∃ D,(1+pickI d 4).toNat=D:=⟨_,rfl⟩
 have hD4:1<=D/\D<=4:=by omega
 have HG:=Lib.hid hg
 have HDD:=Lib.hid hD
 clear hg hp hD
 by_cases hbig:(s.size:Int)>65536
 ·go_enter Tryx.func9,Tryz.ntmps9
  go_wp2_with fail
  go_ret
  exact⟨rfl,Below.refl _ _⟩
 by_cases hbig2:(k.size:Int)>65536
 ·go_enter Tryx.func9,Tryz.ntmps9
  go_wp2_with fail
  go_ret
  exact⟨rfl,Below.refl _ _⟩
 go_enter Tryx.func9,Tryz.ntmps9
 go_wp2_with fail
 refine (begun_o d w HG.out h1).mono ?_
 rintro y w1 ⟨wo,rfl,hK⟩
 rw[HDD.out]at hK
 have HK:=Lib.hid hK
 clear hK
 go_wp2_with fail
 go_loopg [8,9] s.size (fun k ok i wr=>∃ (j:Nat) (x:KW),k=s.size - j/\j<=s.size/\ok=.bool true/\i=.int .i64 j/\KO w wr wo x/\Hid (At D j x/\MI x))
 case atStart=>exact ⟨0,_,by simp,by omega,rfl,rfl,HK.out,Lib.hid ⟨At.new hD4,mi_new hD4⟩⟩
 case round=>
  obtain⟨j,x,rfl,hj,rfl,rfl,hKr,hAt⟩:=hrel
  by_cases hlt:j<s.size
  ·have hltI:(j:Int)<(s.size:Int):=by omega
   have g0:(0:Int)<=(j:Int):=by omega
   obtain⟨b,hb⟩:∃ b:UInt8,s[j]=b:=⟨_,rfl⟩
   have hbn:=b.toNat_lt
   have HKr:=Lib.hid hKr
   clear hKr
   go_wp2_with fail
   refine (act_o HKr.out HG.out hAt.out.1.inv (hAt.out.1.small (by omega)) (hAt.out.1.tick (by omega)) (by have:=hAt.out.1.rs;omega) b.toNat (by omega)).mono ?_
   rintro y w2 ⟨rfl,hK2⟩
   have hAt2:At D (j+1) (x.act b.toNat)/\MI (x.act b.toNat):=⟨hAt.out.1.act b.toNat (by omega),hAt.out.2.act b.toNat (by omega)⟩
   have HK2:=Lib.hid hK2
   have HA2:=Lib.hid hAt2
   clear hK2 hAt2
   go_wp2_with fail
   go_roundg (s.size - (j+1))
   case measure=>omega
   case rel=>exact ⟨j+1,_,rfl,by omega,rfl,by go_num,HK2.out,HA2⟩
  ·obtain rfl:j=s.size:=by omega
   obtain⟨W1,rfl⟩:∃ z,z=wr:=⟨_,rfl⟩
   obtain⟨q,c0,hwl,hDr⟩:=drive_o hKr hAt.out.1.inv.ok (by have:=hAt.out.1.last;omega) (by have:=hAt.out.1.now;omega)
   have HDR:=Lib.hid hDr
   obtain⟨f,hf⟩:∃ f:Nat->Bool,(fun i=>(kBits k).getD i false)=f:=⟨_,rfl⟩
   have hF:=FinD.drive hAt.out.2 (by have:=hAt.out.1.last;omega) (by have:=hAt.out.1.now;omega) f
   have hE:=(drive_spec (f:=f) (n:=0) hAt.out.2.k.ok hAt.out.2.s).1
   have hag:=drive_again hAt.out.2.k.ok hAt.out.2.s f fun i=>([]:List Bool).getD i false
   obtain⟨T,hT⟩:∃ T:St,(x.t.drive f 0).2=T:=⟨_,rfl⟩
   obtain⟨N,hN⟩:∃ N,x.rs.length=N:=⟨_,rfl⟩
   have hN7:N<=65536:=by have:=hAt.out.1.rs;omega
   rw[hT]at hF hE hag
   rw[hN]at hF
   have HT:=Lib.hid (And.intro hf hT)
   have HF:=Lib.hid hF
   have hTn:T.now<2 ^ 58:=by
    have h1:=hE.now.2
    have h2:=mu_lt hAt.out.2.k.ok (by have:=hAt.out.1.last;omega)
    have h3:=hAt.out.1.now
    omega
   have HE:=Lib.hid (And.intro hE.cs (And.intro hE.waiting (And.intro hag hTn)))
   have HKR:=Lib.hid hKr
   obtain⟨i0,hi,hz0,hz1,hz2⟩:=info_parts Tryz.infoBd
   clear hDr hKr hF hf hT hN hE hag hTn
   go_wp2_with fail
   go_loopg [10,11] k.size (fun kk lv iv wx=>∃ (j2:Nat),kk=k.size - j2/\j2<=k.size/\iv=.int .i64 j2/\wx.ownsRow W1.heap.size 4 1 lv j2 (((kBits k).take j2).map Value.bool)/\Below W1.heap.size W1 wx)
   case atStart=>exact ⟨0,by simp,by omega,rfl,World.ownsRow_nil _ _ _ _,Below.refl _ _⟩
   case round=>
    obtain⟨j2,rfl,hj2,rfl,hrl,hBl⟩:=hrel
    by_cases hl2:j2<k.size
    ·have hl2I:(j2:Int)<(k.size:Int):=by omega
     have g2:(0:Int)<=(j2:Int):=by omega
     have hsucc:=kBits_succ hl2
     obtain⟨b,hb⟩:∃ b:UInt8,k[j2]=b:=⟨_,rfl⟩
     rw[hb]at hsucc
     have hbn:=b.toNat_lt
     obtain⟨m2,hm2⟩:∃ m2,b.toNat % 2=m2:=⟨_,rfl⟩
     have hbr:((b.toNat:Int)).tmod 2=(m2:Int):=by rw[Int.tmod_eq_emod_of_nonneg (by omega)];omega
     rw[hm2]at hsucc
     have hmm:m2=0\/m2=1:=by omega
     have HSU:=Lib.hid hsucc
     have hszl:=hBl.size
     clear hsucc hm2
     rcases hmm with rfl | rfl
     all_goals
      go_wp2_with (at_builtin;refine wpList_append_own _ rfl _ _ 59 rfl W1.heap.size 4 i0 (.bool false) 1 1 Tryx.underlying59 hi hz0 hz1 hz2 rfl (by decide) _ _ _ rfl (hrl.alloc _) ⟨wr.heap.size,0,none⟩ 1 1 [.bool _] rfl rfl (World.news_of_block (World.alloc_heap_new wr _)) (by simp[Value.oneCell']) ?_ ?_ ?_ ?_)
      ·unfold maxLen;omega
      ·omega
      ·simp;omega
      intro v' w4 hown' hgrow _
      have hB4:Below W1.heap.size W1 w4:=(hBl.alloc hBl.size _).grown hgrow (by simp;omega) (fun k ek=>(hrl.lt k ek).1)
      have HO:=Lib.hid hown'
      clear hown' hgrow hrl
      go_wp2
      go_roundg (k.size - (j2+1))
      case measure=>omega
      case rel=>exact ⟨j2+1,rfl,by omega,by go_num,by rw[HSU.out,List.map_append,List.map_take];exact HO.out,hB4⟩
    ·obtain rfl:j2=k.size:=by omega
     have hall:(kBits k).take k.size=kBits k:=List.take_of_length_le (by rw[kBits_len];exact Nat.le_refl _)
     rw[hall]at hrl
     obtain⟨la,lc,rfl⟩:=own_slice hrl
     have hBr:BRow wr (.slice la k.size lc) (kBits k):=by
      unfold BRow
      rw[kBits_len]
      exact ownsRow_low hrl (Nat.zero_le _)
     have HCR:=Lib.hid (HDR.out wr hBl _ _ hBr (by rw[kBits_len];omega))
     have c4:=(hBl.cell (p:=⟨wo,0,none⟩) hwl).trans c0
     clear hall hrl hBr hBl
     go_upto_region 18 with fail
     refine HCR.out.mono ?_
     rintro y w2 ⟨rfl,hK2,_⟩
     rw[HT.out.1,HT.out.2]at hK2
     go_upto_region 18 with fail
     obtain⟨q2,d0,dwl,hWt⟩:=waiting_o hK2 HF.out.mi.k.ok HF.out.small
     obtain⟨q2',d0',_,hFl⟩:=flights_o hK2 HF.out.mi.k.ok HF.out.small
     obtain rfl:q2'=q2:=by have:=d0'.symm.trans d0;simpa[ptr]using this
     obtain⟨q2'',d0'',_,hDr2⟩:=drive_o hK2 HF.out.mi.k.ok HF.out.small.last HE.out.2.2.2
     obtain rfl:q2''=q2':=by have:=d0''.symm.trans d0;simpa[ptr]using this
     have HW2:=Lib.hid (hWt _ (Below.refl _ _))
     have HFL:=Lib.hid hFl
     have HD2:=Lib.hid hDr2
     clear hWt hFl hDr2 d0' d0'' hK2 c4
     go_wp2_with fail
     refine HW2.out.mono ?_
     rintro y w3 ⟨v1,rfl,hr3,hB3⟩
     rw[HE.out.2.1]at hr3
     obtain⟨wa,wc,rfl⟩:=own_slice hr3
     have d3:=(hB3.cell (p:=⟨wo,0,none⟩) dwl).trans d0
     have HB3:=Lib.hid hB3
     clear hr3 hB3
     go_wp2_with fail
     refine (HFL.out _ HB3.out).mono ?_
     rintro y w4 ⟨v2,cs',rfl,hcs,hC,hB4⟩
     have hcs0:cs'=[]:=by
      have:=hcs.trans HE.out.1
      simpa using this
     subst hcs0
     have hr4:=hC.row
     obtain⟨fa,fc,rfl⟩:=own_slice hr4
     have hB24:=HB3.out.trans (hB4.mono HB3.out.size)
     have d4:=(hB24.cell (p:=⟨wo,0,none⟩) dwl).trans d0
     have HB4:=Lib.hid hB24
     clear hcs hC hB4 hr4 hB24 d3
     go_wp2_with fail
     refine (HD2.out _ HB4.out (.slice none 0 0) [] (World.ownsRow_nil _ _ _ _) (by simp)).mono ?_
     rintro y w5 ⟨rfl,hK5,_⟩
     rw[HE.out.2.2.1]at hK5 ⊢
     obtain⟨q5,d5,dwl5,hDk⟩:=disk_o hK5
     have HDK:=Lib.hid (hDk _ (Below.refl _ _))
     have HK5:=Lib.hid hK5
     clear hDk hK5 d4
     go_wp2_with fail
     refine HDK.out.mono ?_
     rintro y w6 ⟨v6,rfl,hrow6,hB6,_⟩
     rcases hrow6.2 with ⟨_,h0⟩ |⟨bd,dc,cur,rfl,hbl,hbh,hb3,hb4,hb5,hb6⟩
     ·omega
     have hbd:=lt_of_heap hbh
     have hK6:=HK5.out.apart hB6 hbl hbd
     have HK6:=Lib.hid hK6
     have HBD:=Lib.hid (And.intro hbh hb6)
     clear hrow6 hB6 hK6 hbh hb4 hb5 hb6 hbl
     go_wp2_with fail
     go_loopg [16] N (fun kk iv wx=>∃ (i:Nat) (y:KW),kk=N - i/\i<=N/\iv=.int .i64 i/\Hid (KAp w wx wo y bd)/\Hid (FinD i N y/\y.t.disk=T.disk/\wx.heap[bd]?=w6.heap[bd]?))
     case atStart=>exact ⟨0,_,by simp,by omega,rfl,HK6,Lib.hid ⟨HF.out,rfl,rfl⟩⟩
     case round=>
      obtain⟨i,y,rfl,hi',rfl,hKy,hFy⟩:=hrel
      obtain⟨ra,rc,e1,ewl,ecs⟩:=hKy.out.ko.rows
      rw[hFy.out.1.len]at e1
      by_cases hin:i<N
      ·have hinI:(i:Int)<(N:Int):=by omega
       have hi0:(0:Int)<=(i:Int):=by omega
       clear ecs
       go_upto_region 30 with fail
       refine (poll_b hKy.out HG.out hFy.out.1.mi.k hFy.out.1.small i (by rw[hFy.out.1.len];exact hin)).mono ?_
       rintro z w7 ⟨rfl,hK7,hbk⟩
       have hF7:=hFy.out.1.poll
       have hdk:(y.poll i).t.disk=T.disk:=(poll_same y i).2.1.trans hFy.out.2.1
       obtain⟨rb,rd,f1,fwl,fcs⟩:=hK7.ko.rows
       rw[hF7.len]at f1
       obtain⟨r,hr⟩:∃ r,(y.poll i).rs[i]?=some r:=⟨_,List.getElem?_eq_getElem (by rw[hF7.len];exact hin)⟩
       obtain⟨gg,rfl,_,fc,_⟩:=fcs i r hr
       have hh:(r.how == 0)=false:=by simpa using hF7.how i r (by omega) hr
       have f4:w7.cell? ⟨gg,i*6+4,none⟩=some (.int .i64 r.how):=fc 4 _ rfl
       have HK7:=Lib.hid hK7
       have HF7:=Lib.hid (And.intro hF7 (And.intro hdk (hbk.trans hFy.out.2.2)))
       clear hK7 hF7 hdk hbk fcs fc hr e1
       go_wp2_with fail
       go_roundg (N - (i+1))
       case measure=>omega
       case rel=>exact ⟨i+1,_,rfl,by omega,by go_num,HK7,HF7⟩
      ·obtain rfl:i=N:=by omega
       have hbd6:wr.heap[bd]?=_:=hFy.out.2.2.trans HBD.out.1
       obtain⟨ra',rc',hPG⟩:=hKy.out.pages hbd6 (by rw[hFy.out.2.1];simpa using HBD.out.2) (hFy.out.1.mi.k.ok.a.dlen)
       rw[hFy.out.1.len]at hPG
       obtain⟨dk,hdk⟩:∃ dk,y.t.disk=dk:=⟨_,rfl⟩
       obtain⟨L,hL⟩:∃ L,y.rs.flatMap kCells=L:=⟨_,rfl⟩
       rw[hdk,hL]at hPG
       have HPG:=Lib.hid hPG
       have HDK:=Lib.hid (And.intro hdk hL)
       clear ecs hPG hdk hL hbd6
       go_wp2_with fail
       go_loopg [17] 16 (fun kk pv wx=>∃ (p:Nat),kk=16 - p/\p<=16/\pv=.int .i64 p/\Hid (PG w wo ra' rc' i L bd dk wx))
       case atStart=>exact ⟨0,by simp,by omega,rfl,HPG⟩
       case round=>
        obtain⟨p,rfl,hp,rfl,hP⟩:=hrel
        by_cases hp16:p<16
        ·have hpI:(p:Int)<16:=by omega
         have hp0:(0:Int)<=(p:Int):=by omega
         have hw4:IntKind.i64.wrap (4*(p:Int))=4*(p:Int):=by rw[IntKind.wrap_i64];omega
         have hw5:IntKind.i64.wrap (4*(p:Int)+4)=4*(p:Int)+4:=by rw[IntKind.wrap_i64];omega
         have hcv:=conv_d (cap:=dc) hP.out.dsk hp16
         obtain⟨rd,hrd⟩:∃ rd,bytesOf (dget dk (p:Int))=rd:=⟨_,rfl⟩
         rw[hrd]at hcv
         have HRD:=Lib.hid hrd
         clear hrd
         go_upto_region 36 with fail
         obtain⟨V1,hV1⟩:∃ V1,wr.alloc (.cells #[.int .i64 0,.bool false,.int .i64 p,.string ⟨#[]⟩,.int .i64 0,.string rd] 32)=V1:=⟨_,rfl⟩
         have hVb:Below wr.heap.size wr V1:=by rw[<-hV1];exact (Below.refl _ _).alloc (Nat.le_refl _) _
         have hVr:V1.heap[wr.heap.size]?=some (.cells #[.int .i64 0,.bool false,.int .i64 p,.string ⟨#[]⟩,.int .i64 0,.string rd] 32 (0,0)):=by rw[<-hV1];exact World.alloc_heap_new _ _
         rw[hV1]
         have hP1:=hP.out.below hVb
         have m1:=hP1.c1
         have r0:V1.cell? ⟨wr.heap.size,0,none⟩=some (.int .i64 0):=cell_of hVr rfl
         have r1:V1.cell? ⟨wr.heap.size,1,none⟩=some (.bool false):=cell_of hVr rfl
         have r2:V1.cell? ⟨wr.heap.size,2,none⟩=some (.int .i64 p):=cell_of hVr rfl
         have r3:V1.cell? ⟨wr.heap.size,3,none⟩=some (.string ⟨#[]⟩):=cell_of hVr rfl
         have r4:V1.cell? ⟨wr.heap.size,4,none⟩=some (.int .i64 0):=cell_of hVr rfl
         have r5:V1.cell? ⟨wr.heap.size,5,none⟩=some (.string rd):=cell_of hVr rfl
         have n1:=World.new_ne V1 _ m1
         have n2:=World.new_ne V1 _ r0
         have wl1:wo<V1.heap.size:=World.block_lt_of_cell? V1 _ m1
         have wl2:wr.heap.size<V1.heap.size:=World.block_lt_of_cell? V1 _ r0
         have HP1:=Lib.hid hP1
         clear hV1 hVb hVr hP1 hcv
         go_region_law
          ((refine step_app (HP1.out.below (by go_grown)) (by rfl) _ _ (by rfl) (by rfl) ⟨V1.heap.size,0,none⟩ [.int .i64 0,.bool false,.int .i64 p,.string ⟨#[]⟩,.int .i64 0,.string rd] (by rfl) (by rfl) (World.news_of_block (cs:=#[.int .i64 0,.bool false,.int .i64 p,.string ⟨#[]⟩,.int .i64 0,.string rd]) (t:=32) (fr:=(0,0)) (heap_alloc_new V1 _)) (by simp[Value.oneCell']) (by omega) ?_;intro gg cap2 W3 hP3 hc3))
         all_goals
          have HP3:=Lib.hid (And.intro hP3 hc3)
          clear hP3 hc3
          go_wp2_with fail
          refine (may_page hFy.out.1 HDK.out.1 HDK.out.2 HP3.out.1 hp16 HRD.out HP3.out.2 (by omega)).mono ?_
          rintro z w8 ⟨rfl,hP8⟩
          have HP8:=Lib.hid hP8
          clear hP8
          go_wp2_with fail
          go_roundg (16 - (p+1))
          case measure=>omega
          case rel=>exact ⟨p+1,rfl,by omega,by go_num,HP8.out⟩
        ·obtain rfl:p=16:=by omega
         go_wp2_with fail
         go_ret
         exact⟨rfl,hP.out.bel⟩
end
section
open Go.ChangeShapes Go.WideShapes Go.RowKit
abbrev laidL:List (String×DataW Unit):=[("errors.errorType",Rows.laid_errors_errorType)]
theorem Tryz.own:ownKnob Tryz.prog.godebug=none:=by kernel_rfl
theorem Tryz.et:Tryz.prog.globalNamed "errors.errorType" =some 0:=by kernel_rfl
theorem Tryz.rt:(Tryz.prog.cutTypes.find? (·.1 == "internal/reflectlite.rtype")).map (·.2)=some 205:=by kernel_rfl
theorem Tryz.oneRow:((List.range 286).filter fun t=>Tryz.prog.rowNamed t [101,114,114,111,114])=[81]:=by kernel_rfl
theorem Tryz.size:Tryz.prog.types.size=286:=by kernel_rfl
theorem handle_of_laid{W:World}(h:laidMetH Tryz.prog laidL W):ErrVar W:=by
 have h':laidMet Tryz.prog [] W/\handlesMet Tryz.prog laidL W:=h
 obtain⟨name,u,ty,e1,e2,e3,e4,e5⟩:=h'.2 _ (List.mem_singleton.2 rfl)
 have en:name=[101,114,114,111,114]:=(Option.some.inj e1).symm
 subst en
 obtain rfl:=Option.some.inj (Tryz.rt.symm.trans e2)
 have hm:ty∈(List.range 286).filter fun t=>Tryz.prog.rowNamed t [101,114,114,111,114]:=List.mem_filter.2 ⟨List.mem_range.2 (by rw[<-Tryz.size];exact e3),e4⟩
 rw[Tryz.oneRow]at hm
 obtain rfl:=List.mem_singleton.1 hm
 have hh:typeHandle Tryz.prog 81=.pointer (some ⟨1,81,none⟩):=by kernel_rfl
 rw[hh]at e5
 simpa using World.var?_cell Tryz.et e5 0
noncomputable def laidWorld(os:Os):World:=
 let w0:=World.holding Tryz.prog os ⟨#[],#[],[]⟩
 {w0 with heap:=w0.heap.modify 0 fun
   | .cells _ t frozen=>.cells #[rty 81] t frozen
   | o=>o}
theorem laidWorld_met(os:Os)(args:Array Value):laidMetH Tryz.prog laidL ((laidWorld os).forCall (fun _ _=>0) ⟨#[],args,[]⟩).memory:=
 laidMetH_of_parts (laidMet_nil _ _) (by kernel_rfl)
end
section
open Go Go.Conc
open Go.ConcN (upd upd_same upd_ne)
inductive Trn(R:Program)(main:Bool):Nat->Goroutine->Goroutine->Prop
 | refl (g:Goroutine):Trn R main 0 g g
 | step {n:Nat} {g g' g'':Goroutine} (hs:g.status=.running) (h:∀ w,stepG R main g w=.go g' w #[]) (ht:Trn R main n g' g''):Trn R main (n+1) g g''
section
variable {R:Program} {main:Bool} {n m:Nat} {g g' g'' g₂:Goroutine} {s:Seat}
theorem Trn.trans(h:Trn R main n g g')(h2:Trn R main m g' g''):Trn R main (n+m) g g'':=by
 induction h with
 | refl=>rw [Nat.zero_add];exact h2
 | step hs h _ ih=>rw [Nat.add_right_comm];exact .step hs h (ih h2)
theorem Trn.one(hs:g.status=.running)(h:∀ w,stepG R main g w=.go g' w #[]):Trn R main 1 g g':=.step hs h (.refl _)
theorem trn_goes{K:World->Prop}{Still:Loc->Prop}{B:Nat}(h:Trn R main n g g')(hA:AtIn R main K Still B s g' g₂):∀ w,Goes R main (RK K) (DS Still B) (fun g _=>∃ g₂,AtIn R main K Still B s g g₂) n g w:=by
 induction h with
 | refl=>exact fun w w₁ _=>⟨_,hA⟩
 | step hs h _ ih=>
   refine fun w=>.inr ⟨hs,fun w₁ _=>?_⟩
   rw[h w₁]
   exact⟨⟨rfl,fun e he=>by simp at he⟩,ih hA _⟩
theorem sits_of{K:World->Prop}{Still:Loc->Prop}{B:Nat}(h:Trn R main n g g')(hA:AtIn R main K Still B s g' g₂):Sits R main K Still B s (n+1) g:=.inl ⟨n,default,rfl,trn_goes h hA default⟩
theorem trn_ctlK{K:FuncId}{ds:List Deferred}{t:Array Value}{cs:List Frame}(a:Nat){k k':List Item}(h:ctlN a k=some k'):Trn R main a (mkG (fK K ds t k) cs) (mkG (fK K ds t k') cs):=by
 induction a generalizing k with
 | zero=>
   obtain rfl:=Option.some.inj h
   exact .refl _
 | succ a ih=>
   unfold ctlN at h
   cases hk:ctl1 k with
   | none=>rw [hk]at h;cases h
   | some k1=>
     rw[hk]at h
     exact .step rfl (fun w=>ctl1_stepK hk _ _ _ w) (ih h)
theorem trn_ctlD{D:FuncId}{t:Array Value}{cs:List Frame}(a:Nat){k k':List Item}(h:ctlN a k=some k'):Trn R main a (mkG (fD D t k) cs) (mkG (fD D t k') cs):=by
 induction a generalizing k with
 | zero=>
   obtain rfl:=Option.some.inj h
   exact .refl _
 | succ a ih=>
   unfold ctlN at h
   cases hk:ctl1 k with
   | none=>rw [hk]at h;cases h
   | some k1=>
     rw[hk]at h
     exact .step rfl (fun w=>ctl1_step hk _ _ _ w) (ih h)
theorem trn_knownK{K:FuncId}{ds:List Deferred}{t:Array Value}{cs:List Frame}{ops:Array Oper}{i:Nat}{rest:List Nat}{k:List Item}{o:Oper}{v:Value}(ho:ops[i]?=some o)(hw:Region.wanted o (yielded ops t)=true)(hv:Known R (execOp (fK K ds t []).eval o) v):
  Trn R main 1 (mkG (fK K ds t (.inRegion ops (i :: rest) :: k)) cs) (mkG (fK K ds (putT t o.dst v) (.inRegion ops rest :: k)) cs):=.one rfl fun w=>known_stepK ho hw hv main cs w
theorem trn_knownD{D:FuncId}{t:Array Value}{cs:List Frame}{ops:Array Oper}{i:Nat}{rest:List Nat}{k:List Item}{o:Oper}{v:Value}(ho:ops[i]?=some o)(hw:Region.wanted o (yielded ops t)=true)(hv:Known R (execOp (fD D t []).eval o) v):
  Trn R main 1 (mkG (fD D t (.inRegion ops (i :: rest) :: k)) cs) (mkG (fD D (putT t o.dst v) (.inRegion ops rest :: k)) cs):=.one rfl fun w=>known_stepD ho hw hv main cs w
end
noncomputable def kX:Code:=cIn kLoop
noncomputable def selK(l:List Nat):List Item:=[.inRegion (cOps kSel) l,.code (cTl (cTl kX)),.inBlock 1,.inLoop kLoop,.inBlock 0]
noncomputable def kDef:Oper:=(cOps (cHd bK)).getD 1 default
noncomputable def closeD(v:Value):Deferred:=
 match kDef.op with
 | .defer c=>{target:=.builtin .close c.argTypes kDef.type (c.args.map fun | .const _=>true | _=>false),args:=#[v]}
 | _=>default
noncomputable def bot:Frame:={(default:Frame)with fn:=Tryz.prog.funcs.size,defers:=[],mode:=.panicking [goexitEntry]}
def dt00(a b c d:Value):Array Value:=#[a,b,c,d] ++ Array.replicate 27 undef
noncomputable def callK(a b c d:Value):Deferred:={target:=.fn (.func dK) #[],args:=#[a,b,c,d]}
theorem born_step(a b c d:Value)(w:World):stepG Tryz.prog false (born Tryz.prog (callK a b c d)) w=.go (mkG (fK dK [] (dt00 a b c d) [.code bK]) [bot]) w #[]:=by
 have e:Frame.enter Tryz.prog dK #[a,b,c,d] .deferred=fK dK [] (dt00 a b c d) [.code bK]:=by
  unfold Frame.enter
  rw[Tryz.func47]
  rfl
 have h:stepG Tryz.prog false (born Tryz.prog (callK a b c d)) w=callDeferred Tryz.prog {(default:Frame)with fn:=Tryz.prog.funcs.size,defers:=[],mode:=.panicking [goexitEntry]} [] none (callK a b c d) w:=rfl
 rw[h]
 unfold callDeferred callK
 have hr:(invoke (.fn (.func dK) #[]) #[a,b,c,d]).runT Tryz.prog w #[]=(.ok (.enter dK #[a,b,c,d]) w,#[]):=by
  simp[invoke,callFunc,Tryz.func47,Tryz.f47]
 simp only[hr]
 rw[e]
 rfl
noncomputable def kRec(k3:Nat)(dt:Array Value):Goroutine:=mkG (fK dK [closeD (.chan (some k3))] dt (selK [0,1,2,3])) [bot]
noncomputable def seatD(k1 k2 k3:Nat)(dt:Array Value):Seat:={cases:=#[rcase k1 (.agg #[.int .i64 0,.chan none]),rcase k2 (.agg #[])],shape:=.select,home:=fun g=>g=kRec k3 dt}
theorem seatD_has{k1 k2 k3:Nat}{dt:Array Value}{y:Nat}(h:(seatD k1 k2 k3 dt).has y):y=k1\/y=k2:=by
 obtain⟨k,z,hk⟩:=h
 rcases k with _ | _ | k <;> simp[seatD,rcase]at hk <;> omega
theorem seatD_wf{k1 k2 k3:Nat}{dt:Array Value}(h:k1≠k2):(seatD k1 k2 k3 dt).Wf:=by
 refine⟨fun cc h=>?_,fun k m c z z' h1 h2=>?_⟩
 ·simp only[seatD,List.mem_toArray,List.mem_cons,List.not_mem_nil,or_false]at h
  rcases h with rfl | rfl
  ·exact⟨_,_,rfl⟩
  ·exact⟨_,_,rfl⟩
 ·rcases k with _ | _ | k <;> rcases m with _ | _ | m <;> simp[seatD,rcase]at h1 h2 ⊢ <;> omega
theorem evalK{K:FuncId}{ds:List Deferred}{t:Array Value}{i:Nat}{v:Value}(h:t[i]?=some v):(fK K ds t []).eval (.tmp i)=v:=by
 show t.getD i undef=v
 rw[Array.getD_eq_getD_getElem?,h];rfl
theorem evalD{D:FuncId}{t:Array Value}{i:Nat}{v:Value}(h:t[i]?=some v):(fD D t []).eval (.tmp i)=v:=by
 show t.getD i undef=v
 rw[Array.getD_eq_getD_getElem?,h];rfl
theorem actE{t:Array Value}{ds:List Deferred}{i:Nat}{v:Value}(h:t[i]?=some v):(⟨t,ds⟩:Act).eval (.tmp i)=v:=by
 show t.getD i undef=v
 rw[Array.getD_eq_getD_getElem?,h];rfl
theorem k_at{k1 k2 k3:Nat}{dt:Array Value}(h1:dt[10]?=some (.chan (some k1)))(h2:dt[11]?=some (.chan (some k2)))(B:Nat):AtIn Tryz.prog false (fun _=>True) (fun _=>False) B (seatD k1 k2 k3 dt) (kRec k3 dt) (kRec k3 dt):=by
 have e1:=actE (ds:=[closeD (.chan (some k3))]) h1
 have e2:=actE (ds:=[closeD (.chan (some k3))]) h2
 refine atIn_of (b:=fK dK [closeD (.chan (some k3))] #[] []) (a:=⟨dt,[closeD (.chan (some k3))]⟩) (ops:=cOps kSel) (i:=0) (rest:=[1,2,3]) (s:=seatD k1 k2 k3 dt) (by rfl) (by rfl) (fun h=>by cases h) (fun w=>?_) (fun w=>?_) (by rfl)
 ·simp[go_sem,execOp,rcase,seatD,e1,e2,cOps,kSel,cHd,cTl,cIn,kLoop,bK,Tryz.f47,h1,h2]
 ·simp[go_sem,execOp,e1,e2,cOps,kSel,cHd,cTl,cIn,kLoop,bK,Tryz.f47,h1,h2]
theorem k_turn{ds:List Deferred}{dt:Array Value}{k1 k2:Nat}(hs:dt.size=31)(h1:dt[1]?=some (.chan (some k1)))(h2:dt[2]?=some (.chan (some k2))):
  Trn Tryz.prog false 11 (mkG (fK dK ds dt [.code kLoop,.inLoop kLoop,.inBlock 0]) [bot]) (mkG (fK dK ds (putT (putT dt (some 10) (.chan (some k1))) (some 11) (.chan (some k2))) (selK [0,1,2,3])) [bot]):=by
 have a1:Trn Tryz.prog false 4 (mkG (fK dK ds dt [.code kLoop,.inLoop kLoop,.inBlock 0]) [bot]) (mkG (fK dK ds dt (.inRegion (cOps (cHd (cHd kX))) [0] :: .code (cTl (cHd kX)) :: .code (cTl kX) :: .inBlock 1 :: .inLoop kLoop :: .inBlock 0 :: [])) [bot]):=trn_ctlK 4 (by rfl)
 have a2:=trn_knownK (R:=Tryz.prog) (main:=false) (K:=dK) (ds:=ds) (t:=dt) (cs:=[bot]) (ops:=cOps (cHd (cHd kX))) (i:=0) (rest:=[]) (k:=.code (cTl (cHd kX)) :: .code (cTl kX) :: .inBlock 1 :: .inLoop kLoop :: .inBlock 0 :: []) (v:=.chan (some k1)) (by rfl) (by rfl) (by
  have e:(fK dK ds dt []).eval (.tmp 1)=_:=evalK h1
  rw[<-e]
  exact known_pure)
 have a3:Trn Tryz.prog false 2 _ (mkG (fK dK ds (putT dt (some 10) (.chan (some k1))) (.inRegion (cOps (cTl (cHd kX))) [0] :: .code (cTl kX) :: .inBlock 1 :: .inLoop kLoop :: .inBlock 0 :: [])) [bot]):=trn_ctlK (k:=.inRegion (cOps (cHd (cHd kX))) [] :: .code (cTl (cHd kX)) :: .code (cTl kX) :: .inBlock 1 :: .inLoop kLoop :: .inBlock 0 :: []) 2 (by rfl)
 have h2':(putT dt (some 10) (.chan (some k1)))[2]?=some (.chan (some k2)):=by rw[putT_ne (by simp)];exact h2
 have a4:=trn_knownK (R:=Tryz.prog) (main:=false) (K:=dK) (ds:=ds) (t:=putT dt (some 10) (.chan (some k1))) (cs:=[bot]) (ops:=cOps (cTl (cHd kX))) (i:=0) (rest:=[]) (k:=.code (cTl kX) :: .inBlock 1 :: .inLoop kLoop :: .inBlock 0 :: []) (v:=.chan (some k2)) (by rfl) (by rfl) (by
  have e:(fK dK ds (putT dt (some 10) (.chan (some k1))) []).eval (.tmp 2)=_:=evalK h2'
  rw[<-e]
  exact known_pure)
 have a5:Trn Tryz.prog false 3 _ (mkG (fK dK ds (putT (putT dt (some 10) (.chan (some k1))) (some 11) (.chan (some k2))) (selK [0,1,2,3])) [bot]):=trn_ctlK (k:=.inRegion (cOps (cTl (cHd kX))) [] :: .code (cTl kX) :: .inBlock 1 :: .inLoop kLoop :: .inBlock 0 :: []) 3 (by rfl)
 exact a1.trans (a2.trans (a3.trans (a4.trans a5)))
theorem defer_step{X:Program}{K:FuncId}{ds:List Deferred}{t:Array Value}{ops:Array Oper}{i:Nat}{rest:List Nat}{k:List Item}{o:Oper}{d:Deferred}(ho:ops[i]?=some o)(hdst:o.dst=none)(hw:Region.wanted o (yielded ops t)=true)(hv:∀ w,(execOp (fK K ds t []).eval o).runT X w #[]=(.ok (.defer d) w,#[]))(main:Bool)(cs:List Frame)(w:World):
  stepG X main (mkG (fK K ds t (.inRegion ops (i :: rest) :: k)) cs) w=.go (mkG (fK K (d :: ds) t (.inRegion ops rest :: k)) cs) w #[]:=by
 have hf:=fK_finish (K:=K) (ds:=d :: ds) (t:=t) (rest:=rest) (k:=k) ho undef
 rw[hdst]at hf
 rw[fK_op ho hw,stepG.apply]
 have he:((fK K ds t (.inRegion ops (i :: rest) :: k)).kind == .early)=false:=rfl
 simp only[if_true,hv w,he]
 show GStep.go (mkG ((fK K (d :: ds) t (.inRegion ops (i :: rest) :: k)).finish undef) cs) w _=_
 rw[hf]
 rfl
theorem dt00_at(a b c d:Value):(dt00 a b c d)[0]?=some a/\(dt00 a b c d)[1]?=some b/\(dt00 a b c d)[2]?=some c/\(dt00 a b c d)[3]?=some d/\(dt00 a b c d).size=31:=by simp[dt00]
def dt0(v:Value)(k1 k2 k3:Nat):Array Value:=putT (putT (putT (dt00 v (.chan (some k1)) (.chan (some k2)) (.chan (some k3))) (some 9) (.chan (some k3))) (some 10) (.chan (some k1))) (some 11) (.chan (some k2))
theorem k_birth(v:Value)(k1 k2 k3:Nat):Trn Tryz.prog false 19 (born Tryz.prog (callK v (.chan (some k1)) (.chan (some k2)) (.chan (some k3)))) (kRec k3 (dt0 v k1 k2 k3)):=by
 obtain⟨d0,d1,d2,d3,dz⟩:=dt00_at v (.chan (some k1)) (.chan (some k2)) (.chan (some k3))
 have a0:=Trn.one (R:=Tryz.prog) (main:=false) (g:=born Tryz.prog (callK v (.chan (some k1)) (.chan (some k2)) (.chan (some k3)))) rfl (fun w=>born_step v (.chan (some k1)) (.chan (some k2)) (.chan (some k3)) w)
 unfold dt0
 generalize dt00 v (.chan (some k1)) (.chan (some k2)) (.chan (some k3))=t at *
 have a1:Trn Tryz.prog false 2 (mkG (fK dK [] t [.code bK]) [bot]) (mkG (fK dK [] t (.inRegion (cOps (cHd bK)) [0,1] :: .code (cTl bK) :: [])) [bot]):=trn_ctlK (k:=[.code bK]) 2 (by rfl)
 have a2:=trn_knownK (R:=Tryz.prog) (main:=false) (K:=dK) (ds:=[]) (t:=t) (cs:=[bot]) (ops:=cOps (cHd bK)) (i:=0) (rest:=[1]) (k:=.code (cTl bK) :: []) (v:=.chan (some k3)) (by rfl) (by rfl) (by
  have e:(fK dK [] t []).eval (.tmp 3)=_:=evalK d3
  rw[<-e]
  exact known_pure)
 have d9:(putT t (some 9) (.chan (some k3)))[9]?=some (.chan (some k3)):=putT_self (by rw[dz];decide)
 have d1':(putT t (some 9) (.chan (some k3)))[1]?=_:=(putT_ne (by simp)).trans d1
 have d2':(putT t (some 9) (.chan (some k3)))[2]?=_:=(putT_ne (by simp)).trans d2
 have dz':(putT t (some 9) (.chan (some k3))).size=31:=by rw[putT_size];exact dz
 change Trn Tryz.prog false 1 _ (mkG (fK dK [] (putT t (some 9) (.chan (some k3))) _) _)at a2
 generalize putT t (some 9) (.chan (some k3))=t2 at *
 have a3:=Trn.one (R:=Tryz.prog) (main:=false) rfl (fun w=>defer_step (X:=Tryz.prog) (K:=dK) (ds:=[]) (t:=t2) (ops:=cOps (cHd bK)) (i:=1) (rest:=[]) (k:=.code (cTl bK) :: []) (d:=closeD (.chan (some k3))) (by rfl) (by rfl) (by rfl) (fun w=>by
  have e:(fK dK [] t2 []).eval (.tmp 9)=_:=evalK d9
  simp[execOp,resolve,closeD,kDef,cOps,cHd,bK,Tryz.f47,e]) false [bot] w)
 have a4:Trn Tryz.prog false 3 (mkG (fK dK [closeD (.chan (some k3))] t2 (.inRegion (cOps (cHd bK)) [] :: .code (cTl bK) :: [])) [bot]) (mkG (fK dK [closeD (.chan (some k3))] t2 [.code kLoop,.inLoop kLoop,.inBlock 0]) [bot]):=trn_ctlK 3 (by rfl)
 have a5:=k_turn (ds:=[closeD (.chan (some k3))]) dz' d1' d2'
 exact a0.trans (a1.trans (a2.trans (a3.trans (a4.trans a5))))
theorem k_back{k3 k1 k2:Nat}{dt:Array Value}(hs:dt.size=31)(h1:dt[1]?=some (.chan (some k1)))(h2:dt[2]?=some (.chan (some k2))):
  Trn Tryz.prog false 15 (mkG (fK dK [closeD (.chan (some k3))] dt [.inRegion kOps5 [],.inBlock 2,.inBlock 1,.inLoop kLoop,.inBlock 0]) [bot]) (kRec k3 (putT (putT dt (some 10) (.chan (some k1))) (some 11) (.chan (some k2)))):=by
 have a1:Trn Tryz.prog false 4 (mkG (fK dK [closeD (.chan (some k3))] dt [.inRegion kOps5 [],.inBlock 2,.inBlock 1,.inLoop kLoop,.inBlock 0]) [bot]) (mkG (fK dK [closeD (.chan (some k3))] dt [.code kLoop,.inLoop kLoop,.inBlock 0]) [bot]):=trn_ctlK 4 (by rfl)
 exact a1.trans (k_turn hs h1 h2)
def cTs:Nat->Code->Code | 0,c=>c | n+1,c=>cTs n (cTl c)
noncomputable def dBlk:Code:=cIn (cIn (cHd (cTs 7 bD)))
noncomputable def dLB:Code:=cIn dBlk
noncomputable def dR8:Code:=cTs 8 bD
noncomputable def rkHead:List Item:=[.code dBlk,.inLoop dBlk,.inBlock 0,.code dR8]
noncomputable def gkHead:List Item:=[.code (gh dBlk),.inLoop (gh dBlk),.inBlock 0,.code (gh dR8)]
noncomputable def rkIn:List Item:=[.inBlock 1,.inLoop dBlk,.inBlock 0,.code dR8]
noncomputable def gkIn:List Item:=[.inBlock 1,.inLoop (gh dBlk),.inBlock 0,.code (gh dR8)]
structure Lp(Inb0:Nat->Option Seat)(J0:Nat->Prop)(rt:Array Value)(s:Pt)(k1 k2 k3 k4 j:Nat)(dt:Array Value):Prop where
 two:Two rt s.gt
 ex:Ex s.gt dt
 g5:s.gt[5]?=some (.chan (some k1))
 g6:s.gt[6]?=some (.chan (some k2))
 g7:s.gt[7]?=some (.chan (some k3))
 g8:∃ i,s.gt[8]?=some (.int .i64 i)
 g9:s.gt[9]?=some (.chan (some k4))
 j0:j≠0
 jn:j<s.n
 in0:Inb0 j=none
 z0:Inb0 0=none
 J1:s.J k1
 J2:s.J k2
 J3:s.J k3
 J4:s.J k4
 n1:¬J0 k1
 n2:¬J0 k2
 n3:¬J0 k3
 n4:¬J0 k4
 o1:Opn s.W k1
 o2:Opn s.W k2
 o3:Opn s.W k3
 o4:Opn s.W k4
 ne:k1≠k2/\k1≠k3/\k1≠k4/\k2≠k3/\k2≠k4/\k3≠k4
 fresh:∀ x s' y,Inb0 x=some s'->s'.has y->J0 y
 sub:∀ k,J0 k->s.J k
 d1:dt[1]?=some (.chan (some k1))
 d2:dt[2]?=some (.chan (some k2))
 d10:dt[10]?=some (.chan (some k1))
 d11:dt[11]?=some (.chan (some k2))
noncomputable def inbL(Inb0:Nat->Option Seat)(k1 k2 k3 j:Nat)(dt:Array Value):Nat->Option Seat:=upd Inb0 j (some (seatD k1 k2 k3 dt))
abbrev protL:List Nat:=[5,6,7,8,9]
section
variable {f:FuncId} {Post:Value->World->Prop} {c c':Frame} {gs rs:List Frame} {Inb0:Nat->Option Seat} {J0:Nat->Prop} {s s':Pt} {k1 k2 k3 k4 j:Nat} {dt:Array Value}
theorem opn_kp{J:Nat->Prop}{W W':World}{k:Nat}(h:Opn W k)(hk:Kp J W W')(hj:J k):Opn W' k:=by
 obtain⟨a,ha⟩:=h
 exact⟨a,(hk.block k hj).trans ha⟩
theorem Lp.way{rt rt':Array Value}(h:Lp Inb0 J0 rt s k1 k2 k3 k4 j dt)(hw:Way gP Tryz.prog.funcs gE dD c gs s.J s s')(h2:Two rt' s'.gt)(hp:∀ p,(p∈protL\/53<=p)->s'.gt[p]?=s.gt[p]?):Lp Inb0 J0 rt' s' k1 k2 k3 k4 j dt:=
 ⟨h2,⟨h2.gsz,h.ex.dsz,fun k hk=>(hp _ (.inr (by omega))).trans (h.ex.eq k hk)⟩,(hp 5 (.inl (by decide))).trans h.g5,(hp 6 (.inl (by decide))).trans h.g6,(hp 7 (.inl (by decide))).trans h.g7,(by obtain⟨i,hi⟩:=h.g8;exact⟨i,(hp 8 (.inl (by decide))).trans hi⟩),(hp 9 (.inl (by decide))).trans h.g9,h.j0,Nat.lt_of_lt_of_le h.jn hw.le,h.in0,h.z0,
   hw.sub _ h.J1,hw.sub _ h.J2,hw.sub _ h.J3,hw.sub _ h.J4,h.n1,h.n2,h.n3,h.n4,opn_kp h.o1 hw.kp h.J1,opn_kp h.o2 hw.kp h.J2,opn_kp h.o3 hw.kp h.J3,opn_kp h.o4 hw.kp h.J4,h.ne,h.fresh,fun k hk=>hw.sub k (h.sub k hk),h.d1,h.d2,h.d10,h.d11⟩
theorem lp_region(hE:Ext gP gE){Inb:Nat->Option Seat}(h:s.Ok gP Tryz.prog.funcs gE dD f Post c c' gs rs Inb)(ih:Fwd gP Tryz.prog.funcs gE dD f Post c gs s)(hl:Lp Inb0 J0 s.rt s k1 k2 k3 k4 j dt){id id':Nat}{ops:Array Oper}{kg kr:List Item}(hg:s.gk=.code (.region id ops false) :: kg)(hr:s.rk=.code (.region id' ops false) :: kr)(ho:ops.all (opIn gP dD protL)=true):
  ∃ s':Pt,s'.Ok gP Tryz.prog.funcs gE dD f Post c c' gs rs Inb/\Way gP Tryz.prog.funcs gE dD c gs J0 s s'/\s'.gk=kg/\s'.rk=kr/\Lp Inb0 J0 s'.rt s' k1 k2 k3 k4 j dt:=by
 obtain⟨s',h1,h2,h3,h4,h5,h6⟩:=region_both hE alike protL h ih hg hr ho hl.two
 exact⟨s',h1,h2.weak hl.sub,h3,h4,hl.way h2 h5 h6⟩
theorem lp_turns(a b:Nat){gk rk:List Item}{Inb:Nat->Option Seat}(h:s.Ok gP Tryz.prog.funcs gE dD f Post c c' gs rs Inb)(hl:Lp Inb0 J0 s.rt s k1 k2 k3 k4 j dt)(ha:ctlN a s.gk=some gk)(hb:ctlN b s.rk=some rk):
  ∃ s':Pt,s'.Ok gP Tryz.prog.funcs gE dD f Post c c' gs rs Inb/\Way gP Tryz.prog.funcs gE dD c gs J0 s s'/\s'.gk=gk/\s'.rk=rk/\Lp Inb0 J0 s'.rt s' k1 k2 k3 k4 j dt:=by
 obtain⟨W,m,T,h1,h2⟩:=turns a b h ha hb
 exact⟨_,h1,h2.weak hl.sub,rfl,rfl,hl.way h2 hl.two fun _ _=>rfl⟩
theorem lp_cond{Inb:Nat->Option Seat}(h:s.Ok gP Tryz.prog.funcs gE dD f Post c c' gs rs Inb)(hl:Lp Inb0 J0 s.rt s k1 k2 k3 k4 j dt){o:Operand}(hs:slotOk o=true){a b a' b':Code}{kg kr:List Item}(hg:s.gk=.code (.cond o a b) :: kg)(hr:s.rk=.code (.cond o a' b') :: kr):
  ∃ (v:Bool) (s':Pt),s'.Ok gP Tryz.prog.funcs gE dD f Post c c' gs rs Inb/\Way gP Tryz.prog.funcs gE dD c gs J0 s s'/\s'.gk=.code (if v then a else b) :: kg/\s'.rk=.code (if v then a' else b') :: kr/\Lp Inb0 J0 s'.rt s' k1 k2 k3 k4 j dt:=by
 obtain⟨v,W,m,T,_,h1,h2⟩:=cond_both h hg hr (hl.two.eval hs)
 exact⟨v,_,h1,h2.weak hl.sub,rfl,rfl,hl.way h2 hl.two fun _ _=>rfl⟩
theorem lp_known{Inb:Nat->Option Seat}(h:s.Ok gP Tryz.prog.funcs gE dD f Post c c' gs rs Inb)(hl:Lp Inb0 J0 s.rt s k1 k2 k3 k4 j dt){ops ops':Array Oper}{i:Nat}{rest:List Nat}{kg kr:List Item}{o o':Oper}{v:Value}(d:Nat)(hg:s.gk=.inRegion ops (i :: rest) :: kg)(hr:s.rk=.inRegion ops' (i :: rest) :: kr)(ho:ops[i]?=some o)(ho':ops'[i]?=some o')
  (hd:o.dst=some d) (hd':o'.dst=some d) (hlt:d<53/\d ∉ protL) (hw:o.guard.isNone=true) (hw':o'.guard.isNone=true) (hv:execOp (fD dD s.gt []).eval o=pure (.value v)) (hv':execOp (fD dD s.rt []).eval o'=pure (.value v)):
  ∃ s':Pt,s'.Ok gP Tryz.prog.funcs gE dD f Post c c' gs rs Inb/\Way gP Tryz.prog.funcs gE dD c gs J0 s s'/\s'.gk=.inRegion ops rest :: kg/\s'.rk=.inRegion ops' rest :: kr/\Lp Inb0 J0 s'.rt s' k1 k2 k3 k4 j dt/\s'.gt=putT s.gt (some d) v/\s'.rt=putT s.rt (some d) v:=by
 obtain⟨W,m,T,h1,h2⟩:=both_pure h hg ho (wanted_none hw _) hv hr ho' (wanted_none hw' _) hv'
 rw[hd,hd']at h1 h2
 exact⟨_,h1,h2.weak hl.sub,rfl,rfl,hl.way h2 (hl.two.put (d:=some d) (fun x hx=>by cases hx;exact hlt.1) v) fun p hp=>putT_ne (fun e=>by
  cases e
  rcases hp with hp | hp
  ·exact hlt.2 hp
  ·exact absurd hlt.1 (Nat.not_lt.2 hp)),rfl,rfl⟩
theorem lp_op(hE:Ext gP gE){Inb:Nat->Option Seat}(h:s.Ok gP Tryz.prog.funcs gE dD f Post c c' gs rs Inb)(ih:Fwd gP Tryz.prog.funcs gE dD f Post c gs s)(hl:Lp Inb0 J0 s.rt s k1 k2 k3 k4 j dt){ops ops':Array Oper}{i:Nat}{rest:List Nat}{kg kr:List Item}{o:Oper}(d:Nat)(hg:s.gk=.inRegion ops (i :: rest) :: kg)(hr:s.rk=.inRegion ops' (i :: rest) :: kr)(ho:ops[i]?=some o)(ho':ops'[i]?=some o)
  (hd:o.dst=some d) (hlt:d<53) (hin:opIn gP dD [] o=true):
  ∃ (s':Pt) (v:Value),s'.Ok gP Tryz.prog.funcs gE dD f Post c c' gs rs Inb/\Way gP Tryz.prog.funcs gE dD c gs s.J s s'/\s'.gk=.inRegion ops rest :: kg/\s'.rk=.inRegion ops' rest :: kr/\s'.gt=putT s.gt (some d) v/\s'.rt=putT s.rt (some d) v/\(YldV Tryz.prog (execOp (fD dD s.gt []).eval o) s.u v s'.u\/YldE gP gE (execOp (fD dD s.gt []).eval o) s.u):=by
 simp only[opIn,Bool.and_eq_true]at hin
 obtain⟨⟨⟨⟨h6,h7⟩,h8⟩,h9⟩,_⟩:=hin
 obtain⟨v,u',W,m,T,J,n,g1,g2,g3⟩:=op_both hE alike h ih hg hr ho ho' h6 h7 (wanted_none h8 _) (wanted_none h8 _) (execOp_congr o (no_select h7) fun x hx=>hl.two.eval (Array.all_eq_true'.1 h9 x hx))
 rw[hd]at g1 g2
 exact⟨_,v,g1,g2,rfl,rfl,rfl,rfl,g3.imp (fun g=>g.2.2) id⟩
end
end
section
open Go Go.Conc Go.RowKit
open Go.ConcN (upd upd_same upd_ne)
noncomputable def dY:Code:=cYes (cTl (cHd (cTl dLB)))
noncomputable def dC:Code:=cTl (cTl dLB)
noncomputable def ops10:Array Oper:=cOps (cHd dY)
noncomputable def ops11:Array Oper:=cOps (cHd (cTl dY))
noncomputable def gops10:Array Oper:=mapA ghOp ops10
noncomputable def gops11:Array Oper:=mapA ghOp ops11
noncomputable def rkC:List Item:=.code dC :: rkIn
noncomputable def gkC:List Item:=.code (gh dC) :: gkIn
noncomputable def rec0(rt:Array Value)(c':Frame)(rs:List Frame):Goroutine:=mkG (fD dD rt (.inRegion ops11 [2,3] :: .code (cTl (cTl dY)) :: rkC)) (c' :: rs)
noncomputable def seat0(k4:Nat)(rt:Array Value)(c':Frame)(rs:List Frame):Seat:=Seat.one k4 (.bool false) false (fun g=>g=rec0 rt c' rs)
def rtAt(rt:Array Value)(k4:Nat):Array Value:=putT (putT rt (some 37) (rt.getD 0 undef)) (some 38) (.chan (some k4))
theorem send_step{rt:Array Value}{k1:Nat}{k:List Item}{cs:List Frame}(h:rt[33]?=some (.chan (some k1)))(w:World):
  stepG Tryz.prog true (mkG (fD dD rt (.inRegion ops10 [4] :: k)) cs) w=.comm (mkG (fD dD rt (.inRegion ops10 [4] :: k)) cs) #[scase k1 (rt.getD 36 undef) (.tuple #[])] true .send w #[]:=by
 have e1:=actE (ds:=[]) h
 have hr:∀ w,(execOp (⟨rt,[]⟩:Act).eval (ops10.getD 4 default)).run Tryz.prog w=.ok (.comm #[scase k1 (rt.getD 36 undef) (.tuple #[])] true .send) w:=fun w=>by
  simp[go_sem,execOp,scase,e1,h,ops10,dY,dLB,dBlk,cTs,cOps,cHd,cTl,cIn,cYes,bD,Tryz.f26]
 have he:∀ w,(execOp (⟨rt,[]⟩:Act).eval (ops10.getD 4 default)).events Tryz.prog w #[]=#[]:=fun w=>by
  simp[go_sem,execOp,scase,e1,h,ops10,dY,dLB,dBlk,cTs,cOps,cHd,cTl,cIn,cYes,bD,Tryz.f26]
 have:=stepG_comm (P:=Tryz.prog) (main:=true) (b:=fD dD #[] []) (a:=⟨rt,[]⟩) (k:=k) (cs:=cs) (ops:=ops10) (i:=4) (rest:=[]) (o:=ops10.getD 4 default) (by rfl) (by rfl) (fun h=>by cases h) (hr w)
 rw[listed_none (he w)]at this
 exact this
theorem at0{rt:Array Value}{k4:Nat}{c':Frame}{rs:List Frame}(hsz:53<=rt.size)(B:Nat):AtIn Tryz.prog true (fun _=>True) (fun _=>False) B (seat0 k4 (rtAt rt k4) c' rs) (rec0 (rtAt rt k4) c' rs) (rec0 (rtAt rt k4) c' rs):=by
 have h:(rtAt rt k4)[38]?=some (.chan (some k4)):=putT_self (by rw[putT_size];omega)
 have e1:=actE (ds:=[]) h
 refine atIn_of (b:=fD dD #[] []) (a:=⟨rtAt rt k4,[]⟩) (ops:=ops11) (i:=2) (rest:=[3]) (s:=seat0 k4 (rtAt rt k4) c' rs) (by rfl) (by rfl) (fun h=>by cases h) (fun w=>?_) (fun w=>?_) (by rfl)
 ·simp[go_sem,execOp,rcase,seat0,Seat.one,e1,h,ops11,dY,dLB,dBlk,cTs,cOps,cHd,cTl,cIn,cYes,bD,Tryz.f26]
 ·simp[go_sem,execOp,rcase,seat0,Seat.one,e1,h,ops11,dY,dLB,dBlk,cTs,cOps,cHd,cTl,cIn,cYes,bD,Tryz.f26]
theorem to0{rt:Array Value}{k4:Nat}{c':Frame}{rs:List Frame}(h9:rt[9]?=some (.chan (some k4))):Trn Tryz.prog true 5 (mkG (fD dD rt (.inRegion ops10 [] :: .code (cTl dY) :: rkC)) (c' :: rs)) (rec0 (rtAt rt k4) c' rs):=by
 have a1:Trn Tryz.prog true 3 (mkG (fD dD rt (.inRegion ops10 [] :: .code (cTl dY) :: rkC)) (c' :: rs)) (mkG (fD dD rt (.inRegion ops11 [0,1,2,3] :: .code (cTl (cTl dY)) :: rkC)) (c' :: rs)):=trn_ctlD 3 (by rfl)
 have a2:=trn_knownD (R:=Tryz.prog) (main:=true) (D:=dD) (t:=rt) (cs:=c' :: rs) (ops:=ops11) (i:=0) (rest:=[1,2,3]) (k:=.code (cTl (cTl dY)) :: rkC) (v:=rt.getD 0 undef) (by rfl) (by rfl) known_pure
 have h9':(putT rt (some 37) (rt.getD 0 undef))[9]?=some (.chan (some k4)):=by rw[putT_ne (by simp)];exact h9
 have a3:=trn_knownD (R:=Tryz.prog) (main:=true) (D:=dD) (t:=putT rt (some 37) (rt.getD 0 undef)) (cs:=c' :: rs) (ops:=ops11) (i:=1) (rest:=[2,3]) (k:=.code (cTl (cTl dY)) :: rkC) (v:=.chan (some k4)) (by rfl) (by rfl) (by
  have e:(fD dD (putT rt (some 37) (rt.getD 0 undef)) []).eval (.tmp 9)=_:=evalD h9'
  rw[<-e]
  exact known_pure)
 exact a1.trans (a2.trans a3)
end
end Go.Proofs.YticobikhndlejaaGreatDoor
