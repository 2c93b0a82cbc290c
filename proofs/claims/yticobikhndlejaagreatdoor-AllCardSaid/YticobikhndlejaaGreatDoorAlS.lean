/- Part 19 of the proof (see the last part). -/
import Derived.Test.YticobikhndlejaaGreatDoorAlR
import Derived.Deep.Slices
import Derived.SevenTiedAt
namespace Go.Proofs.YticobikhndlejaaGreatDoor
section
open Go.RowKit Go.Shelf Go.Lib
set_option maxRecDepth 100000
set_option maxHeartbeats 8000000
def ow0(n k:Nat):Lab:=if k<n then Lab.glob else if k=n then .me else .loose
theorem LI.start{w:World}(he:ErrVar w):LI w (w.alloc (.cells #[.slice none 0 0,.slice none 0 0,.slice none 0 0] 71)) w.heap.size 0:=by
 have h0:=lt_of_cell he
 have hb:Below w.heap.size w (w.alloc (.cells #[.slice none 0 0,.slice none 0 0,.slice none 0 0] 71)):=(Below.refl _ _).alloc (Nat.le_refl _) _
 exact⟨ow0 w.heap.size,.slice none 0 0,.slice none 0 0,.slice none 0 0,[],[],[],
  {err:=cell_later hb he
   glob:=by simp only[ow0,if_pos h0]
   me:=World.alloc_heap_new _ _
   own:=by simp[ow0]
   q:=World.ownsRow_nil _ _ _ _
   qo:=fun k hk=>by cases hk
   b:=World.ownsRow_nil _ _ _ _
   bo:=fun k hk=>by cases hk
   i:=World.ownsRow_nil _ _ _ _
   io:=fun k hk=>by cases hk
   br:=fun j v hv=>by simp at hv
   ir:=fun j v hv=>by simp at hv
   xs:=fun j p hp=>by simp at hp
   ms:=fun j p hp=>by simp at hp
   bel:=hb
   old:=fun k hk=>by simp only[ow0,if_pos hk]},by simp,by simp,by simp,by simp⟩
theorem LI.mono{wb w:World}{wl n m:Nat}(h:LI wb w wl n)(hm:n<=m):LI wb w wl m:=by
 obtain⟨ow,qv,bv,iv,ps,bs,is,h,h1,h2,h3,h4⟩:=h
 exact⟨ow,qv,bv,iv,ps,bs,is,h,by omega,by omega,by omega,fun p hp=>by obtain⟨a,b,c,d⟩:=h4 p hp;exact⟨a,b,by omega,by omega⟩⟩
theorem LI.bel{wb w:World}{wl n:Nat}(h:LI wb w wl n):Below wb.heap.size wb w:=by
 obtain⟨_,_,_,_,_,_,_,h,_⟩:=h
 exact h.bel
theorem looks_li{wb w:World}{wl n:Nat}(h:LI wb w wl n)(hn:n<=100000):
  Calls Tryx.prog 31 #[ptr wl] w fun y w'=>y=.returned (.bool true)/\LI wb w' wl n:=by
 obtain⟨ow,qv,bv,iv,ps,bs,is,h,h1,h2,h3,h4⟩:=h
 refine (looks_l h (by omega) (by omega)).mono ?_
 rintro y w' ⟨rfl,hb⟩
 exact⟨rfl,ow,qv,bv,iv,ps,bs,is,h.below hb,h1,h2,h3,h4⟩
theorem plays_m(w:World)(he:ErrVar w)(bp:Option Addr)(cap:Nat)(ops:List OpR)(h:Scr w bp ops)(hS:∀ o∈ops,o.S.size<=1000000000000000)(hA:∀ o∈ops,-9223372036854775808<=o.A/\o.A<=9223372036854775807)
  (wv:Value) (xs:List Int) (b0:Nat) (hw:w.ownsRow b0 3 1 wv xs.length (xs.map fun n=>Value.int .i64 n)) (hxs:xs.length<=1000):
  Calls Tryx.prog 11 #[.slice bp ops.length cap,wv] w fun y w'=>y=.returned (.bool true)/\Below w.heap.size w w':=by
 obtain⟨n,hn⟩:∃ n,ops.length=n:=⟨_,rfl⟩
 obtain⟨nx,hnx⟩:∃ nx,xs.length=nx:=⟨_,rfl⟩
 obtain⟨wa,wc,rfl⟩:=own_slice hw
 obtain⟨W0,hW0⟩:∃ W0,w.alloc (.cells #[.slice none 0 0,.slice none 0 0,.slice none 0 0] 71)=W0:=⟨_,rfl⟩
 have hL0:LI w W0 w.heap.size 0:=by rw[<-hW0];exact LI.start he
 have hsm:=small_m w bp cap ops h hS
 rw[hn]at hsm
 rw[hn]
 rw[hnx]at hw hxs
 have HSM:=Lib.hid hsm
 have HSC:=Lib.hid h
 have HAS:=Lib.hid hA
 have HR:=Lib.hid hw
 have HW0:=Lib.hid hW0
 have HL0:=Lib.hid hL0
 have HN:=Lib.hid hn
 have HNX:=Lib.hid hnx
 have HE:=Lib.hid he
 rw[hnx]
 clear he h hS hA hw hW0 hL0 hsm hn hnx
 go_enter Tryx.func11,Tryz.ntmps11
 go_wp2_with fail
 refine HSM.out.mono ?_
 rintro y w1 ⟨rfl,r,rfl,hr⟩
 cases r with
 | false=>
   go_wp2_with fail
   go_ret
   exact⟨rfl,Below.refl _ _⟩
 | true=>
   obtain⟨hn1,hSz⟩:=hr rfl
   have HSZ:=Lib.hid hSz
   clear hr hSz
   go_wp2_with fail
   rw[HW0.out]
   go_loopg [7] n (fun k i wr=>∃ (j:Nat),k=n - j/\j<=n/\i=.int .i64 j/\Hid (LI w1 wr w1.heap.size j))
   case atStart=>exact ⟨0,by simp,by omega,rfl,HL0⟩
   case round=>
    obtain⟨j,rfl,hj,rfl,HL⟩:=hrel
    by_cases hlt:j<n
    ·have hltI:(j:Int)<(n:Int):=by omega
     have hj0:(0:Int)<=(j:Int):=by omega
     obtain⟨o,ho⟩:∃ o,ops[j]?=some o:=⟨_,List.getElem?_eq_getElem (by rw[HN.out];exact hlt)⟩
     obtain⟨sb,so,rfl,z0,z1,z2,z3,z4⟩:=(HSC.out.below HL.out.bel) j o ho
     obtain⟨K,A,B,C,S⟩:=o
     simp only at z0 z1 z2 z3 z4
     have HO:=Lib.hid ho
     have HR1:=Lib.hid (ownsRow_chg HR.out (chgB HL.out.bel fun _=>False) fun _ _ z=>z)
     clear ho
     go_wp2_with fail
     go_loopg [8,9] nx (fun kk bv jv wx=>∃ (j2:Nat),kk=nx - j2/\j2<=nx/\bv=.bool ((xs.take j2).all fun x=>K != x)/\jv=.int .i64 j2/\Hid (Below wr.heap.size wr wx))
     case atStart=>exact ⟨0,by simp,by omega,rfl,rfl,Lib.hid (Below.refl _ _)⟩
     case round=>
      obtain⟨j2,rfl,hj2,rfl,rfl,HB⟩:=hrel
      replace z0:=cell_later HB.out z0
      replace z1:=cell_later HB.out z1
      replace z2:=cell_later HB.out z2
      replace z3:=cell_later HB.out z3
      replace z4:=cell_later HB.out z4
      have HR2:=Lib.hid (ownsRow_chg HR1.out (chgB HB.out fun _=>False) fun _ _ z=>z)
      obtain⟨bi,hbi⟩:∃ bi,((xs.take j2).all fun x=>K != x)=bi:=⟨_,rfl⟩
      by_cases hlt2:j2<nx
      ·have hltI2:(j2:Int)<(nx:Int):=by omega
       have hj20:(0:Int)<=(j2:Int):=by omega
       obtain⟨x,hx⟩:∃ x,xs[j2]?=some x:=⟨_,List.getElem?_eq_getElem (by rw[HNX.out];exact hlt2)⟩
       obtain⟨gw,rfl,_,_,y0⟩:=row_at HR2.out (j:=j2) (x:=.int .i64 x) (by rw[List.getElem?_map,hx];rfl) (by simp[HNX.out])
       have hnext:((xs.take (j2+1)).all fun x=>K != x)=(bi && K != x):=by rw[List.take_add_one,hx];simp[hbi]
       have HNE:=Lib.hid hnext
       rw[hbi]
       cases bi with
       | true=>
         clear hbi hnext hx
         go_wp2_with fail
         go_quiet (fail)
         go_wp2_with fail
         go_roundg (nx - (j2+1))
         case measure=>omega
         case rel=>exact ⟨j2+1,rfl,by omega,by rw[HNE.out];rfl,by go_num,Lib.hid ⟨HB.out.os,HB.out.tape,HB.out.output,HB.out.size,HB.out.block⟩⟩
       | false=>
         clear hbi hnext hx
         go_wp2_with fail
         go_quiet (fail)
         go_wp2_with fail
         go_roundg (nx - (j2+1))
         case measure=>omega
         case rel=>exact ⟨j2+1,rfl,by omega,by rw[HNE.out];rfl,by go_num,Lib.hid ⟨HB.out.os,HB.out.tape,HB.out.output,HB.out.size,HB.out.block⟩⟩
      ·obtain rfl:j2=nx:=by omega
       have hL2:=HL.out.below HB.out
       cases bi with
       | false=>
         rw[hbi]
         clear hbi
         have HL2:=Lib.hid hL2
         clear hL2
         go_wp2_with fail
         go_roundg (n - (j+1))
         case measure=>omega
         case rel=>exact ⟨j+1,rfl,by omega,by go_num,Lib.hid (HL2.out.mono (Nat.le_succ _))⟩
       | true=>
         have hAo:=HAS.out _ (List.mem_of_getElem? HO.out)
         have hSo:=HSZ.out _ (List.mem_of_getElem? HO.out)
         have HST:=Lib.hid (step_li hL2 (by omega) K A B C S hAo hSo)
         rw[hbi]
         clear hbi hL2 hAo hSo
         simp only[opV]at HST
         go_wp2_with fail
         refine HST.out.mono ?_
         rintro y w4 ⟨rfl,h1⟩
         have HLK:=Lib.hid (looks_li h1 (by omega))
         clear h1
         go_wp2_with fail
         refine HLK.out.mono ?_
         rintro y w5 ⟨rfl,h1⟩
         have H5:=Lib.hid h1
         clear h1
         go_wp2_with fail
         go_roundg (n - (j+1))
         case measure=>omega
         case rel=>exact ⟨j+1,rfl,by omega,by go_num,H5⟩
    ·obtain rfl:j=n:=by omega
     go_wp2_with fail
     go_ret
     exact⟨rfl,HL.out.bel⟩
theorem all_m(w:World)(he:ErrVar w)(bp:Option Addr)(cap:Nat)(ops:List OpR)(h:Scr w bp ops)(hS:∀ o∈ops,o.S.size<=1000000000000000)(hA:∀ o∈ops,-9223372036854775808<=o.A/\o.A<=9223372036854775807):
  Calls Tryx.prog 4 #[.slice bp ops.length cap] w fun y w'=>y=.returned (.bool true)/\Below w.heap.size w w':=by
 have hp:=plays_m w he bp cap ops h hS hA (.slice none 0 0) [] 0 (World.ownsRow_nil _ _ _ _) (by decide)
 obtain⟨n,hn⟩:∃ n,ops.length=n:=⟨_,rfl⟩
 rw[hn]at hp ⊢
 have HP:=Lib.hid hp
 clear he h hS hA hn hp
 go_enter Tryx.func4,Tryz.ntmps4
 go_wp2_with fail
 refine HP.out.mono ?_
 rintro y w1 ⟨rfl,hb1⟩
 have HB1:=Lib.hid hb1
 clear hb1
 go_wp2_with fail
 go_ret
 exact⟨rfl,HB1.out⟩
end
section
open Go.ChangeShapes Go.WideShapes Go.RowKit
abbrev laidL:List (String×DataW Unit):=[("errors.errorType",Rows.laid_errors_errorType)]
theorem Tryz.own:ownKnob Tryz.prog.godebug=none:=by kernel_rfl
theorem Tryz.et:Tryz.prog.globalNamed "errors.errorType" =some 0:=by kernel_rfl
theorem Tryz.rt:(Tryz.prog.cutTypes.find? (·.1 == "internal/reflectlite.rtype")).map (·.2)=some 205:=by kernel_rfl
theorem Tryz.oneRow:((List.range 286).filter fun t=>Tryz.prog.rowNamed t [101,114,114,111,114])=[81]:=by kernel_rfl
theorem Tryz.size:Tryz.prog.types.size=286:=by kernel_rfl
theorem handle_of_laid{W:World}(h:laidMetH Tryz.prog laidL W):ErrVar W:=by
 have h':laidMet Tryz.prog [] W/\handlesMet Tryz.prog laidL W:=h
 obtain⟨name,u,ty,e1,e2,e3,e4,e5⟩:=h'.2 _ (List.mem_singleton.2 rfl)
 have en:name=[101,114,114,111,114]:=(Option.some.inj e1).symm
 subst en
 obtain rfl:=Option.some.inj (Tryz.rt.symm.trans e2)
 have hm:ty∈(List.range 286).filter fun t=>Tryz.prog.rowNamed t [101,114,114,111,114]:=List.mem_filter.2 ⟨List.mem_range.2 (by rw[<-Tryz.size];exact e3),e4⟩
 rw[Tryz.oneRow]at hm
 obtain rfl:=List.mem_singleton.1 hm
 have hh:typeHandle Tryz.prog 81=.pointer (some ⟨1,81,none⟩):=by kernel_rfl
 rw[hh]at e5
 simpa using World.var?_cell Tryz.et e5 0
noncomputable def laidWorld(os:Os):World:=
 let w0:=World.holding Tryz.prog os ⟨#[],#[],[]⟩
 {w0 with heap:=w0.heap.modify 0 fun
   | .cells _ t frozen=>.cells #[rty 81] t frozen
   | o=>o}
theorem laidWorld_met(os:Os)(args:Array Value):laidMetH Tryz.prog laidL ((laidWorld os).forCall (fun _ _=>0) ⟨#[],args,[]⟩).memory:=
 laidMetH_of_parts (laidMet_nil _ _) (by kernel_rfl)
end
section
open Go.RowKit Go.Shelf Go.Lib Go.ChangeShapes Go.WideShapes Go.Deep
set_option maxRecDepth 100000
theorem weightsAll_mem{H:Type}{P:Program}{e:TypeId}:∀ {l:List (DataW H)} {d:DataW H},d∈l->∀ n∈d.weights P e,n∈DataW.weightsAll P e l
 | a :: l,d,hd,n,hn=>by
   simp only[DataW.weightsAll,List.mem_append]
   rcases List.mem_cons.1 hd with rfl | hd
   ·exact Or.inl hn
   ·exact Or.inr (weightsAll_mem hd n hn)
theorem cellsOp:Tryz.prog.cellsOf 73=5:=by kernel_rfl
theorem cellsI:Tryz.prog.cellsOf 3=1:=by kernel_rfl
theorem cellsS:Tryz.prog.cellsOf 9=1:=by kernel_rfl
instance:Inhabited OpR:=⟨⟨0,0,0,0,ByteArray.empty⟩⟩
section
variable {H:Type} {enc:TypeId×Value->H} {W:World} {base:Nat} {sp:Nat->Bool} {held:Bool}
theorem open_op{n:Nat}{cs:List Value}{x:DataW H×List MemPlace}(h:DataW.trod enc Tryz.prog W base sp held n 73 cs=some x):
  ∃ o:OpR,cs=[.int .i64 o.K,.int .i64 o.A,.int .i64 o.B,.int .i64 o.C,.string o.S]/\(-9223372036854775808<=o.A/\o.A<=9223372036854775807)/\o.S.size∈x.1.weights Tryz.prog 73:=by
 obtain⟨xs,m,_,rfl,hl,hlen,hf⟩:=DataW.trod_struct Tryz.underlying73 h
 rw[cellsOp]at hl
 match cs,hl,xs,hlen with
 | [c0,c1,c2,c3,c4],_,[y0,y1,y2,y3,y4],_=>
   have t0:DataW.trod enc Tryz.prog W base sp held m 3 (List.take (Tryz.prog.cellsOf 3) (List.drop 0 [c0,c1,c2,c3,c4]))=some y0:=hf 0 _ rfl
   have t1:DataW.trod enc Tryz.prog W base sp held m 3 (List.take (Tryz.prog.cellsOf 3) (List.drop 1 [c0,c1,c2,c3,c4]))=some y1:=hf 1 _ rfl
   have t2:DataW.trod enc Tryz.prog W base sp held m 3 (List.take (Tryz.prog.cellsOf 3) (List.drop 2 [c0,c1,c2,c3,c4]))=some y2:=hf 2 _ rfl
   have t3:DataW.trod enc Tryz.prog W base sp held m 3 (List.take (Tryz.prog.cellsOf 3) (List.drop 3 [c0,c1,c2,c3,c4]))=some y3:=hf 3 _ rfl
   have t4:DataW.trod enc Tryz.prog W base sp held m 9 (List.take (Tryz.prog.cellsOf 9) (List.drop 4 [c0,c1,c2,c3,c4]))=some y4:=hf 4 _ rfl
   simp only[cellsI,cellsS,List.drop,List.take]at t0 t1 t2 t3 t4
   obtain⟨K,hK,_,_⟩:=DataW.trod_int Tryz.underlying3 t0
   obtain⟨A,hA,_,wA⟩:=DataW.trod_int Tryz.underlying3 t1
   obtain⟨B,hB,_,_⟩:=DataW.trod_int Tryz.underlying3 t2
   obtain⟨C,hC,_,_⟩:=DataW.trod_int Tryz.underlying3 t3
   obtain⟨S,hS,e4,_⟩:=DataW.trod_string Tryz.underlying9 t4
   simp only[List.cons.injEq,and_true]at hK hA hB hC hS
   subst hK hA hB hC hS
   refine⟨⟨K,A,B,C,S⟩,rfl,bounds_i64 wA,?_⟩
   rw[e4]
   show S.size∈DataW.weights Tryz.prog 73 (.agg [y0.1,y1.1,y2.1,y3.1,.lit (.string S.data.toList)])
   rw[DataW.weights,Tryz.underlying73]
   simp only[List.map,DataW.weightsEach,List.mem_append]
   right;right;right;right;left
   rw[DataW.weights]
   simp
theorem open_ops{v:Value}{d:DataW H}{ps:List MemPlace}(hval:Value.okWide Tryz.prog W .any base 22 v)(h:DataW.Trod enc Tryz.prog W 0 sp held 22 v d ps)(hw:∀ n∈d.weights Tryz.prog 22,n<=reachBytes):
  ∃ bp cap,∃ ops:List OpR,v=.slice bp ops.length cap/\Scr W bp ops/\(∀ o∈ops,o.S.size<=1000000000000000)/\∀ o∈ops,-9223372036854775808<=o.A/\o.A<=9223372036854775807:=by
 obtain⟨fuel,h⟩:=h
 obtain⟨a0,len0,cap0,rfl⟩:=okWide_slice Tryz.underlying22 hval
 rcases open_slice Tryz.underlying22 h with ⟨hc,_⟩ |⟨a,len,cap,m,n,D,Pl,hc,_,hl,hm,hmm,hx,hall⟩
 ·simp only[Value.cells,List.cons.injEq,and_true,Value.slice.injEq]at hc
  obtain⟨rfl,rfl,rfl⟩:=hc
  exact⟨none,0,[],rfl,fun i o hi=>by simp at hi,by simp,by simp⟩
 ·simp only[Value.cells,List.cons.injEq,and_true,Value.slice.injEq]at hc
  obtain⟨rfl,rfl,rfl⟩:=hc
  have hlm:len0<=m:=by rw[hmm];split <;> omega
  have hd:d=.slice ((List.range len0).map D) ((List.range (m - len0)).map fun j=>D (len0+j)):=congrArg Prod.fst hx
  have each:∀ i,i<len0->∃ o:OpR,W.cells? 0 (a.add (i*5)) 5=some [.int .i64 o.K,.int .i64 o.A,.int .i64 o.B,.int .i64 o.C,.string o.S]/\(-9223372036854775808<=o.A/\o.A<=9223372036854775807)/\o.S.size<=1000000000000000:=fun i hi=>by
   obtain⟨cs',h1,h2⟩:=hall i (by omega)
   rw[cellsOp]at h1
   obtain⟨o,rfl,hA,hS⟩:=open_op h2
   refine⟨o,h1,hA,?_⟩
   have:=hw o.S.size (by
    rw[hd]
    simp only[DataW.weights,Tryz.underlying22]
    exact List.mem_cons_of_mem _ (List.mem_append_left _ (weightsAll_mem (List.mem_map.2 ⟨i,List.mem_range.2 hi,rfl⟩) _ hS)))
   simp only[reachBytes]at this
   omega
  obtain⟨f,hf⟩:=choose_lt each
  have hmem:∀ o∈(List.range len0).map f,∃ i,i<len0/\f i=o:=fun o ho=>by
   obtain⟨i,hi,e⟩:=List.mem_map.1 ho
   exact⟨i,List.mem_range.1 hi,e⟩
  refine⟨some a,cap0,(List.range len0).map f,by simp,fun i o hi=>?_,fun o ho=>?_,fun o ho=>?_⟩
  ·have hil:i<len0:=by simpa using (List.getElem?_eq_some_iff.1 hi).1
   have ho:f i=o:=by simpa[List.getElem?_map,List.getElem?_range hil]using hi
   subst ho
   obtain⟨_,_,hcell⟩:=World.cells?_some (hf i hil).1
   obtain⟨sb,so,spot⟩:=a
   have hspot:spot=none:=by
    obtain⟨_,_,h0⟩:=World.cells?_some (hf 0 (by omega)).1
    simpa[Addr.add]using World.cell?_spot (h0 0 (by omega))
   subst hspot
   rw[Go.WideShapes.add_plain]at hcell
   have c0:=hcell 0 (by omega)
   have c1:=hcell 1 (by omega)
   have c2:=hcell 2 (by omega)
   have c3:=hcell 3 (by omega)
   have c4:=hcell 4 (by omega)
   rw[Go.WideShapes.add_plain]at c0 c1 c2 c3 c4
   exact⟨sb,so,rfl,c0,c1,c2,c3,c4⟩
  ·obtain⟨i,hi,rfl⟩:=hmem o ho
   exact (hf i hi).2.2
  ·obtain⟨i,hi,rfl⟩:=hmem o ho
   exact (hf i hi).2.1
end
end
section
open Go Go.Conc
open Go.ConcN (upd upd_same upd_ne)
inductive Trn(R:Program)(main:Bool):Nat->Goroutine->Goroutine->Prop
 | refl (g:Goroutine):Trn R main 0 g g
 | step {n:Nat} {g g' g'':Goroutine} (hs:g.status=.running) (h:∀ w,stepG R main g w=.go g' w #[]) (ht:Trn R main n g' g''):Trn R main (n+1) g g''
section
variable {R:Program} {main:Bool} {n m:Nat} {g g' g'' g₂:Goroutine} {s:Seat}
theorem Trn.trans(h:Trn R main n g g')(h2:Trn R main m g' g''):Trn R main (n+m) g g'':=by
 induction h with
 | refl=>rw [Nat.zero_add];exact h2
 | step hs h _ ih=>rw [Nat.add_right_comm];exact .step hs h (ih h2)
theorem Trn.one(hs:g.status=.running)(h:∀ w,stepG R main g w=.go g' w #[]):Trn R main 1 g g':=.step hs h (.refl _)
theorem trn_goes{K:World->Prop}{Still:Loc->Prop}{B:Nat}(h:Trn R main n g g')(hA:AtIn R main K Still B s g' g₂):∀ w,Goes R main (RK K) (DS Still B) (fun g _=>∃ g₂,AtIn R main K Still B s g g₂) n g w:=by
 induction h with
 | refl=>exact fun w w₁ _=>⟨_,hA⟩
 | step hs h _ ih=>
   refine fun w=>.inr ⟨hs,fun w₁ _=>?_⟩
   rw[h w₁]
   exact⟨⟨rfl,fun e he=>by simp at he⟩,ih hA _⟩
theorem sits_of{K:World->Prop}{Still:Loc->Prop}{B:Nat}(h:Trn R main n g g')(hA:AtIn R main K Still B s g' g₂):Sits R main K Still B s (n+1) g:=.inl ⟨n,default,rfl,trn_goes h hA default⟩
theorem trn_ctlK{K:FuncId}{ds:List Deferred}{t:Array Value}{cs:List Frame}(a:Nat){k k':List Item}(h:ctlN a k=some k'):Trn R main a (mkG (fK K ds t k) cs) (mkG (fK K ds t k') cs):=by
 induction a generalizing k with
 | zero=>
   obtain rfl:=Option.some.inj h
   exact .refl _
 | succ a ih=>
   unfold ctlN at h
   cases hk:ctl1 k with
   | none=>rw [hk]at h;cases h
   | some k1=>
     rw[hk]at h
     exact .step rfl (fun w=>ctl1_stepK hk _ _ _ w) (ih h)
theorem trn_ctlD{D:FuncId}{t:Array Value}{cs:List Frame}(a:Nat){k k':List Item}(h:ctlN a k=some k'):Trn R main a (mkG (fD D t k) cs) (mkG (fD D t k') cs):=by
 induction a generalizing k with
 | zero=>
   obtain rfl:=Option.some.inj h
   exact .refl _
 | succ a ih=>
   unfold ctlN at h
   cases hk:ctl1 k with
   | none=>rw [hk]at h;cases h
   | some k1=>
     rw[hk]at h
     exact .step rfl (fun w=>ctl1_step hk _ _ _ w) (ih h)
theorem trn_knownK{K:FuncId}{ds:List Deferred}{t:Array Value}{cs:List Frame}{ops:Array Oper}{i:Nat}{rest:List Nat}{k:List Item}{o:Oper}{v:Value}(ho:ops[i]?=some o)(hw:Region.wanted o (yielded ops t)=true)(hv:Known R (execOp (fK K ds t []).eval o) v):
  Trn R main 1 (mkG (fK K ds t (.inRegion ops (i :: rest) :: k)) cs) (mkG (fK K ds (putT t o.dst v) (.inRegion ops rest :: k)) cs):=.one rfl fun w=>known_stepK ho hw hv main cs w
theorem trn_knownD{D:FuncId}{t:Array Value}{cs:List Frame}{ops:Array Oper}{i:Nat}{rest:List Nat}{k:List Item}{o:Oper}{v:Value}(ho:ops[i]?=some o)(hw:Region.wanted o (yielded ops t)=true)(hv:Known R (execOp (fD D t []).eval o) v):
  Trn R main 1 (mkG (fD D t (.inRegion ops (i :: rest) :: k)) cs) (mkG (fD D (putT t o.dst v) (.inRegion ops rest :: k)) cs):=.one rfl fun w=>known_stepD ho hw hv main cs w
end
noncomputable def kX:Code:=cIn kLoop
noncomputable def selK(l:List Nat):List Item:=[.inRegion (cOps kSel) l,.code (cTl (cTl kX)),.inBlock 1,.inLoop kLoop,.inBlock 0]
noncomputable def kDef:Oper:=(cOps (cHd bK)).getD 1 default
noncomputable def closeD(v:Value):Deferred:=
 match kDef.op with
 | .defer c=>{target:=.builtin .close c.argTypes kDef.type (c.args.map fun | .const _=>true | _=>false),args:=#[v]}
 | _=>default
noncomputable def bot:Frame:={(default:Frame)with fn:=Tryz.prog.funcs.size,defers:=[],mode:=.panicking [goexitEntry]}
def dt00(a b c d:Value):Array Value:=#[a,b,c,d] ++ Array.replicate 27 undef
noncomputable def callK(a b c d:Value):Deferred:={target:=.fn (.func dK) #[],args:=#[a,b,c,d]}
theorem born_step(a b c d:Value)(w:World):stepG Tryz.prog false (born Tryz.prog (callK a b c d)) w=.go (mkG (fK dK [] (dt00 a b c d) [.code bK]) [bot]) w #[]:=by
 have e:Frame.enter Tryz.prog dK #[a,b,c,d] .deferred=fK dK [] (dt00 a b c d) [.code bK]:=by
  unfold Frame.enter
  rw[Tryz.func47]
  rfl
 have h:stepG Tryz.prog false (born Tryz.prog (callK a b c d)) w=callDeferred Tryz.prog {(default:Frame)with fn:=Tryz.prog.funcs.size,defers:=[],mode:=.panicking [goexitEntry]} [] none (callK a b c d) w:=rfl
 rw[h]
 unfold callDeferred callK
 have hr:(invoke (.fn (.func dK) #[]) #[a,b,c,d]).runT Tryz.prog w #[]=(.ok (.enter dK #[a,b,c,d]) w,#[]):=by
  simp[invoke,callFunc,Tryz.func47,Tryz.f47]
 simp only[hr]
 rw[e]
 rfl
noncomputable def kRec(k3:Nat)(dt:Array Value):Goroutine:=mkG (fK dK [closeD (.chan (some k3))] dt (selK [0,1,2,3])) [bot]
noncomputable def seatD(k1 k2 k3:Nat)(dt:Array Value):Seat:={cases:=#[rcase k1 (.agg #[.int .i64 0,.chan none]),rcase k2 (.agg #[])],shape:=.select,home:=fun g=>g=kRec k3 dt}
theorem seatD_has{k1 k2 k3:Nat}{dt:Array Value}{y:Nat}(h:(seatD k1 k2 k3 dt).has y):y=k1\/y=k2:=by
 obtain⟨k,z,hk⟩:=h
 rcases k with _ | _ | k <;> simp[seatD,rcase]at hk <;> omega
theorem seatD_wf{k1 k2 k3:Nat}{dt:Array Value}(h:k1≠k2):(seatD k1 k2 k3 dt).Wf:=by
 refine⟨fun cc h=>?_,fun k m c z z' h1 h2=>?_⟩
 ·simp only[seatD,List.mem_toArray,List.mem_cons,List.not_mem_nil,or_false]at h
  rcases h with rfl | rfl
  ·exact⟨_,_,rfl⟩
  ·exact⟨_,_,rfl⟩
 ·rcases k with _ | _ | k <;> rcases m with _ | _ | m <;> simp[seatD,rcase]at h1 h2 ⊢ <;> omega
theorem evalK{K:FuncId}{ds:List Deferred}{t:Array Value}{i:Nat}{v:Value}(h:t[i]?=some v):(fK K ds t []).eval (.tmp i)=v:=by
 show t.getD i undef=v
 rw[Array.getD_eq_getD_getElem?,h];rfl
theorem evalD{D:FuncId}{t:Array Value}{i:Nat}{v:Value}(h:t[i]?=some v):(fD D t []).eval (.tmp i)=v:=by
 show t.getD i undef=v
 rw[Array.getD_eq_getD_getElem?,h];rfl
theorem actE{t:Array Value}{ds:List Deferred}{i:Nat}{v:Value}(h:t[i]?=some v):(⟨t,ds⟩:Act).eval (.tmp i)=v:=by
 show t.getD i undef=v
 rw[Array.getD_eq_getD_getElem?,h];rfl
theorem k_at{k1 k2 k3:Nat}{dt:Array Value}(h1:dt[10]?=some (.chan (some k1)))(h2:dt[11]?=some (.chan (some k2)))(B:Nat):AtIn Tryz.prog false (fun _=>True) (fun _=>False) B (seatD k1 k2 k3 dt) (kRec k3 dt) (kRec k3 dt):=by
 have e1:=actE (ds:=[closeD (.chan (some k3))]) h1
 have e2:=actE (ds:=[closeD (.chan (some k3))]) h2
 refine atIn_of (b:=fK dK [closeD (.chan (some k3))] #[] []) (a:=⟨dt,[closeD (.chan (some k3))]⟩) (ops:=cOps kSel) (i:=0) (rest:=[1,2,3]) (s:=seatD k1 k2 k3 dt) (by rfl) (by rfl) (fun h=>by cases h) (fun w=>?_) (fun w=>?_) (by rfl)
 ·simp[go_sem,execOp,rcase,seatD,e1,e2,cOps,kSel,cHd,cTl,cIn,kLoop,bK,Tryz.f47,h1,h2]
 ·simp[go_sem,execOp,e1,e2,cOps,kSel,cHd,cTl,cIn,kLoop,bK,Tryz.f47,h1,h2]
theorem k_turn{ds:List Deferred}{dt:Array Value}{k1 k2:Nat}(hs:dt.size=31)(h1:dt[1]?=some (.chan (some k1)))(h2:dt[2]?=some (.chan (some k2))):
  Trn Tryz.prog false 11 (mkG (fK dK ds dt [.code kLoop,.inLoop kLoop,.inBlock 0]) [bot]) (mkG (fK dK ds (putT (putT dt (some 10) (.chan (some k1))) (some 11) (.chan (some k2))) (selK [0,1,2,3])) [bot]):=by
 have a1:Trn Tryz.prog false 4 (mkG (fK dK ds dt [.code kLoop,.inLoop kLoop,.inBlock 0]) [bot]) (mkG (fK dK ds dt (.inRegion (cOps (cHd (cHd kX))) [0] :: .code (cTl (cHd kX)) :: .code (cTl kX) :: .inBlock 1 :: .inLoop kLoop :: .inBlock 0 :: [])) [bot]):=trn_ctlK 4 (by rfl)
 have a2:=trn_knownK (R:=Tryz.prog) (main:=false) (K:=dK) (ds:=ds) (t:=dt) (cs:=[bot]) (ops:=cOps (cHd (cHd kX))) (i:=0) (rest:=[]) (k:=.code (cTl (cHd kX)) :: .code (cTl kX) :: .inBlock 1 :: .inLoop kLoop :: .inBlock 0 :: []) (v:=.chan (some k1)) (by rfl) (by rfl) (by
  have e:(fK dK ds dt []).eval (.tmp 1)=_:=evalK h1
  rw[<-e]
  exact known_pure)
 have a3:Trn Tryz.prog false 2 _ (mkG (fK dK ds (putT dt (some 10) (.chan (some k1))) (.inRegion (cOps (cTl (cHd kX))) [0] :: .code (cTl kX) :: .inBlock 1 :: .inLoop kLoop :: .inBlock 0 :: [])) [bot]):=trn_ctlK (k:=.inRegion (cOps (cHd (cHd kX))) [] :: .code (cTl (cHd kX)) :: .code (cTl kX) :: .inBlock 1 :: .inLoop kLoop :: .inBlock 0 :: []) 2 (by rfl)
 have h2':(putT dt (some 10) (.chan (some k1)))[2]?=some (.chan (some k2)):=by rw[putT_ne (by simp)];exact h2
 have a4:=trn_knownK (R:=Tryz.prog) (main:=false) (K:=dK) (ds:=ds) (t:=putT dt (some 10) (.chan (some k1))) (cs:=[bot]) (ops:=cOps (cTl (cHd kX))) (i:=0) (rest:=[]) (k:=.code (cTl kX) :: .inBlock 1 :: .inLoop kLoop :: .inBlock 0 :: []) (v:=.chan (some k2)) (by rfl) (by rfl) (by
  have e:(fK dK ds (putT dt (some 10) (.chan (some k1))) []).eval (.tmp 2)=_:=evalK h2'
  rw[<-e]
  exact known_pure)
 have a5:Trn Tryz.prog false 3 _ (mkG (fK dK ds (putT (putT dt (some 10) (.chan (some k1))) (some 11) (.chan (some k2))) (selK [0,1,2,3])) [bot]):=trn_ctlK (k:=.inRegion (cOps (cTl (cHd kX))) [] :: .code (cTl kX) :: .inBlock 1 :: .inLoop kLoop :: .inBlock 0 :: []) 3 (by rfl)
 exact a1.trans (a2.trans (a3.trans (a4.trans a5)))
theorem defer_step{X:Program}{K:FuncId}{ds:List Deferred}{t:Array Value}{ops:Array Oper}{i:Nat}{rest:List Nat}{k:List Item}{o:Oper}{d:Deferred}(ho:ops[i]?=some o)(hdst:o.dst=none)(hw:Region.wanted o (yielded ops t)=true)(hv:∀ w,(execOp (fK K ds t []).eval o).runT X w #[]=(.ok (.defer d) w,#[]))(main:Bool)(cs:List Frame)(w:World):
  stepG X main (mkG (fK K ds t (.inRegion ops (i :: rest) :: k)) cs) w=.go (mkG (fK K (d :: ds) t (.inRegion ops rest :: k)) cs) w #[]:=by
 have hf:=fK_finish (K:=K) (ds:=d :: ds) (t:=t) (rest:=rest) (k:=k) ho undef
 rw[hdst]at hf
 rw[fK_op ho hw,stepG.apply]
 have he:((fK K ds t (.inRegion ops (i :: rest) :: k)).kind == .early)=false:=rfl
 simp only[if_true,hv w,he]
 show GStep.go (mkG ((fK K (d :: ds) t (.inRegion ops (i :: rest) :: k)).finish undef) cs) w _=_
 rw[hf]
 rfl
theorem dt00_at(a b c d:Value):(dt00 a b c d)[0]?=some a/\(dt00 a b c d)[1]?=some b/\(dt00 a b c d)[2]?=some c/\(dt00 a b c d)[3]?=some d/\(dt00 a b c d).size=31:=by simp[dt00]
def dt0(v:Value)(k1 k2 k3:Nat):Array Value:=putT (putT (putT (dt00 v (.chan (some k1)) (.chan (some k2)) (.chan (some k3))) (some 9) (.chan (some k3))) (some 10) (.chan (some k1))) (some 11) (.chan (some k2))
theorem k_birth(v:Value)(k1 k2 k3:Nat):Trn Tryz.prog false 19 (born Tryz.prog (callK v (.chan (some k1)) (.chan (some k2)) (.chan (some k3)))) (kRec k3 (dt0 v k1 k2 k3)):=by
 obtain⟨d0,d1,d2,d3,dz⟩:=dt00_at v (.chan (some k1)) (.chan (some k2)) (.chan (some k3))
 have a0:=Trn.one (R:=Tryz.prog) (main:=false) (g:=born Tryz.prog (callK v (.chan (some k1)) (.chan (some k2)) (.chan (some k3)))) rfl (fun w=>born_step v (.chan (some k1)) (.chan (some k2)) (.chan (some k3)) w)
 unfold dt0
 generalize dt00 v (.chan (some k1)) (.chan (some k2)) (.chan (some k3))=t at *
 have a1:Trn Tryz.prog false 2 (mkG (fK dK [] t [.code bK]) [bot]) (mkG (fK dK [] t (.inRegion (cOps (cHd bK)) [0,1] :: .code (cTl bK) :: [])) [bot]):=trn_ctlK (k:=[.code bK]) 2 (by rfl)
 have a2:=trn_knownK (R:=Tryz.prog) (main:=false) (K:=dK) (ds:=[]) (t:=t) (cs:=[bot]) (ops:=cOps (cHd bK)) (i:=0) (rest:=[1]) (k:=.code (cTl bK) :: []) (v:=.chan (some k3)) (by rfl) (by rfl) (by
  have e:(fK dK [] t []).eval (.tmp 3)=_:=evalK d3
  rw[<-e]
  exact known_pure)
 have d9:(putT t (some 9) (.chan (some k3)))[9]?=some (.chan (some k3)):=putT_self (by rw[dz];decide)
 have d1':(putT t (some 9) (.chan (some k3)))[1]?=_:=(putT_ne (by simp)).trans d1
 have d2':(putT t (some 9) (.chan (some k3)))[2]?=_:=(putT_ne (by simp)).trans d2
 have dz':(putT t (some 9) (.chan (some k3))).size=31:=by rw[putT_size];exact dz
 change Trn Tryz.prog false 1 _ (mkG (fK dK [] (putT t (some 9) (.chan (some k3))) _) _)at a2
 generalize putT t (some 9) (.chan (some k3))=t2 at *
 have a3:=Trn.one (R:=Tryz.prog) (main:=false) rfl (fun w=>defer_step (X:=Tryz.prog) (K:=dK) (ds:=[]) (t:=t2) (ops:=cOps (cHd bK)) (i:=1) (rest:=[]) (k:=.code (cTl bK) :: []) (d:=closeD (.chan (some k3))) (by rfl) (by rfl) (by rfl) (fun w=>by
  have e:(fK dK [] t2 []).eval (.tmp 9)=_:=evalK d9
  simp[execOp,resolve,closeD,kDef,cOps,cHd,bK,Tryz.f47,e]) false [bot] w)
 have a4:Trn Tryz.prog false 3 (mkG (fK dK [closeD (.chan (some k3))] t2 (.inRegion (cOps (cHd bK)) [] :: .code (cTl bK) :: [])) [bot]) (mkG (fK dK [closeD (.chan (some k3))] t2 [.code kLoop,.inLoop kLoop,.inBlock 0]) [bot]):=trn_ctlK 3 (by rfl)
 have a5:=k_turn (ds:=[closeD (.chan (some k3))]) dz' d1' d2'
 exact a0.trans (a1.trans (a2.trans (a3.trans (a4.trans a5))))
theorem k_back{k3 k1 k2:Nat}{dt:Array Value}(hs:dt.size=31)(h1:dt[1]?=some (.chan (some k1)))(h2:dt[2]?=some (.chan (some k2))):
  Trn Tryz.prog false 15 (mkG (fK dK [closeD (.chan (some k3))] dt [.inRegion kOps5 [],.inBlock 2,.inBlock 1,.inLoop kLoop,.inBlock 0]) [bot]) (kRec k3 (putT (putT dt (some 10) (.chan (some k1))) (some 11) (.chan (some k2)))):=by
 have a1:Trn Tryz.prog false 4 (mkG (fK dK [closeD (.chan (some k3))] dt [.inRegion kOps5 [],.inBlock 2,.inBlock 1,.inLoop kLoop,.inBlock 0]) [bot]) (mkG (fK dK [closeD (.chan (some k3))] dt [.code kLoop,.inLoop kLoop,.inBlock 0]) [bot]):=trn_ctlK 4 (by rfl)
 exact a1.trans (k_turn hs h1 h2)
def cTs:Nat->Code->Code | 0,c=>c | n+1,c=>cTs n (cTl c)
noncomputable def dBlk:Code:=cIn (cIn (cHd (cTs 7 bD)))
noncomputable def dLB:Code:=cIn dBlk
noncomputable def dR8:Code:=cTs 8 bD
noncomputable def rkHead:List Item:=[.code dBlk,.inLoop dBlk,.inBlock 0,.code dR8]
noncomputable def gkHead:List Item:=[.code (gh dBlk),.inLoop (gh dBlk),.inBlock 0,.code (gh dR8)]
noncomputable def rkIn:List Item:=[.inBlock 1,.inLoop dBlk,.inBlock 0,.code dR8]
noncomputable def gkIn:List Item:=[.inBlock 1,.inLoop (gh dBlk),.inBlock 0,.code (gh dR8)]
structure Lp(Inb0:Nat->Option Seat)(J0:Nat->Prop)(rt:Array Value)(s:Pt)(k1 k2 k3 k4 j:Nat)(dt:Array Value):Prop where
 two:Two rt s.gt
 ex:Ex s.gt dt
 g5:s.gt[5]?=some (.chan (some k1))
 g6:s.gt[6]?=some (.chan (some k2))
 g7:s.gt[7]?=some (.chan (some k3))
 g8:∃ i,s.gt[8]?=some (.int .i64 i)
 g9:s.gt[9]?=some (.chan (some k4))
 j0:j≠0
 jn:j<s.n
 in0:Inb0 j=none
 z0:Inb0 0=none
 J1:s.J k1
 J2:s.J k2
 J3:s.J k3
 J4:s.J k4
 n1:¬J0 k1
 n2:¬J0 k2
 n3:¬J0 k3
 n4:¬J0 k4
 o1:Opn s.W k1
 o2:Opn s.W k2
 o3:Opn s.W k3
 o4:Opn s.W k4
 ne:k1≠k2/\k1≠k3/\k1≠k4/\k2≠k3/\k2≠k4/\k3≠k4
 fresh:∀ x s' y,Inb0 x=some s'->s'.has y->J0 y
 sub:∀ k,J0 k->s.J k
 d1:dt[1]?=some (.chan (some k1))
 d2:dt[2]?=some (.chan (some k2))
 d10:dt[10]?=some (.chan (some k1))
 d11:dt[11]?=some (.chan (some k2))
noncomputable def inbL(Inb0:Nat->Option Seat)(k1 k2 k3 j:Nat)(dt:Array Value):Nat->Option Seat:=upd Inb0 j (some (seatD k1 k2 k3 dt))
abbrev protL:List Nat:=[5,6,7,8,9]
section
variable {f:FuncId} {Post:Value->World->Prop} {c c':Frame} {gs rs:List Frame} {Inb0:Nat->Option Seat} {J0:Nat->Prop} {s s':Pt} {k1 k2 k3 k4 j:Nat} {dt:Array Value}
theorem opn_kp{J:Nat->Prop}{W W':World}{k:Nat}(h:Opn W k)(hk:Kp J W W')(hj:J k):Opn W' k:=by
 obtain⟨a,ha⟩:=h
 exact⟨a,(hk.block k hj).trans ha⟩
theorem Lp.way{rt rt':Array Value}(h:Lp Inb0 J0 rt s k1 k2 k3 k4 j dt)(hw:Way gP Tryz.prog.funcs gE dD c gs s.J s s')(h2:Two rt' s'.gt)(hp:∀ p,(p∈protL\/53<=p)->s'.gt[p]?=s.gt[p]?):Lp Inb0 J0 rt' s' k1 k2 k3 k4 j dt:=
 ⟨h2,⟨h2.gsz,h.ex.dsz,fun k hk=>(hp _ (.inr (by omega))).trans (h.ex.eq k hk)⟩,(hp 5 (.inl (by decide))).trans h.g5,(hp 6 (.inl (by decide))).trans h.g6,(hp 7 (.inl (by decide))).trans h.g7,(by obtain⟨i,hi⟩:=h.g8;exact⟨i,(hp 8 (.inl (by decide))).trans hi⟩),(hp 9 (.inl (by decide))).trans h.g9,h.j0,Nat.lt_of_lt_of_le h.jn hw.le,h.in0,h.z0,
   hw.sub _ h.J1,hw.sub _ h.J2,hw.sub _ h.J3,hw.sub _ h.J4,h.n1,h.n2,h.n3,h.n4,opn_kp h.o1 hw.kp h.J1,opn_kp h.o2 hw.kp h.J2,opn_kp h.o3 hw.kp h.J3,opn_kp h.o4 hw.kp h.J4,h.ne,h.fresh,fun k hk=>hw.sub k (h.sub k hk),h.d1,h.d2,h.d10,h.d11⟩
theorem lp_region(hE:Ext gP gE){Inb:Nat->Option Seat}(h:s.Ok gP Tryz.prog.funcs gE dD f Post c c' gs rs Inb)(ih:Fwd gP Tryz.prog.funcs gE dD f Post c gs s)(hl:Lp Inb0 J0 s.rt s k1 k2 k3 k4 j dt){id id':Nat}{ops:Array Oper}{kg kr:List Item}(hg:s.gk=.code (.region id ops false) :: kg)(hr:s.rk=.code (.region id' ops false) :: kr)(ho:ops.all (opIn gP dD protL)=true):
  ∃ s':Pt,s'.Ok gP Tryz.prog.funcs gE dD f Post c c' gs rs Inb/\Way gP Tryz.prog.funcs gE dD c gs J0 s s'/\s'.gk=kg/\s'.rk=kr/\Lp Inb0 J0 s'.rt s' k1 k2 k3 k4 j dt:=by
 obtain⟨s',h1,h2,h3,h4,h5,h6⟩:=region_both hE alike protL h ih hg hr ho hl.two
 exact⟨s',h1,h2.weak hl.sub,h3,h4,hl.way h2 h5 h6⟩
theorem lp_turns(a b:Nat){gk rk:List Item}{Inb:Nat->Option Seat}(h:s.Ok gP Tryz.prog.funcs gE dD f Post c c' gs rs Inb)(hl:Lp Inb0 J0 s.rt s k1 k2 k3 k4 j dt)(ha:ctlN a s.gk=some gk)(hb:ctlN b s.rk=some rk):
  ∃ s':Pt,s'.Ok gP Tryz.prog.funcs gE dD f Post c c' gs rs Inb/\Way gP Tryz.prog.funcs gE dD c gs J0 s s'/\s'.gk=gk/\s'.rk=rk/\Lp Inb0 J0 s'.rt s' k1 k2 k3 k4 j dt:=by
 obtain⟨W,m,T,h1,h2⟩:=turns a b h ha hb
 exact⟨_,h1,h2.weak hl.sub,rfl,rfl,hl.way h2 hl.two fun _ _=>rfl⟩
theorem lp_cond{Inb:Nat->Option Seat}(h:s.Ok gP Tryz.prog.funcs gE dD f Post c c' gs rs Inb)(hl:Lp Inb0 J0 s.rt s k1 k2 k3 k4 j dt){o:Operand}(hs:slotOk o=true){a b a' b':Code}{kg kr:List Item}(hg:s.gk=.code (.cond o a b) :: kg)(hr:s.rk=.code (.cond o a' b') :: kr):
  ∃ (v:Bool) (s':Pt),s'.Ok gP Tryz.prog.funcs gE dD f Post c c' gs rs Inb/\Way gP Tryz.prog.funcs gE dD c gs J0 s s'/\s'.gk=.code (if v then a else b) :: kg/\s'.rk=.code (if v then a' else b') :: kr/\Lp Inb0 J0 s'.rt s' k1 k2 k3 k4 j dt:=by
 obtain⟨v,W,m,T,_,h1,h2⟩:=cond_both h hg hr (hl.two.eval hs)
 exact⟨v,_,h1,h2.weak hl.sub,rfl,rfl,hl.way h2 hl.two fun _ _=>rfl⟩
theorem lp_known{Inb:Nat->Option Seat}(h:s.Ok gP Tryz.prog.funcs gE dD f Post c c' gs rs Inb)(hl:Lp Inb0 J0 s.rt s k1 k2 k3 k4 j dt){ops ops':Array Oper}{i:Nat}{rest:List Nat}{kg kr:List Item}{o o':Oper}{v:Value}(d:Nat)(hg:s.gk=.inRegion ops (i :: rest) :: kg)(hr:s.rk=.inRegion ops' (i :: rest) :: kr)(ho:ops[i]?=some o)(ho':ops'[i]?=some o')
  (hd:o.dst=some d) (hd':o'.dst=some d) (hlt:d<53/\d ∉ protL) (hw:o.guard.isNone=true) (hw':o'.guard.isNone=true) (hv:execOp (fD dD s.gt []).eval o=pure (.value v)) (hv':execOp (fD dD s.rt []).eval o'=pure (.value v)):
  ∃ s':Pt,s'.Ok gP Tryz.prog.funcs gE dD f Post c c' gs rs Inb/\Way gP Tryz.prog.funcs gE dD c gs J0 s s'/\s'.gk=.inRegion ops rest :: kg/\s'.rk=.inRegion ops' rest :: kr/\Lp Inb0 J0 s'.rt s' k1 k2 k3 k4 j dt/\s'.gt=putT s.gt (some d) v/\s'.rt=putT s.rt (some d) v:=by
 obtain⟨W,m,T,h1,h2⟩:=both_pure h hg ho (wanted_none hw _) hv hr ho' (wanted_none hw' _) hv'
 rw[hd,hd']at h1 h2
 exact⟨_,h1,h2.weak hl.sub,rfl,rfl,hl.way h2 (hl.two.put (d:=some d) (fun x hx=>by cases hx;exact hlt.1) v) fun p hp=>putT_ne (fun e=>by
  cases e
  rcases hp with hp | hp
  ·exact hlt.2 hp
  ·exact absurd hlt.1 (Nat.not_lt.2 hp)),rfl,rfl⟩
theorem lp_op(hE:Ext gP gE){Inb:Nat->Option Seat}(h:s.Ok gP Tryz.prog.funcs gE dD f Post c c' gs rs Inb)(ih:Fwd gP Tryz.prog.funcs gE dD f Post c gs s)(hl:Lp Inb0 J0 s.rt s k1 k2 k3 k4 j dt){ops ops':Array Oper}{i:Nat}{rest:List Nat}{kg kr:List Item}{o:Oper}(d:Nat)(hg:s.gk=.inRegion ops (i :: rest) :: kg)(hr:s.rk=.inRegion ops' (i :: rest) :: kr)(ho:ops[i]?=some o)(ho':ops'[i]?=some o)
  (hd:o.dst=some d) (hlt:d<53) (hin:opIn gP dD [] o=true):
  ∃ (s':Pt) (v:Value),s'.Ok gP Tryz.prog.funcs gE dD f Post c c' gs rs Inb/\Way gP Tryz.prog.funcs gE dD c gs s.J s s'/\s'.gk=.inRegion ops rest :: kg/\s'.rk=.inRegion ops' rest :: kr/\s'.gt=putT s.gt (some d) v/\s'.rt=putT s.rt (some d) v/\(YldV Tryz.prog (execOp (fD dD s.gt []).eval o) s.u v s'.u\/YldE gP gE (execOp (fD dD s.gt []).eval o) s.u):=by
 simp only[opIn,Bool.and_eq_true]at hin
 obtain⟨⟨⟨⟨h6,h7⟩,h8⟩,h9⟩,_⟩:=hin
 obtain⟨v,u',W,m,T,J,n,g1,g2,g3⟩:=op_both hE alike h ih hg hr ho ho' h6 h7 (wanted_none h8 _) (wanted_none h8 _) (execOp_congr o (no_select h7) fun x hx=>hl.two.eval (Array.all_eq_true'.1 h9 x hx))
 rw[hd]at g1 g2
 exact⟨_,v,g1,g2,rfl,rfl,rfl,rfl,g3.imp (fun g=>g.2.2) id⟩
end
end
section
open Go Go.Conc Go.RowKit
open Go.ConcN (upd upd_same upd_ne)
noncomputable def dY:Code:=cYes (cTl (cHd (cTl dLB)))
noncomputable def dC:Code:=cTl (cTl dLB)
noncomputable def ops10:Array Oper:=cOps (cHd dY)
noncomputable def ops11:Array Oper:=cOps (cHd (cTl dY))
noncomputable def gops10:Array Oper:=mapA ghOp ops10
noncomputable def gops11:Array Oper:=mapA ghOp ops11
noncomputable def rkC:List Item:=.code dC :: rkIn
noncomputable def gkC:List Item:=.code (gh dC) :: gkIn
noncomputable def rec0(rt:Array Value)(c':Frame)(rs:List Frame):Goroutine:=mkG (fD dD rt (.inRegion ops11 [2,3] :: .code (cTl (cTl dY)) :: rkC)) (c' :: rs)
noncomputable def seat0(k4:Nat)(rt:Array Value)(c':Frame)(rs:List Frame):Seat:=Seat.one k4 (.bool false) false (fun g=>g=rec0 rt c' rs)
def rtAt(rt:Array Value)(k4:Nat):Array Value:=putT (putT rt (some 37) (rt.getD 0 undef)) (some 38) (.chan (some k4))
theorem send_step{rt:Array Value}{k1:Nat}{k:List Item}{cs:List Frame}(h:rt[33]?=some (.chan (some k1)))(w:World):
  stepG Tryz.prog true (mkG (fD dD rt (.inRegion ops10 [4] :: k)) cs) w=.comm (mkG (fD dD rt (.inRegion ops10 [4] :: k)) cs) #[scase k1 (rt.getD 36 undef) (.tuple #[])] true .send w #[]:=by
 have e1:=actE (ds:=[]) h
 have hr:∀ w,(execOp (⟨rt,[]⟩:Act).eval (ops10.getD 4 default)).run Tryz.prog w=.ok (.comm #[scase k1 (rt.getD 36 undef) (.tuple #[])] true .send) w:=fun w=>by
  simp[go_sem,execOp,scase,e1,h,ops10,dY,dLB,dBlk,cTs,cOps,cHd,cTl,cIn,cYes,bD,Tryz.f26]
 have he:∀ w,(execOp (⟨rt,[]⟩:Act).eval (ops10.getD 4 default)).events Tryz.prog w #[]=#[]:=fun w=>by
  simp[go_sem,execOp,scase,e1,h,ops10,dY,dLB,dBlk,cTs,cOps,cHd,cTl,cIn,cYes,bD,Tryz.f26]
 have:=stepG_comm (P:=Tryz.prog) (main:=true) (b:=fD dD #[] []) (a:=⟨rt,[]⟩) (k:=k) (cs:=cs) (ops:=ops10) (i:=4) (rest:=[]) (o:=ops10.getD 4 default) (by rfl) (by rfl) (fun h=>by cases h) (hr w)
 rw[listed_none (he w)]at this
 exact this
theorem at0{rt:Array Value}{k4:Nat}{c':Frame}{rs:List Frame}(hsz:53<=rt.size)(B:Nat):AtIn Tryz.prog true (fun _=>True) (fun _=>False) B (seat0 k4 (rtAt rt k4) c' rs) (rec0 (rtAt rt k4) c' rs) (rec0 (rtAt rt k4) c' rs):=by
 have h:(rtAt rt k4)[38]?=some (.chan (some k4)):=putT_self (by rw[putT_size];omega)
 have e1:=actE (ds:=[]) h
 refine atIn_of (b:=fD dD #[] []) (a:=⟨rtAt rt k4,[]⟩) (ops:=ops11) (i:=2) (rest:=[3]) (s:=seat0 k4 (rtAt rt k4) c' rs) (by rfl) (by rfl) (fun h=>by cases h) (fun w=>?_) (fun w=>?_) (by rfl)
 ·simp[go_sem,execOp,rcase,seat0,Seat.one,e1,h,ops11,dY,dLB,dBlk,cTs,cOps,cHd,cTl,cIn,cYes,bD,Tryz.f26]
 ·simp[go_sem,execOp,rcase,seat0,Seat.one,e1,h,ops11,dY,dLB,dBlk,cTs,cOps,cHd,cTl,cIn,cYes,bD,Tryz.f26]
theorem to0{rt:Array Value}{k4:Nat}{c':Frame}{rs:List Frame}(h9:rt[9]?=some (.chan (some k4))):Trn Tryz.prog true 5 (mkG (fD dD rt (.inRegion ops10 [] :: .code (cTl dY) :: rkC)) (c' :: rs)) (rec0 (rtAt rt k4) c' rs):=by
 have a1:Trn Tryz.prog true 3 (mkG (fD dD rt (.inRegion ops10 [] :: .code (cTl dY) :: rkC)) (c' :: rs)) (mkG (fD dD rt (.inRegion ops11 [0,1,2,3] :: .code (cTl (cTl dY)) :: rkC)) (c' :: rs)):=trn_ctlD 3 (by rfl)
 have a2:=trn_knownD (R:=Tryz.prog) (main:=true) (D:=dD) (t:=rt) (cs:=c' :: rs) (ops:=ops11) (i:=0) (rest:=[1,2,3]) (k:=.code (cTl (cTl dY)) :: rkC) (v:=rt.getD 0 undef) (by rfl) (by rfl) known_pure
 have h9':(putT rt (some 37) (rt.getD 0 undef))[9]?=some (.chan (some k4)):=by rw[putT_ne (by simp)];exact h9
 have a3:=trn_knownD (R:=Tryz.prog) (main:=true) (D:=dD) (t:=putT rt (some 37) (rt.getD 0 undef)) (cs:=c' :: rs) (ops:=ops11) (i:=1) (rest:=[2,3]) (k:=.code (cTl (cTl dY)) :: rkC) (v:=.chan (some k4)) (by rfl) (by rfl) (by
  have e:(fD dD (putT rt (some 37) (rt.getD 0 undef)) []).eval (.tmp 9)=_:=evalD h9'
  rw[<-e]
  exact known_pure)
 exact a1.trans (a2.trans a3)
theorem known_extract{X:Program}{K:FuncId}{ds:List Deferred}{t:Array Value}{o:Oper}{i p:Nat}{vs:Array Value}{v:Value}(ho:o.op=.extract (.tmp i) p)(h:t[i]?=some (.tuple vs))(hv:vs[p]?=some v):Known X (execOp (fK K ds t []).eval o) v:=fun w=>by
 have e:(fK K ds t []).eval (.tmp i)=_:=evalK h
 unfold execOp
 rw[ho]
 simp only[e]
 simp[Instr.extract,hv]
section
variable {f:FuncId} {Post:Value->World->Prop} {c c':Frame} {gs rs:List Frame} {Inb0:Nat->Option Seat} {J0:Nat->Prop} {s s':Pt} {k1 k2 k3 k4 j:Nat} {dt:Array Value}
noncomputable def gX:Code:=.seq gh6 (.seq gh7 (gh (cTl dY)))
theorem gh_dY:gh dY=.seq (.region 10 gops10 false) (.seq gh4 (.seq gh5 gX)):=by rfl
theorem lp_prep(hE:Ext gP gE)(h:s.Ok gP Tryz.prog.funcs gE dD f Post c c' gs rs (inbL Inb0 k1 k2 k3 j dt))(ih:Fwd gP Tryz.prog.funcs gE dD f Post c gs s)(hl:Lp Inb0 J0 s.rt s k1 k2 k3 k4 j dt)(hg:s.gk=.code (gh dY) :: gkC)(hr:s.rk=.code dY :: rkC):
  ∃ (s':Pt) (i:Int),s'.Ok gP Tryz.prog.funcs gE dD f Post c c' gs rs (inbL Inb0 k1 k2 k3 j dt)/\Way gP Tryz.prog.funcs gE dD c gs J0 s s'/\s'.gk=.inRegion gops10 [4] :: .code (.seq gh4 (.seq gh5 gX)) :: gkC/\s'.rk=.inRegion ops10 [4] :: .code (cTl dY) :: rkC/\Lp Inb0 J0 s'.rt s' k1 k2 k3 k4 j dt/\s'.rt[33]?=some (.chan (some k1))/\s'.rt[36]?=some (.agg #[.int .i64 i,.chan (some k4)]):=by
 obtain⟨s1,h1,w1,g1,r1,l1⟩:=lp_turns 2 2 (gk:=.inRegion gops10 [0,1,2,3,4] :: .code (.seq gh4 (.seq gh5 gX)) :: gkC) (rk:=.inRegion ops10 [0,1,2,3,4] :: .code (cTl dY) :: rkC) h hl (by rw[hg,gh_dY];rfl) (by rw[hr];rfl)
 have r5:s1.rt[5]?=some (.chan (some k1)):=(l1.two.eq 5 (by decide)).symm.trans l1.g5
 obtain⟨s2,h2,w2,g2,r2,l2,t2,q2⟩:=lp_known h1 l1 33 (v:=.chan (some k1)) g1 r1 (o:=gops10.getD 0 default) (o':=ops10.getD 0 default) (by rfl) (by rfl) (by rfl) (by rfl) (by decide) (by rfl) (by rfl) (by
  have e:(fD dD s1.gt []).eval (.tmp 5)=_:=evalD l1.g5
  rw[<-e];rfl) (by
  have e:(fD dD s1.rt []).eval (.tmp 5)=_:=evalD r5
  rw[<-e];rfl)
 obtain⟨i,hi⟩:=l2.g8
 have r8:s2.rt[8]?=some (.int .i64 i):=(l2.two.eq 8 (by decide)).symm.trans hi
 obtain⟨s3,h3,w3,g3,r3,l3,t3,q3⟩:=lp_known h2 l2 34 (v:=.int .i64 i) g2 r2 (o:=gops10.getD 1 default) (o':=ops10.getD 1 default) (by rfl) (by rfl) (by rfl) (by rfl) (by decide) (by rfl) (by rfl) (by
  have e:(fD dD s2.gt []).eval (.tmp 8)=_:=evalD hi
  rw[<-e];rfl) (by
  have e:(fD dD s2.rt []).eval (.tmp 8)=_:=evalD r8
  rw[<-e];rfl)
 have r9:s3.rt[9]?=some (.chan (some k4)):=(l3.two.eq 9 (by decide)).symm.trans l3.g9
 obtain⟨s4,h4,w4,g4,r4,l4,t4,q4⟩:=lp_known h3 l3 35 (v:=.chan (some k4)) g3 r3 (o:=gops10.getD 2 default) (o':=ops10.getD 2 default) (by rfl) (by rfl) (by rfl) (by rfl) (by decide) (by rfl) (by rfl) (by
  have e:(fD dD s3.gt []).eval (.tmp 9)=_:=evalD l3.g9
  rw[<-e];rfl) (by
  have e:(fD dD s3.rt []).eval (.tmp 9)=_:=evalD r9
  rw[<-e];rfl)
 have b33:s4.rt[33]?=some (.chan (some k1)):=by
  rw[q4,putT_ne (by simp),q3,putT_ne (by simp),q2]
  exact putT_self (by have:=l1.two.rsz;omega)
 have b34:s4.gt[34]?=some (.int .i64 i):=by
  rw[t4,putT_ne (by simp),t3]
  exact putT_self (by have:=l2.two.gsz;omega)
 have b35:s4.gt[35]?=some (.chan (some k4)):=by
  rw[t4]
  exact putT_self (by have:=l3.two.gsz;omega)
 have ih4:Fwd gP Tryz.prog.funcs gE dD f Post c gs s4:=(((ih.way w1).way w2).way w3).way w4
 obtain⟨s5,v,h5,w5,g5,r5,t5,q5,hy⟩:=lp_op hE h4 ih4 l4 36 g4 r4 (o:=ops10.getD 3 default) (by rfl) (by rfl) (by rfl) (by decide) (by kernel_rfl)
 have e34:(fD dD s4.gt []).eval (.tmp 34)=_:=evalD b34
 have e35:(fD dD s4.gt []).eval (.tmp 35)=_:=evalD b35
 have hv:v=.agg #[.int .i64 i,.chan (some k4)]:=by
  rcases hy with ⟨τ,nx,hrun,hnx⟩ |⟨τ,g,args,w1,hrun⟩
  ·simp[go_sem,execOp,Instr.build,e34,e35,ops10,dY,dLB,dBlk,cTs,cOps,cHd,cTl,cIn,cYes,bD,Tryz.f26]at hrun
   obtain⟨rfl,_⟩:=hrun
   rcases hnx with e |⟨e,_⟩
   ·exact (Next.value.inj e).symm
   ·cases e
  ·exfalso
   have:=simple_v (D:=g) (s:=Instr.build _ _) hrun
   exact this rfl
 subst hv
 refine⟨s5,i,h5,(((w1.trans w2).trans w3).trans w4).trans (w5.weak l4.sub),g5,r5,l4.way w5 (by rw[t5,q5];exact l4.two.put (d:=some 36) (fun x hx=>by cases hx;decide) _) (fun p hp=>by
  rw[t5]
  refine putT_ne (fun e=>?_)
  cases e
  rcases hp with hp | hp
  ·exact absurd hp (by decide)
  ·exact absurd hp (by decide)),?_,?_⟩
 ·rw[q5,putT_ne (by simp)];exact b33
 ·rw[q5]
  exact putT_self (by have:=l4.two.rsz;omega)
theorem cond_stepK{K:FuncId}{ds:List Deferred}{t:Array Value}{o:Operand}{a b:Code}{k:List Item}{v:Bool}(h:(fK K ds t []).eval o=.bool v)(X:Program)(main:Bool)(cs:List Frame)(w:World):stepG X main (mkG (fK K ds t (.code (.cond o a b) :: k)) cs) w=.go (mkG (fK K ds t (.code (if v then a else b) :: k)) cs) w #[]:=by
 have h:(fK K ds t (.code (.cond o a b) :: k)).eval o=.bool v:=h
 rw[exec_main rfl,stepG.exec]
 simp only[fK]at h ⊢
 simp only[h]
 rfl
theorem reD_cond{Inb:Nat->Option Seat}{ds:List Deferred}{bs:List Frame}(h:s.OkD gP Tryz.prog.funcs gE dD dK f Post c gs Inb j ds bs){o:Operand}{a b:Code}{kr:List Item}{v:Bool}(hr:s.rk=.code (.cond o a b) :: kr)(hv:(fK dK ds s.rt []).eval o=.bool v):
  ∃ W m T,Pt.OkD gP Tryz.prog.funcs gE dD dK f Post c gs Inb j ds bs {s with rk:=.code (if v then a else b) :: kr,W:=W,m:=m,T:=T}/\Way gP Tryz.prog.funcs gE dD c gs s.J s {s with rk:=.code (if v then a else b) :: kr,W:=W,m:=m,T:=T}:=by
 have hc:=h.co
 rw[hr]at hc
 obtain⟨W1,m1,T1,h1,h2,h3⟩:=cod_turn hc (fun cs w=>cond_stepK hv _ false _ w)
 exact⟨W1,m1,T1,⟨h.inev,h2⟩,⟨.inl ⟨rfl,rfl,rfl⟩,h1,fun _ h=>h,Nat.le_refl _,h3⟩⟩
theorem reD_step{Inb:Nat->Option Seat}{ds:List Deferred}{bs:List Frame}(h:s.OkD gP Tryz.prog.funcs gE dD dK f Post c gs Inb j ds bs){rt:Array Value}(hl:Lp Inb0 J0 rt s k1 k2 k3 k4 j s.rt){ops:Array Oper}{i:Nat}{rest:List Nat}{kr:List Item}{o:Oper}{v:Value}(d:Nat)(hr:s.rk=.inRegion ops (i :: rest) :: kr)(ho:ops[i]?=some o)(hd:o.dst=some d)(hw:o.guard.isNone=true)
  (hv:Known Tryz.prog (execOp (fK dK ds s.rt []).eval o) v) (hS:d=12\/d=13\/d=14\/d=15):
  ∃ s':Pt,s'.OkD gP Tryz.prog.funcs gE dD dK f Post c gs Inb j ds bs/\Way gP Tryz.prog.funcs gE dD c gs J0 s s'/\s'.gk=s.gk/\s'.rk=.inRegion ops rest :: kr/\s'.gt=s.gt/\s'.rt=putT s.rt (some d) v/\s'.u=s.u/\Lp Inb0 J0 rt s' k1 k2 k3 k4 j s'.rt:=by
 obtain⟨W,m,T,h1,h2⟩:=reD_known h hr ho (wanted_none hw _) hv
 rw[hd]at h1 h2
 have hl2:=hl.way h2 hl.two fun _ _=>rfl
 have hne:∀ p,p<12->(putT s.rt (some d) v)[p]?=s.rt[p]?:=fun p hp=>putT_ne (fun e=>by cases e;omega)
 refine⟨_,h1,h2.weak hl.sub,rfl,rfl,rfl,rfl,rfl,{hl2 with ex:=⟨hl.ex.gsz,by rw[putT_size];exact hl.ex.dsz,fun k hk=>?_⟩,d1:=(hne 1 (by decide)).trans hl.d1,d2:=(hne 2 (by decide)).trans hl.d2,d10:=(hne 10 (by decide)).trans hl.d10,d11:=(hne 11 (by decide)).trans hl.d11}⟩
 by_cases e:d=k
 ·subst e
  rcases hS with rfl | rfl | rfl | rfl <;> exact absurd hk (by decide)
 ·exact (hl.ex.eq k hk).trans (putT_ne (fun e2=>e (Option.some.inj e2))).symm
theorem reD_turn{Inb:Nat->Option Seat}{ds:List Deferred}{bs:List Frame}(b:Nat){rk:List Item}(h:s.OkD gP Tryz.prog.funcs gE dD dK f Post c gs Inb j ds bs){rt:Array Value}(hl:Lp Inb0 J0 rt s k1 k2 k3 k4 j s.rt)(hb:ctlN b s.rk=some rk):
  ∃ s':Pt,s'.OkD gP Tryz.prog.funcs gE dD dK f Post c gs Inb j ds bs/\Way gP Tryz.prog.funcs gE dD c gs J0 s s'/\s'.gk=s.gk/\s'.rk=rk/\s'.gt=s.gt/\s'.rt=s.rt/\s'.u=s.u/\Lp Inb0 J0 rt s' k1 k2 k3 k4 j s'.rt:=by
 obtain⟨W,m,T,h1,h2⟩:=reD_turns b h hb
 exact⟨_,h1,h2.weak hl.sub,rfl,rfl,rfl,rfl,rfl,hl.way h2 hl.two fun _ _=>rfl⟩
theorem lp_send(h:s.Ok gP Tryz.prog.funcs gE dD f Post c c' gs rs (inbL Inb0 k1 k2 k3 j dt))(hl:Lp Inb0 J0 s.rt s k1 k2 k3 k4 j dt){wv:Value}(hg:s.gk=.inRegion gops10 [4] :: .code (.seq gh4 (.seq gh5 gX)) :: gkC)(hr:s.rk=.inRegion ops10 [4] :: .code (cTl dY) :: rkC)(h33:s.rt[33]?=some (.chan (some k1)))(h36:s.rt[36]?=some wv):
  ∃ s':Pt,s'.OkD gP Tryz.prog.funcs gE dD dK f Post c gs (upd (inbL Inb0 k1 k2 k3 j dt) 0 (some (seat0 k4 (rtAt s.rt k4) c' rs))) j [closeD (.chan (some k3))] [bot]/\Way gP Tryz.prog.funcs gE dD c gs J0 s s'/\s'.gk=.inRegion ghOps4 [0,1,2] :: .code (.seq gh5 gX) :: gkC/\s'.rk=selK [1,2,3]/\Lp Inb0 J0 s.rt s' k1 k2 k3 k4 j s'.rt/\s'.gt[36]?=some wv/\s'.rt[12]?=some (.tuple #[.int .i64 0,.bool true,wv,.agg #[]]):=by
 have g36:s.gt[36]?=some wv:=(hl.two.eq 36 (by decide)).trans h36
 have e36:(fD dD s.gt []).eval (.tmp 36)=wv:=evalD g36
 obtain⟨h1,w1⟩:=gh_pure h hg (o:=gops10.getD 4 default) (v:=wv) (by rfl) (by rfl) (by rw[<-e36];rfl)
 obtain⟨h2,w2⟩:=gh_turns 3 (gk:=.inRegion ghOps4 [0,1,2] :: .code (.seq gh5 gX) :: gkC) h1 (by rfl)
 have hw:=w1.trans w2
 have r9:s.rt[9]?=some (.chan (some k4)):=(hl.two.eq 9 (by decide)).symm.trans hl.g9
 have hc:=h.co
 rw[hr]at hc
 have hj:inbL Inb0 k1 k2 k3 j dt j=some (seatD k1 k2 k3 dt):=upd_same _ _ _
 have hv36:s.rt.getD 36 undef=wv:=by rw[Array.getD_eq_getD_getElem?,h36];rfl
 obtain⟨W1,m1,T1,x1,x2,⟨x3,x4,x5⟩,x6⟩:=co_send hc (fun w=>send_step h33 w) hj hl.j0 hl.jn (kk:=0) (z:=.agg #[.int .i64 0,.chan none]) (by rfl) hl.o1 (seat0 k4 (rtAt s.rt k4) c' rs) (Seat.one_wf _ _ _ _) (fun x s' y hx e hy hn=>by
   have hn:=Seat.one_has.1 hn
   subst hn
   by_cases ex:x=j
   ·subst ex
    rw[hj]at e
    obtain rfl:=Option.some.inj e
    obtain⟨n1,n2,n3,n4,n5,n6⟩:=hl.ne
    rcases seatD_has hy with e | e
    ·exact n3 e.symm
    ·exact n5 e.symm
   ·rw[inbL,upd_ne _ _ ex]at e
    exact hl.n4 (hl.fresh _ _ _ e hy)) (fun y hy=>by
   have hy:=Seat.one_has.1 hy
   subst hy
   exact⟨hl.J4,hl.o4⟩) (fun B=>sits_of (to0 (rs:=rs) (c':=c') r9) (at0 hl.two.rsz B)) (df:=fK dK [closeD (.chan (some k3))] dt (selK [0,1,2,3])) (bs:=[bot]) (fun g hg=>hg)
 have hres:commResult (seatD k1 k2 k3 dt).cases (seatD k1 k2 k3 dt).shape ((0:Nat):Int) (s.rt.getD 36 undef) true=.tuple #[.int .i64 0,.bool true,wv,.agg #[]]:=by
  rw[hv36]
  simp[seatD,commResult,rcase,List.zipIdx_cons]
  rfl
 have hfin:(fK dK [closeD (.chan (some k3))] dt (selK [0,1,2,3])).finish (.tuple #[.int .i64 0,.bool true,wv,.agg #[]])=fK dK [closeD (.chan (some k3))] (putT dt (some 12) (.tuple #[.int .i64 0,.bool true,wv,.agg #[]])) (selK [1,2,3]):=fK_finish (ops:=cOps kSel) (o:=(cOps kSel).getD 0 default) (by rfl) _
 rw[hres,hfin]at x2
 obtain⟨n1,n2,n3,n4,n5,n6⟩:=hl.ne
 have hopn:∀ k,k≠k1->Opn s.W k->Opn W1 k:=fun k hk ho=>by
  obtain⟨a,ha⟩:=ho
  exact⟨a,(x5 k hk).trans ha⟩
 have hne:∀ p,p≠12->(putT dt (some 12) (.tuple #[.int .i64 0,.bool true,wv,.agg #[]]))[p]?=dt[p]?:=fun p hp=>putT_ne (fun e=>hp (Option.some.inj e).symm)
 refine⟨⟨.inRegion ghOps4 [0,1,2] :: .code (.seq gh5 gX) :: gkC,selK [1,2,3],s.gt,putT dt (some 12) (.tuple #[.int .i64 0,.bool true,wv,.agg #[]]),s.u,W1,m1,T1,s.J,s.n⟩,⟨h2.inev,x2⟩,⟨hw.ltr,x1,fun _ h=>h,Nat.le_refl _,x3,x4,fun k hk=>x5 k fun e=>hl.n1 (e ▸ hk)⟩,rfl,rfl,?_,g36,putT_self (by rw[hl.ex.dsz];decide)⟩
 exact {hl with ex:=⟨hl.ex.gsz,by rw[putT_size];exact hl.ex.dsz,fun k hk=>(hl.ex.eq k hk).trans (hne k fun e=>by subst e;exact absurd hk (by decide)).symm⟩,o1:=x6,o2:=hopn _ (Ne.symm n1) hl.o2,o3:=hopn _ (Ne.symm n2) hl.o3,o4:=hopn _ (Ne.symm n3) hl.o4,d1:=(hne 1 (by decide)).trans hl.d1,d2:=(hne 2 (by decide)).trans hl.d2,d10:=(hne 10 (by decide)).trans hl.d10,d11:=(hne 11 (by decide)).trans hl.d11}
end
noncomputable def kTail:List Item:=[.inBlock 2,.inBlock 1,.inLoop kLoop,.inBlock 0]
theorem evalKc{K:FuncId}{ds:List Deferred}{t:Array Value}{k:List Item}(v:Value):(fK K ds t k).eval (.const v)=v:=rfl
noncomputable def kCond:Code:=cIn (cTl (cTl kX))
section
variable {f:FuncId} {Post:Value->World->Prop} {c c':Frame} {gs rs:List Frame} {Inb0 Inb:Nat->Option Seat} {J0:Nat->Prop} {s s':Pt} {k1 k2 k3 k4 j:Nat} {rt:Array Value} {ds:List Deferred} {bs:List Frame}
theorem arm_sees(h:s.OkD gP Tryz.prog.funcs gE dD dK f Post c gs Inb j ds bs)(hl:Lp Inb0 J0 rt s k1 k2 k3 k4 j s.rt){wv:Value}(hr:s.rk=selK [1,2,3])(h12:s.rt[12]?=some (.tuple #[.int .i64 0,.bool true,wv,.agg #[]])):
  ∃ s':Pt,s'.OkD gP Tryz.prog.funcs gE dD dK f Post c gs Inb j ds bs/\Way gP Tryz.prog.funcs gE dD c gs J0 s s'/\s'.gk=s.gk/\s'.rk=.inRegion kOps4 [0,1,2] :: .code (cTl kArm) :: kTail/\s'.gt=s.gt/\s'.u=s.u/\Lp Inb0 J0 rt s' k1 k2 k3 k4 j s'.rt/\s'.rt[12]?=some (.tuple #[.int .i64 0,.bool true,wv,.agg #[]]):=by
 obtain⟨s1,h1,w1,g1,r1,t1,q1,u1,l1⟩:=reD_step h hl 13 (v:=.int .i64 0) (o:=(cOps kSel).getD 1 default) hr (by rfl) (by rfl) (by rfl) (known_extract (i:=12) (p:=0) (by rfl) h12 (by rfl)) (by decide)
 have b13:s1.rt[13]?=some (.int .i64 0):=by rw[q1];exact putT_self (by rw[hl.ex.dsz];decide)
 have e13:(fK dK ds s1.rt []).eval (.tmp 13)=_:=evalK b13
 obtain⟨s2,h2,w2,g2,r2,t2,q2,u2,l2⟩:=reD_step h1 l1 14 (v:=.bool true) (o:=(cOps kSel).getD 2 default) r1 (by rfl) (by rfl) (by rfl) (fun w=>by
  simp[go_sem,execOp,evalKc,e13,cOps,kSel,cHd,cTl,cIn,kLoop,bK,Tryz.f47]) (by decide)
 have b13':s2.rt[13]?=some (.int .i64 0):=by rw[q2,putT_ne (by simp)];exact b13
 have e13':(fK dK ds s2.rt []).eval (.tmp 13)=_:=evalK b13'
 obtain⟨s3,h3,w3,g3,r3,t3,q3,u3,l3⟩:=reD_step h2 l2 15 (v:=.bool false) (o:=(cOps kSel).getD 3 default) r2 (by rfl) (by rfl) (by rfl) (fun w=>by
  simp[go_sem,execOp,evalKc,e13',cOps,kSel,cHd,cTl,cIn,kLoop,bK,Tryz.f47]) (by decide)
 have b14:s3.rt[14]?=some (.bool true):=by
  rw[q3,putT_ne (by simp),q2]
  exact putT_self (by rw[l1.ex.dsz];decide)
 have b12:s3.rt[12]?=some (.tuple #[.int .i64 0,.bool true,wv,.agg #[]]):=by rw[q3,putT_ne (by simp),q2,putT_ne (by simp),q1,putT_ne (by simp)];exact h12
 obtain⟨s4,h4,w4,g4,r4,t4,q4,u4,l4⟩:=reD_turn 2 (rk:=.code kCond :: kTail) h3 l3 (by rw[r3];rfl)
 obtain⟨W,m,T,h5,w5⟩:=reD_cond h4 (o:=.tmp 14) (a:=kArm) (b:=match kCond with | .cond _ _ b=>b | c=>c) (kr:=kTail) (v:=true) (by rw[r4];rfl) (evalK (by rw[q4];exact b14))
 have l5:=l4.way w5 l4.two fun _ _=>rfl
 obtain⟨s6,h6,w6,g6,r6,t6,q6,u6,l6⟩:=reD_turn 2 (rk:=.inRegion kOps4 [0,1,2] :: .code (cTl kArm) :: kTail) h5 l5 (by rfl)
 exact⟨s6,h6,((((w1.trans w2).trans w3).trans w4).trans (w5.weak l4.sub)).trans w6,by rw[g6];show s4.gk=_;rw[g4,g3,g2,g1],r6,by rw[t6];show s4.gt=_;rw[t4,t3,t2,t1],by rw[u6];show s4.u=_;rw[u4,u3,u2,u1],l6,by rw[q6];show s4.rt[12]?=_;rw[q4];exact b12⟩
theorem Lp.ex_put(hl:Lp Inb0 J0 rt s k1 k2 k3 k4 j s.rt)(hw:Way gP Tryz.prog.funcs gE dD c gs s.J s s'){d:Option Nat}{v:Value}(hd:∀ k,d=some k->inS k=true)(h1:s'.gt=putT s.gt (d.map (· +53)) v)(h2:s'.rt=putT s.rt d v):Lp Inb0 J0 rt s' k1 k2 k3 k4 j s'.rt:=by
 have hlo:∀ p,p<53->s'.gt[p]?=s.gt[p]?:=fun p hp=>by
  rw[h1]
  refine putT_ne fun e=>?_
  cases d with
  | none=>cases e
  | some x=>
    simp only[Option.map_some,Option.some.injEq]at e
    omega
 have hne:∀ p,inS p=false->s'.rt[p]?=s.rt[p]?:=fun p hp=>by
  rw[h2]
  refine putT_ne fun e=>?_
  rw[hd p e]at hp
  cases hp
 obtain⟨i,hi⟩:=hl.g8
 exact⟨⟨hl.two.rsz,by rw[h1,putT_size];exact hl.two.gsz,fun i hi=>(hlo i hi).trans (hl.two.eq i hi)⟩,by rw[h1,h2];exact hl.ex.put hd v,(hlo 5 (by decide)).trans hl.g5,(hlo 6 (by decide)).trans hl.g6,(hlo 7 (by decide)).trans hl.g7,⟨i,(hlo 8 (by decide)).trans hi⟩,(hlo 9 (by decide)).trans hl.g9,hl.j0,Nat.lt_of_lt_of_le hl.jn hw.le,hl.in0,hl.z0,
  hw.sub _ hl.J1,hw.sub _ hl.J2,hw.sub _ hl.J3,hw.sub _ hl.J4,hl.n1,hl.n2,hl.n3,hl.n4,opn_kp hl.o1 hw.kp hl.J1,opn_kp hl.o2 hw.kp hl.J2,opn_kp hl.o3 hw.kp hl.J3,opn_kp hl.o4 hw.kp hl.J4,hl.ne,hl.fresh,fun k hk=>hw.sub k (hl.sub k hk),(hne 1 (by decide)).trans hl.d1,(hne 2 (by decide)).trans hl.d2,(hne 10 (by decide)).trans hl.d10,(hne 11 (by decide)).trans hl.d11⟩
theorem exD_known(h:s.OkD gP Tryz.prog.funcs gE dD dK f Post c gs Inb j ds bs)(hl:Lp Inb0 J0 rt s k1 k2 k3 k4 j s.rt){opg ops:Array Oper}{i i':Nat}{rest rest':List Nat}{kg kr:List Item}{og o:Oper}{v:Value}(d:Option Nat)(hg:s.gk=.inRegion opg (i :: rest) :: kg)(hr:s.rk=.inRegion ops (i' :: rest') :: kr)(hog:opg[i]?=some og)(ho:ops[i']?=some o)
  (hdg:og.dst=d.map (· +53)) (hd:o.dst=d) (hS:∀ k,d=some k->inS k=true) (hwg:og.guard.isNone=true) (hw:o.guard.isNone=true) (hvg:Known (ofF gP (maskF gP gE)) (execOp (fD dD s.gt []).eval og) v) (hv:Known Tryz.prog (execOp (fK dK ds s.rt []).eval o) v):
  ∃ s':Pt,s'.OkD gP Tryz.prog.funcs gE dD dK f Post c gs Inb j ds bs/\Way gP Tryz.prog.funcs gE dD c gs J0 s s'/\s'.gk=.inRegion opg rest :: kg/\s'.rk=.inRegion ops rest' :: kr/\s'.gt=putT s.gt (d.map (· +53)) v/\s'.rt=putT s.rt d v/\s'.u=s.u/\Lp Inb0 J0 rt s' k1 k2 k3 k4 j s'.rt:=by
 obtain⟨h1,w1⟩:=ghD_known h hg hog (wanted_none hwg _) hvg
 obtain⟨W,m,T,h2,w2⟩:=reD_known h1 hr ho (wanted_none hw _) hv
 rw[hdg,hd]at h2 w2
 rw[hdg]at w1
 have w3:=w1.trans w2
 exact⟨_,h2,w3.weak hl.sub,rfl,rfl,rfl,rfl,rfl,hl.ex_put w3 hS rfl rfl⟩
theorem exD_op(hE:Ext gP gE)(h:s.OkD gP Tryz.prog.funcs gE dD dK f Post c gs Inb j ds bs)(hl:Lp Inb0 J0 rt s k1 k2 k3 k4 j s.rt){opg ops:Array Oper}{i:Nat}{rest:List Nat}{kg kr:List Item}{o:Oper}(hg:s.gk=.inRegion opg (i :: rest) :: kg)(hr:s.rk=.inRegion ops (i :: rest) :: kr)(hog:opg[i]?=some (shOper o))(ho:ops[i]?=some o)(hok:opEx gP o=true)(hw:o.guard.isNone=true):
  ∃ (s':Pt) (v:Value),s'.OkD gP Tryz.prog.funcs gE dD dK f Post c gs Inb j ds bs/\Way gP Tryz.prog.funcs gE dD c gs J0 s s'/\s'.gk=.inRegion opg rest :: kg/\s'.rk=.inRegion ops rest :: kr/\s'.gt=putT s.gt (o.dst.map (· +53)) v/\s'.rt=putT s.rt o.dst v/\Lp Inb0 J0 rt s' k1 k2 k3 k4 j s'.rt/\YldV Tryz.prog (execOp (fD dD s.gt []).eval (shOper o)) s.u v s'.u:=by
 simp only[opEx,Bool.and_eq_true]at hok
 obtain⟨⟨⟨⟨⟨h3,h4⟩,h5⟩,h6⟩,h7⟩,h8⟩:=hok
 obtain⟨v,u',W,m,T,g1,g2,g3⟩:=opD_both hE alike h hg hr hog ho h4 h6 (wanted_none hw _) (wanted_none hw _) (exec_sh o h5 fun x hx=>hl.ex.eval fun k e=>by
  have:=Array.all_eq_true'.1 h7 x hx
  rw[e]at this
  exact this)
 exact⟨_,v,g1,g2.weak hl.sub,rfl,rfl,rfl,rfl,hl.ex_put g2 (fun k e=>by rw[e]at h8;exact h8) rfl rfl,g3⟩
theorem yld_val{s:Sem Value}{R:Program}{u u':World}{v:Value}(h:YldV R (do pure (.value (<-s))) u v u'):∃ τ,s.run R (onT u τ u.drawn)=.ok v u':=by
 obtain⟨τ,nx,hrun,hnx⟩:=h
 rw[Sem.run_bind]at hrun
 obtain⟨a,w2,e1,e2⟩:=andThen_ok hrun
 cases e2
 rcases hnx with e |⟨e,_⟩
 ·rw[Next.value.inj e]at e1
  exact⟨τ,e1⟩
 ·cases e
theorem yld_unit{s:Sem Unit}{R:Program}{u u':World}{v:Value}(h:YldV R (do s;pure .skip) u v u'):∃ τ,s.run R (onT u τ u.drawn)=.ok () u':=by
 obtain⟨τ,nx,hrun,hnx⟩:=h
 rw[Sem.run_bind]at hrun
 obtain⟨a,w2,e1,e2⟩:=andThen_ok hrun
 cases e2
 exact⟨τ,e1⟩
theorem arm_store(hE:Ext gP gE)(h:s.OkD gP Tryz.prog.funcs gE dD dK f Post c gs Inb j ds bs)(hl:Lp Inb0 J0 rt s k1 k2 k3 k4 j s.rt){kg:List Item}{i:Int}(hg:s.gk=.inRegion ghOps4 [0,1,2] :: .code (.seq gh5 gX) :: kg)(hr:s.rk=.inRegion kOps4 [0,1,2] :: .code (cTl kArm) :: kTail)(h12:s.rt[12]?=some (.tuple #[.int .i64 0,.bool true,.agg #[.int .i64 i,.chan (some k4)],.agg #[]]))(h36:s.gt[36]?=some (.agg #[.int .i64 i,.chan (some k4)])):
  ∃ (s':Pt) (x:Nat),s'.OkD gP Tryz.prog.funcs gE dD dK f Post c gs Inb j ds bs/\Way gP Tryz.prog.funcs gE dD c gs J0 s s'/\s'.gk=.code gh5 :: .code gX :: kg/\s'.rk=.code (cTl kArm) :: kTail/\Lp Inb0 J0 rt s' k1 k2 k3 k4 j s'.rt/\s'.gt[61]?=some (.pointer (some ⟨x,0,none⟩))/\s'.u.cell? ⟨x,1,none⟩=some (.chan (some k4)):=by
 have e36:(fD dD s.gt []).eval (.tmp 36)=_:=evalD h36
 obtain⟨s1,h1,w1,g1,r1,t1,q1,u1,l1⟩:=exD_known h hl (v:=.agg #[.int .i64 i,.chan (some k4)]) (some 16) hg hr (og:=ghOps4.getD 0 default) (o:=kOps4.getD 0 default) (by rfl) (by rfl) (by rfl) (by rfl) (fun k e=>by cases e;decide) (by rfl) (by rfl) (by rw[<-e36];exact known_pure) (known_extract (i:=12) (p:=2) (by rfl) h12 (by rfl))
 obtain⟨s2,v2,h2,w2,g2,r2,t2,q2,l2,y2⟩:=exD_op hE h1 l1 g1 r1 (o:=kOps4.getD 1 default) (by rfl) (by rfl) (by kernel_rfl) (by rfl)
 have y2:YldV Tryz.prog (do pure (.value (<-Instr.alloc _ true (.tuple #[])))) s1.u v2 s2.u:=y2
 obtain⟨τ2,e2⟩:=yld_val y2
 simp[go_sem,kOps4,kArm,cYes,cOps,cHd,cTl,cIn,kLoop,bK,Tryz.f47]at e2
 obtain⟨hv2,hu2⟩:=e2
 have hx:(onT s1.u τ2 s1.u.drawn).heap.size=s1.u.heap.size:=rfl
 obtain⟨x,hxe⟩:∃ x,x=s1.u.heap.size:=⟨_,rfl⟩
 have c0:s2.u.cell? ⟨x,0,none⟩=some (.int .i64 0):=by rw[<-hu2,hxe];simp[go_sem,World.cell?,World.alloc]
 have c1:s2.u.cell? ⟨x,1,none⟩=some (.chan none):=by rw[<-hu2,hxe];simp[go_sem,World.cell?,World.alloc]
 have f0:s2.u.frozen? ⟨x,0,none⟩=false:=by rw[<-hu2,hxe];simp[go_sem,World.frozen?,World.alloc]
 have f1:s2.u.frozen? ⟨x,1,none⟩=false:=by rw[<-hu2,hxe];simp[go_sem,World.frozen?,World.alloc]
 have b61:s2.gt[61]?=some (.pointer (some ⟨x,0,none⟩)):=by
  rw[t2,hxe,<-hv2]
  exact putT_self (d:=61) (by have:=l1.two.gsz;omega)
 have b69:s2.gt[69]?=some (.agg #[.int .i64 i,.chan (some k4)]):=by
  rw[t2]
  refine (putT_ne (by decide)).trans ?_
  rw[t1]
  exact putT_self (d:=69) (by have:=hl.two.gsz;omega)
 have e61:(fD dD s2.gt []).eval (.tmp 61)=_:=evalD b61
 have e69:(fD dD s2.gt []).eval (.tmp 69)=_:=evalD b69
 obtain⟨s3,v3,h3,w3,g3,r3,t3,q3,l3,y3⟩:=exD_op hE h2 l2 g2 r2 (o:=kOps4.getD 2 default) (by rfl) (by rfl) (by kernel_rfl) (by rfl)
 have y3:YldV Tryz.prog (do Instr.storeAt _ ((fD dD s2.gt []).eval (.tmp 61)) ((fD dD s2.gt []).eval (.tmp 69));pure .skip) s2.u v3 s3.u:=y3
 rw[e61,e69]at y3
 obtain⟨τ3,e3⟩:=yld_unit y3
 simp[go_sem,c0,c1,f0,f1,cell_onT,frozen_onT,kOps4,kArm,cYes,cOps,cHd,cTl,cIn,kLoop,bK,Tryz.f47]at e3
 obtain⟨h4,w4⟩:=ghD_turns 2 (gk:=.code gh5 :: .code gX :: kg) h3 (by rw[g3];rfl)
 have l4:=l3.way w4 l3.two fun _ _=>rfl
 obtain⟨s5,h5,w5,g5,r5,t5,q5,u5,l5⟩:=reD_turn 1 (rk:=.code (cTl kArm) :: kTail) h4 l4 (by show ctlN 1 s3.rk=_;rw[r3];rfl)
 refine⟨s5,x,h5,(((w1.trans w2).trans w3).trans (w4.weak l3.sub)).trans w5,g5,r5,l5,?_,?_⟩
 ·rw[t5]
  show s3.gt[61]?=_
  rw[t3]
  exact b61
 ·rw[u5]
  show s3.u.cell? _=_
  rw[<-e3]
  simp[go_sem,c0,c1,f0,f1,cell_onT,frozen_onT]
end
theorem ready_sh(md:Region.Mode)(ops:Array Oper)(listed:Array Bool):Region.ready md (ops.map shOper) listed=Region.ready md ops listed:=by
 unfold Region.ready
 rw[Array.size_map]
 congr 1
 funext i
 rw[Array.getElem?_map]
 cases ops[i]? <;> rfl
theorem go_sh(md:Region.Mode)(ops:Array Oper):∀ (fuel t:Nat) (listed:Array Bool) (acc:List Nat),Region.linearise.go md (ops.map shOper) fuel t listed acc=Region.linearise.go md ops fuel t listed acc
 | 0,_,_,_=>rfl
 | fuel+1,t,listed,acc=>by
   have h:=ready_sh md ops listed
   simp only[Region.linearise.go]
   simp only[Region.ready]at h
   rw[h]
   split
   ·exact go_sh md ops fuel _ _ _
   ·rfl
theorem linearise_sh(md:Region.Mode)(ops:Array Oper)(t:Nat):Region.linearise md (ops.map shOper) t=Region.linearise md ops t:=by
 unfold Region.linearise
 rw[go_sh,Array.size_map]
theorem departs_sh(ops:Array Oper):Region.departs (ops.map shOper)=Region.departs ops:=by
 unfold Region.departs
 rw[Array.any_map]
 rfl
theorem schedule_sh(b:Bool)(ops:Array Oper)(t:Nat):Region.schedule b (ops.map shOper) t=Region.schedule b ops t:=by
 unfold Region.schedule
 rw[departs_sh,linearise_sh,linearise_sh]
theorem departs5:Region.departs kOps5=false:=by kernel_rfl
theorem schedule5(b:Bool)(t:Nat):Region.schedule b kOps5 t=Region.linearise.go .any kOps5 15 t (Array.replicate 15 false) []:=by
 unfold Region.schedule
 rw[departs5]
 simp only[Bool.not_false,Bool.or_true,if_true]
 rfl
theorem ex5:(kOps5.toList.take 14).all (opEx gP)=true:=by kernel_rfl
theorem dst5:kOps5.toList.all (fun o=>match o.dst with | some d=>inS d | none=>true)=true:=by kernel_rfl
theorem size5:kOps5.size=15:=by kernel_rfl
def dl5:List (List Nat):=[[],[0],[],[2],[],[4],[3,5],[6],[7],[7],[9,7],[8,10,7],[11,7],[7,12],[1,13,7]]
theorem bind5:kOps5.toList.all (fun o=>o.after.toList.all (fun e=>Region.binds .any e))=true:=by kernel_rfl
theorem deps5:kOps5.toList.map (fun o=>o.after.toList.map (·.on))=dl5:=by kernel_rfl
theorem ready5{listed:Array Bool}{i:Nat}:i∈Region.ready .any kOps5 listed↔i<15/\listed.getD i true=false/\∀ d∈dl5.getD i [],listed.getD d false=true:=by
 unfold Region.ready
 rw[List.mem_filter,List.mem_range,size5]
 refine and_congr_right fun hi=>?_
 have hlt:i<kOps5.size:=by rw[size5];exact hi
 have ho:kOps5[i]?=some kOps5[i]:=Array.getElem?_eq_getElem hlt
 have hd:(kOps5[i]).after.toList.map (·.on)=dl5.getD i []:=by
  have h:=congrArg (fun l:List (List Nat)=>l[i]?) deps5
  simp only[List.getElem?_map,Array.getElem?_toList,ho,Option.map_some]at h
  rw[List.getD_eq_getElem?_getD,<-h]
  rfl
 have hb:∀ e∈(kOps5[i]).after.toList,Region.binds .any e=true:=fun e he=>List.all_eq_true.1 (List.all_eq_true.1 bind5 _ (by rw[Array.mem_toList_iff];exact Array.getElem_mem hlt)) e he
 rw[ho,<-hd]
 simp only[Bool.and_eq_true,Bool.not_eq_true',Option.map_some,Option.getD_some]
 refine and_congr_right fun _=>?_
 rw[<-Array.all_toList,List.all_eq_true]
 constructor
 ·intro h d hd
  obtain⟨e,he,rfl⟩:=List.mem_map.1 hd
  have:=h e he
  rw[hb e he]at this
  simpa using this
 ·intro h e he
  rw[hb e he,h _ (List.mem_map_of_mem he)]
  rfl
def left5(listed:Array Bool):Nat:=((List.range 15).filter fun i=>!listed.getD i true).length
structure H5(n:Nat)(listed:Array Bool):Prop where
 size:listed.size=15
 last:listed.getD 14 true=false
 left:left5 listed<=n
 down:∀ i,i<15->listed.getD i false=true->∀ d∈dl5.getD i [],listed.getD d false=true
theorem getD_tf{l:Array Bool}(h:l.size=15){i:Nat}(hi:i<15):l.getD i true=l.getD i false:=by
 rw[Array.getD_eq_getD_getElem?,Array.getD_eq_getD_getElem?,Array.getElem?_eq_getElem (by omega)]
 rfl
theorem getD_set{l:Array Bool}(h:l.size=15){i k:Nat}(hi:i<15)(b:Bool):(l.setIfInBounds i true).getD k b=if k=i then true else l.getD k b:=by
 rw[Array.getD_eq_getD_getElem?,Array.getD_eq_getD_getElem?]
 by_cases e:k=i
 ·subst e
  rw[if_pos rfl,Array.getElem?_setIfInBounds_self_of_lt (by omega)]
  rfl
 ·rw[if_neg e,Array.getElem?_setIfInBounds_ne (fun e2=>e e2.symm)]
theorem dl5_lt:∀ i,i<15->∀ d∈dl5.getD i [],d<i:=by decide
theorem seq5:SeqH .any kOps5 14 H5 where
 zero:=fun listed h=>by
  have h1:14∈(List.range 15).filter fun i=>!listed.getD i true:=by
   rw[List.mem_filter]
   exact⟨by simp,by rw[h.last];rfl⟩
  have h2:=h.left
  unfold left5 at h2
  rw[List.length_eq_zero_iff.1 (Nat.le_zero.1 h2)]at h1
  cases h1
 any:=fun n listed h e=>by
  have key:∀ i,i<15->listed.getD i false=true:=fun i=>by
   induction i using Nat.strongRecOn with
   | ind i ih=>
     intro hi
     refine Classical.byContradiction fun hn=>?_
     have:i∈Region.ready .any kOps5 listed:=ready5.2 ⟨hi,by rw[getD_tf h.size hi];simpa using hn,fun d hd=>by
      have:=dl5_lt i hi d hd
      exact ih d this (by omega)⟩
     rw[e]at this
     cases this
  have h14:=key 14 (by decide)
  rw[<-getD_tf h.size (by decide),h.last]at h14
  cases h14
 fin:=fun n listed h h14=>by
  obtain⟨_,_,hd⟩:=ready5.1 h14
  have a1:=hd 1 (by decide)
  have a13:=hd 13 (by decide)
  have a7:=hd 7 (by decide)
  have a0:=h.down 1 (by decide) a1 0 (by decide)
  have a12:=h.down 13 (by decide) a13 12 (by decide)
  have a11:=h.down 12 (by decide) a12 11 (by decide)
  have a8:=h.down 11 (by decide) a11 8 (by decide)
  have a10:=h.down 11 (by decide) a11 10 (by decide)
  have a9:=h.down 10 (by decide) a10 9 (by decide)
  have a6:=h.down 7 (by decide) a7 6 (by decide)
  have a3:=h.down 6 (by decide) a6 3 (by decide)
  have a5:=h.down 6 (by decide) a6 5 (by decide)
  have a4:=h.down 5 (by decide) a5 4 (by decide)
  have a2:=h.down 3 (by decide) a3 2 (by decide)
  refine List.eq_nil_iff_forall_not_mem.2 fun i hi=>?_
  obtain⟨hlt,hf,_⟩:=ready5.1 hi
  rw[getD_set h.size (by decide)]at hf
  split at hf
  ·cases hf
  ·rw[getD_tf h.size hlt]at hf
   have:i=0\/i=1\/i=2\/i=3\/i=4\/i=5\/i=6\/i=7\/i=8\/i=9\/i=10\/i=11\/i=12\/i=13:=by omega
   rcases this with rfl | rfl | rfl | rfl | rfl | rfl | rfl | rfl | rfl | rfl | rfl | rfl | rfl | rfl <;> simp_all
 next:=fun n listed i h hi hne=>by
  obtain⟨hlt,hf,hd⟩:=ready5.1 hi
  refine⟨by simp[h.size],?_,?_,fun k hk hl d hdk=>?_⟩
  ·rw[getD_set h.size hlt,if_neg (fun e=>hne e.symm)]
   exact h.last
  ·have h2:=h.left
   unfold left5 at h2 ⊢
   have hsub:((List.range 15).filter fun k=>!(listed.setIfInBounds i true).getD k true)=((List.range 15).filter fun k=>!listed.getD k true).filter (· != i):=by
    rw[List.filter_filter]
    refine List.filter_congr fun k _=>?_
    rw[getD_set h.size hlt]
    by_cases e:k=i
    ·simp[e]
    ·simp[e]
   rw[hsub]
   have hm:i∈(List.range 15).filter fun k=>!listed.getD k true:=by
    rw[List.mem_filter]
    exact⟨by simpa using hlt,by rw[hf];rfl⟩
   have:(((List.range 15).filter fun k=>!listed.getD k true).filter (· != i)).length<((List.range 15).filter fun k=>!listed.getD k true).length:=List.length_filter_lt_length_iff_exists.2 ⟨i,hm,by simp⟩
   omega
  ·rw[getD_set h.size hlt]at hl ⊢
   split
   ·rfl
   ·by_cases e:k=i
    ·subst e;exact hd d hdk
    ·rw[if_neg e]at hl
     exact h.down k hk hl d hdk
theorem start5:H5 15 (Array.replicate 15 false):=by
 refine⟨by simp,by rfl,by decide,fun i hi h=>?_⟩
 rw[Array.getD_eq_getD_getElem?]at h
 simp[hi]at h
section
variable {f:FuncId} {Post:Value->World->Prop} {c c':Frame} {gs rs:List Frame} {Inb0 Inb:Nat->Option Seat} {J0:Nat->Prop} {s s':Pt} {k1 k2 k3 k4 j:Nat} {rt:Array Value} {ds:List Deferred} {bs:List Frame}
theorem gh_stuck{s:Pt}(h:Inev gP gE f Post (fD dD s.gt s.gk) (c :: gs) s.u){ops:Array Oper}{i:Nat}{rest:List Nat}{kg:List Item}{o:Oper}{e:Halt}(hg:s.gk=.inRegion ops (i :: rest) :: kg)(ho:ops[i]?=some o)(hw:o.guard.isNone=true)(hE:Ends e)(hrun:∀ w,(execOp (fD dD s.gt []).eval o).run (ofF gP (maskF gP gE)) w=.halt e w):False:=by
 rw[hg]at h
 obtain⟨_,_,_,_,_,hK,hS⟩:=h.next (τ:=s.u.tape) fD_runs fun _ _=>rfl
 exact not_lost (top:=c :: gs) (gb:=[]) (apply_lost (s:=execOp (fD dD s.gt []).eval o) rfl hE (fun cs w=>fD_op ho (wanted_none hw _) _ true _ w) (hrun _)) (by rwa [List.append_nil]) hK
theorem gh_refuse{s:Pt}(h:Inev gP gE f Post (fD dD s.gt s.gk) (c :: gs) s.u){why:String}{kg:List Item}(hg:s.gk=.code (.refuse why) :: kg):False:=by
 rw[hg]at h
 obtain⟨_,_,_,_,_,hK,hS⟩:=h.next (τ:=s.u.tape) fD_runs fun _ _=>rfl
 refine not_lost (top:=c :: gs) (gb:=[]) (fun cs=>?_) (by rwa [List.append_nil]) hK
 unfold stp
 rw[exec_main rfl,stepG.exec]
 exact⟨_,_,_,rfl⟩
theorem uM(t:TypeId):(ofF gP (maskF gP gE)).underlying t=Tryz.prog.underlying t:=by
 rw[underlying_ofF]
 unfold gP
 rw[underlying_ofF]
theorem arm_answer(hE:Ext gP gE)(h:s.OkD gP Tryz.prog.funcs gE dD dK f Post c gs Inb j ds bs)(hl:Lp Inb0 J0 rt s k1 k2 k3 k4 j s.rt){kg:List Item}(hg:s.gk=.code gh5 :: .code gX :: kg)(hr:s.rk=.code (cTl kArm) :: kTail):
  ∃ s':Pt,s'.OkD gP Tryz.prog.funcs gE dD dK f Post c gs Inb j ds bs/\Way gP Tryz.prog.funcs gE dD c gs J0 s s'/\s'.gk=.code gX :: kg/\s'.rk=.inRegion kOps5 [14] :: kTail/\Lp Inb0 J0 rt s' k1 k2 k3 k4 j s'.rt:=by
 obtain⟨t,u',W,m,T,h1,w1,_⟩:=draw_both h (id:=105) (id':=5) (ops:=kOps5.map shOper) (ops':=kOps5) (kg:=.code gX :: kg) (kr:=kTail) (by rw[hg];rfl) (by rw[hr];rfl) (fun t=>schedule_sh _ _ t)
 have l1:=hl.way w1 hl.two fun _ _=>rfl
 rw[schedule5]at h1 w1 l1
 have hdst:∀ (i:Nat) (o:Oper) (d:Nat),kOps5[i]?=some o->o.dst=some d->inS d=true:=fun i o d ho hd=>by
  have:=List.all_eq_true.1 dst5 o (by rw[Array.mem_toList_iff];exact Array.mem_of_getElem? ho)
  rw[hd]at this
  exact this
 obtain⟨s2,listed,h2,w2,g2,r2,⟨l2,x2⟩,hin⟩:=lock (P:=gP) (F:=Tryz.prog.funcs) (E:=gE) (D:=dD) (K:=dK) (I:=fun _ s=>Lp Inb0 J0 rt s k1 k2 k3 k4 j s.rt/\∀ k,J0 k->s.J k) (ops:=kOps5.map shOper) (kg:=.code gX :: kg) (kr:=kTail) seq5 (fun listed s i rest h hg hr hi hne hI=>by
  have hlt:=(ready5.1 hi).1
  have hs:i<kOps5.size:=by rw[size5];exact hlt
  have ho:kOps5[i]?=some kOps5[i]:=Array.getElem?_eq_getElem hs
  have hok:opEx gP kOps5[i]=true:=List.all_eq_true.1 ex5 _ (by
   have:kOps5[i]=kOps5.toList[i]'(by simpa using hs):=rfl
   rw[this,List.mem_take_iff_getElem]
   exact⟨i,by rw[Array.length_toList,size5];omega,rfl⟩)
  obtain⟨v,u',W,m,T,k1',k2',_,_,_⟩:=ex_both hE alike h hdst hg hr ho hok hI.1.ex
  exact⟨_,k1',k2',rfl,rfl,hI.1.ex_put k2' (fun k e=>hdst i _ k ho e) rfl rfl,fun k hk=>k2'.sub k (hI.2 k hk)⟩) 15 t _ _ start5 h1 rfl rfl ⟨l1,l1.sub⟩
 have hsz:(kOps5.map shOper)[14]?=some (shOper (kOps5.getD 14 default)):=by rw[Array.getElem?_map];rfl
 obtain⟨h3,w3⟩:=ghD_known h2 g2 hsz (v:=(fD dD s2.gt []).eval (.tmp 83)) (by rfl) (by
  have:execOp (fD dD s2.gt []).eval (shOper (kOps5.getD 14 default))=pure (.value ((fD dD s2.gt []).eval (.tmp 83))):=by rfl
  rw[this]
  exact known_pure)
 have e3:(shOper (kOps5.getD 14 default)).dst=none:=by rfl
 rw[e3]at h3 w3
 have l3:=l2.way w3 l2.two fun _ _=>rfl
 obtain⟨h4,w4⟩:=ghD_turns 1 (gk:=.code gX :: kg) h3 (by rfl)
 have l4:=l3.way w4 l3.two fun _ _=>rfl
 exact⟨_,h4,((((w1.weak hl.sub).trans (w2.weak l1.sub)).trans (w3.weak l2.sub)).trans (w4.weak l3.sub)),rfl,r2,l4⟩
theorem kT_chan:Tryz.prog.underlying kT=some (.chan (match Tryz.prog.underlying kT with | some (.chan d _)=>d | _=>default) (match Tryz.prog.underlying kT with | some (.chan _ e)=>e | _=>0)):=by kernel_rfl
theorem und_run{X:Program}{t:TypeId}{d:TypeDesc}(h:X.underlying t=some d)(w:World):(underlying t).runT X w #[]=(.ok d w,#[]):=by
 have e:(underlying t).runT X w #[]=(match X.underlying t with | some d=>(pure d:Sem TypeDesc) | none=>stuck "no such type").runT X w #[]:=rfl
 rw[e,h]
 rfl
theorem runT_bnd{X:Program}{α β:Type}(x:Sem α)(g:α->Sem β)(w:World):(x >>= g).runT X w #[]=(match x.runT X w #[]with | (.ok a w',es)=>(g a).runT X w' es | (.halt h w',es)=>(.halt h w',es)):=by
 show (Sem.bind x g).runT X w #[]=_
 rw[Sem.runT_bind']
 rfl
theorem equal_chan{X:Program}{t:TypeId}{d:ChanDir}{e:TypeId}(hu:X.underlying t=some (.chan d e))(x y:Value)(w:World):(Op.equal t x y).runT X w #[]=(match x,y with | .chan a,.chan b=>(pure (a == b):Sem Bool) | _,_=>stuck "==: the operands do not fit the type, or the type is not comparable").runT X w #[]:=by
 have h1:Op.equal t x y=Op.equalIn (9999+1) t x y:=rfl
 rw[h1,Op.equalIn,runT_bnd,und_run hu]
 cases x <;> cases y <;> rfl
theorem eql_chan{t:TypeId}(x:Value)(k:Option Nat)(o1 o2:Operand):(eqGuard .eql t o1 o2 x (.chan k) >>= fun _=>binOp .eql t x (.chan k))=(Op.equal t x (.chan k) >>= fun b=>pure (.bool b)):=by
 cases x <;> rfl
theorem chan_eq{X:Program}{t:TypeId}{d:ChanDir}{e:TypeId}(hu:X.underlying t=some (.chan d e)){a k:Option Nat}{o1 o2:Operand}(w:World):(eqGuard .eql t o1 o2 (.chan a) (.chan k) >>= fun _=>binOp .eql t (.chan a) (.chan k)).runT X w #[]=(.ok (.bool (a == k)) w,#[]):=by
 rw[eql_chan,runT_bnd,equal_chan hu]
 rfl
theorem chan_ne{X:Program}{t:TypeId}{d:ChanDir}{e:TypeId}(hu:X.underlying t=some (.chan d e)){x:Value}{k:Option Nat}{o1 o2:Operand}(hx:¬∃ a,x=.chan a):∃ h,Ends h/\∀ w,(eqGuard .eql t o1 o2 x (.chan k) >>= fun _=>binOp .eql t x (.chan k)).run X w=.halt h w:=by
 refine⟨.stuck "==: the operands do not fit the type, or the type is not comparable",trivial,fun w=>?_⟩
 rw[<-runT_fst X _ w #[],eql_chan,runT_bnd,equal_chan hu]
 cases x <;> first | rfl | exact absurd ⟨_,rfl⟩ hx
theorem arm_chan(h:s.OkD gP Tryz.prog.funcs gE dD dK f Post c gs Inb j ds bs)(hl:Lp Inb0 J0 rt s k1 k2 k3 k4 j s.rt){kg:List Item}(hg:s.gk=.code gX :: kg):
  ∃ s':Pt,s'.OkD gP Tryz.prog.funcs gE dD dK f Post c gs Inb j ds bs/\Way gP Tryz.prog.funcs gE dD c gs J0 s s'/\s'.gk=.code (gh (cTl dY)) :: kg/\s'.rk=s.rk/\s'.rt=s.rt/\Lp Inb0 J0 rt s' k1 k2 k3 k4 j s'.rt/\s'.rt[18]?=some (.chan (some k4)):=by
 obtain⟨h1,w1⟩:=ghD_turns 2 (gk:=.inRegion (cOps gh6) [0] :: .code (.seq gh7 (gh (cTl dY))) :: kg) h (by rw[hg];rfl)
 have l1:=hl.way w1 hl.two fun _ _=>rfl
 have e9:(fD dD s.gt []).eval (.tmp 9)=_:=evalD hl.g9
 obtain⟨x,hx⟩:∃ x,x=(fD dD s.gt []).eval (.tmp 71):=⟨_,rfl⟩
 have hex:execOp (fD dD s.gt []).eval ((cOps gh6).getD 0 default)=(eqGuard .eql kT (.tmp 71) (.tmp 9) x (.chan (some k4)) >>= fun _=>binOp .eql kT x (.chan (some k4))) >>= fun v=>pure (.value v):=by
  rw[hx,<-e9]
  rfl
 have hkt:∃ d e,(ofF gP (maskF gP gE)).underlying kT=some (.chan d e):=⟨_,_,(uM kT).trans kT_chan⟩
 obtain⟨cd,ce,hkt⟩:=hkt
 by_cases hc:∃ a,x=.chan a
 ·obtain⟨a,rfl⟩:=hc
  obtain⟨h2,w2⟩:=ghD_known h1 (o:=(cOps gh6).getD 0 default) (v:=.bool (a == some k4)) (by rfl) (by rfl) (by rfl) (fun w=>by
   show (execOp (fD dD s.gt []).eval ((cOps gh6).getD 0 default)).runT _ w #[]=_
   rw[hex,runT_bnd,chan_eq hkt]
   rfl)
  have hne:∀ p,p≠54->(putT s.gt (some 54) (.bool (a == some k4)))[p]?=s.gt[p]?:=fun p hp=>putT_ne (fun e=>hp (Option.some.inj e).symm)
  have hex2:Ex (putT s.gt (some 54) (.bool (a == some k4))) s.rt:=⟨by rw[putT_size];exact hl.ex.gsz,hl.ex.dsz,fun k hk=>(hne _ (fun e=>by
   obtain rfl:k=1:=by omega
   cases hk)).trans (hl.ex.eq k hk)⟩
  have hg8:∃ i,(putT s.gt (some 54) (.bool (a == some k4)))[8]?=some (.int .i64 i):=by
   obtain⟨i,hi⟩:=hl.g8
   exact⟨i,(hne 8 (by decide)).trans hi⟩
  have l2:Lp Inb0 J0 rt ⟨.code (gh (cTl dY)) :: kg,s.rk,putT s.gt (some 54) (.bool (a == some k4)),s.rt,s.u,s.W,s.m,s.T,s.J,s.n⟩ k1 k2 k3 k4 j s.rt:={hl with two:=hl.two.own (d:=54) (by decide) (.bool (a == some k4)),ex:=hex2,g5:=(hne 5 (by decide)).trans hl.g5,g6:=(hne 6 (by decide)).trans hl.g6,g7:=(hne 7 (by decide)).trans hl.g7,g8:=hg8,g9:=(hne 9 (by decide)).trans hl.g9}
  obtain⟨h3,w3⟩:=ghD_turns 2 (gk:=.code gh7 :: .code (gh (cTl dY)) :: kg) h2 (by rfl)
  have b54:(putT s.gt (some 54) (.bool (a == some k4)))[54]?=some (.bool (a == some k4)):=putT_self (by have:=hl.two.gsz;omega)
  obtain⟨x4,h4⟩:=h3.inev.turn fD_runs (fun cs w=>cond_step (o:=.tmp 54) (a:=.skip) (b:=.refuse "") (k:=.code (gh (cTl dY)) :: kg) (v:=a == some k4) (evalD b54) _ true _ w)
  by_cases ha:a=some k4
  ·subst ha
   have ht:(some k4 == some k4)=true:=by simp
   rw[ht]at l2 w2 w3 h4 x4
   obtain⟨x5,h5⟩:=h4.turn fD_runs (fun cs w=>ctl1_step (k':=.code (gh (cTl dY)) :: kg) (by rfl) _ true _ w)
   refine⟨⟨.code (gh (cTl dY)) :: kg,s.rk,putT s.gt (some 54) (.bool true),s.rt,s.u,s.W,s.m,s.T,s.J,s.n⟩,⟨h5,h.co⟩,?_,rfl,rfl,rfl,l2,?_⟩
   ·exact (((w1.weak hl.sub).trans (w2.weak hl.sub)).trans (w3.weak hl.sub)).trans ⟨.inr ((Ltr.one x4).trans (.one x5)),.refl _ _ _,fun _ h=>h,Nat.le_refl _,.refl _ _⟩
   ·have h71:s.gt[18+53]?=s.rt[18]?:=hl.ex.eq 18 (by decide)
    show s.rt[18]?=_
    rw[<-h71]
    have:s.gt.getD 71 undef=.chan (some k4):=hx.symm
    rw[Array.getD_eq_getD_getElem?]at this
    have hlt:71<s.gt.size:=by have:=hl.two.gsz;omega
    rw[Array.getElem?_eq_getElem hlt]at this ⊢
    exact congrArg some this
  ·exfalso
   have hf:(a == some k4)=false:=by simpa using ha
   rw[hf]at h4
   exact gh_refuse (s:=⟨.code (.refuse "") :: .code (gh (cTl dY)) :: kg,s.rk,putT s.gt (some 54) (.bool (a == some k4)),s.rt,s.u,s.W,s.m,s.T,s.J,s.n⟩) (by rw[hf];exact h4) rfl
 ·exfalso
  obtain⟨e,hE1,hrun⟩:=chan_ne (k:=some k4) (o1:=.tmp 71) (o2:=.tmp 9) hkt hc
  exact gh_stuck h1.inev (o:=(cOps gh6).getD 0 default) (e:=e) (by rfl) (by rfl) (by rfl) hE1 (fun w=>by
   show (execOp (fD dD s.gt []).eval ((cOps gh6).getD 0 default)).run _ w=_
   rw[hex,Sem.run_bind,hrun]
   rfl)
end
end
end Go.Proofs.YticobikhndlejaaGreatDoor
