/- Part 2 of the proof (see the last part). -/
import Derived.Test.YticobikhndlejaaGreatDoorAlA
namespace Go.Proofs.YticobikhndlejaaGreatDoor
section
open Go
section
variable {P:Program} {Fs:Array Func} {cl:Loop->Prop} {α β:Type} {Q:α->Prop} {R:β->Prop}
theorem tm_getMapR'{r:Nat}{f:Obj->Sem β}(hb:∀ o,(∀ es c,o≠.map es c)->∃ s,f o=stuck s)(hm:∀ es c,Tm P Fs cl (f (.map es c)) R)(hj:∀ cl a b,f (.chan 0 #[] cl a b false)=f Jk:=by intros;rfl):Tm P Fs cl (getObj r >>= f) R:=tm_getMapR hm hb hj
theorem tm_mapL{f:α->Sem β}(h:∀ a,Tm P Fs cl (f a) fun _=>True):∀ l:List α,Tm P Fs cl (l.mapM f) fun _=>True
 | []=>by rw[List.mapM_nil];exact tm_pure trivial
 | a :: l=>by
   rw[List.mapM_cons]
   exact (h a).bind fun _ _=>(tm_mapL h l).bind fun _ _=>tm_pure trivial
theorem tm_mapA{f:α->Sem β}{l:Array α}(h:∀ a,Tm P Fs cl (f a) fun _=>True):Tm P Fs cl (l.mapM f) fun _=>True:=by
 rw[Array.mapM_eq_mapM_toList]
 exact tm_map (tm_mapL h _) fun _ _=>trivial
theorem tm_foldL{f:β->α->Sem β}(h:∀ b a,Tm P Fs cl (f b a) fun _=>True):∀ (l:List α) (b:β),Tm P Fs cl (l.foldlM f b) fun _=>True
 | [],b=>by rw[List.foldlM_nil];exact tm_pure trivial
 | a :: l,b=>by
   rw[List.foldlM_cons]
   exact (h b a).bind fun b' _=>tm_foldL h l b'
theorem tmS7a{s:Sem α}(h:Tm P Fs cl s Q:=by repeat (first | exact TmC.out | with_reducible refine tm_pureBind ?_ | with_reducible exact tm_stuckBind | (with_reducible refine tm_program ?_ ?_;· first | (simp only[byteOfCell_ofF,cellAtBytes_ofF,eqGuardType_ofF,holdsPacked_ofF,stoodInHeld_ofF,cellsOf_ofF,bytesOf_ofF,depth_ofF,globals_ofF] <;> rfl) | rfl) | (with_reducible refine tm_getMapR (fun _ _=>?_) fun o ho=>by cases o <;> first | exact⟨_,rfl⟩ | exact absurd rfl (ho _ _)) | with_reducible refine tm_mapA fun _=>?_ | with_reducible refine Tm.bind (Q:=fun _=>True) ?_ fun _ _=>?_ | with_reducible refine tm_ite ?_ ?_ | with_reducible refine tm_forIn _ _ _ fun _ _=>?_ | with_reducible refine tm_forA fun _ _=>?_ | with_reducible refine tm_forR fun _ _=>?_ | with_reducible refine tm_mapA fun _=>?_ | with_reducible refine tm_foldL (fun _ _=>?_) _ _ | split | dsimp only)):Tm P Fs cl s Q:=h
instance {a:Array TypeId}{t:TypeId}{b:Array Value}:TmC P Fs cl (Builtin.min_ a t b):=⟨by
 unfold Builtin.min_
 repeat exact tmS7a⟩
instance {a:Array TypeId}{t:TypeId}{b:Array Value}:TmC P Fs cl (Builtin.max_ a t b):=⟨by
 unfold Builtin.max_
 repeat exact tmS7a⟩
instance {t:TypeId}{ps:Array (Nat×Value)}:TmC P Fs cl (Instr.build t ps):=⟨by
 unfold Instr.build
 repeat exact tmS7a⟩
theorem tm_getAny{r:Nat}{f:Obj->Sem β}(h:∀ o,CObj cl o->Tm P Fs cl (f o) R)(h0:∃ e,f (.coro none)=.halt e/\Ends e)(hv:∀ a t,∃ e,f (.view a t)=.halt e/\Ends e)(hj:∀ cl a b,f (.chan 0 #[] cl a b false)=f Jk:=by intros;rfl):Tm P Fs cl (getObj r >>= f) R:=
 tm_get (fun o ho _=>⟨fun _=>(h o ho).toN,fun _=>h o ho⟩) h0 hv hj
theorem tm_getChan{r:Nat}{f:Obj->Sem β}(hb:∀ o,(∀ a b c d e g,o≠.chan a b c d e g)->∃ s,f o=stuck s)(hc:Tm P Fs cl (f Jk) R)(hj:∀ cl a b,f (.chan 0 #[] cl a b false)=f Jk:=by intros;rfl):Tm P Fs cl (getObj r >>= f) R:=by
 refine tm_getAny (fun o ho=>?_) ?_ (fun a t=>?_) ?_
 ·by_cases h:∃ a b c d e g,o=.chan a b c d e g
  ·obtain⟨a,b,c,d,e,g,rfl⟩:=h
   obtain⟨rfl,rfl,rfl,rfl,rfl,rfl⟩:=ho
   exact hc
  ·obtain⟨s,e⟩:=hb o fun a b c d e g h2=>h ⟨a,b,c,d,e,g,h2⟩
   rw[e];exact tm_stuck
 ·obtain⟨s,e⟩:=hb (.coro none) (by intros;simp)
  exact⟨_,e,trivial⟩
 ·obtain⟨s,e⟩:=hb (.view a t) (by intros;simp)
  exact⟨_,e,trivial⟩
 ·exact hj
theorem tmN_getMapR{q r:Nat}{f:Obj->Sem β}(hm:∀ es c,TmN P Fs cl q (f (.map es c)) R)(hb:∀ o,(∀ es c,o≠.map es c)->∃ s,f o=stuck s)(hj:∀ cl a b,f (.chan 0 #[] cl a b false)=f Jk:=by intros;rfl):TmN P Fs cl q (getObj r >>= f) R:=by
 intro N hq
 refine .getObj (fun o ho hn=>?_) ?_ (fun a t=>?_) ?_
 ·by_cases h:∃ es c,o=.map es c
  ·obtain⟨es,c,rfl⟩:=h
   exact (hm es c _ (.inl hq)).mono (fun _ h=>h) fun N2 b hb=>⟨fun x hx=>hb.1 x (.inl hx),hb.2⟩
  ·obtain⟨s,e⟩:=hb o fun es c e=>h ⟨es,c,e⟩
   show TameS P (ofF P Fs) cl _ _ _ (f o)
   rw[e]
   exact .ends trivial
 ·obtain⟨s,e⟩:=hb (.coro none) (by intros;simp)
  exact⟨_,e,trivial⟩
 ·obtain⟨s,e⟩:=hb (.view a t) (by intros;simp)
  exact⟨_,e,trivial⟩
 ·exact hj
theorem tmS7b{s:Sem α}(h:Tm P Fs cl s Q:=by repeat (first | exact TmC.out | with_reducible refine tm_pureBind ?_ | with_reducible exact tm_stuckBind | (with_reducible refine tm_program ?_ ?_;· first | (simp only[byteOfCell_ofF,cellAtBytes_ofF,eqGuardType_ofF,holdsPacked_ofF,stoodInHeld_ofF,cellsOf_ofF,bytesOf_ofF,depth_ofF,globals_ofF] <;> rfl) | rfl) | ((with_reducible refine tm_getMapR' ?_ fun _ _=>?_);· (intro o ho;cases o <;> first | exact⟨_,rfl⟩ | exact absurd rfl (ho _ _))) | ((with_reducible refine tm_getChan ?_ ?_);· (intro o ho;cases o <;> first | exact⟨_,rfl⟩ | exact absurd rfl (ho _ _ _ _ _ _))) | with_reducible refine Tm.bind (Q:=fun _=>True) ?_ fun _ _=>?_ | with_reducible refine tm_ite ?_ ?_ | with_reducible refine tm_forIn _ _ _ fun _ _=>?_ | with_reducible refine tm_forA fun _ _=>?_ | with_reducible refine tm_forR fun _ _=>?_ | split | dsimp only)):Tm P Fs cl s Q:=h
instance {a:Array TypeId}{t:TypeId}{b:Array Value}:TmC P Fs cl (Builtin.len_ a t b):=⟨by
 unfold Builtin.len_
 repeat exact tmS7b⟩
instance {a:Array TypeId}{t:TypeId}{b:Array Value}:TmC P Fs cl (Builtin.cap_ a t b):=⟨by
 unfold Builtin.cap_
 repeat exact tmS7b⟩
theorem tmS7c{s:Sem α}(h:Tm P Fs cl s Q:=by repeat (first | exact TmC.out | with_reducible refine tm_pureBind ?_ | with_reducible exact tm_stuckBind | (with_reducible refine tm_program ?_ ?_;· first | (simp only[byteOfCell_ofF,cellAtBytes_ofF,eqGuardType_ofF,holdsPacked_ofF,stoodInHeld_ofF,cellsOf_ofF,bytesOf_ofF,depth_ofF,globals_ofF] <;> rfl) | rfl) | (with_reducible refine tm_getMapR (fun _ _=>?_) fun o ho=>by cases o <;> first | exact⟨_,rfl⟩ | exact absurd rfl (ho _ _)) | with_reducible refine Tm.bind (Q:=fun _=>True) ?_ fun _ _=>?_ | with_reducible refine tm_ite ?_ ?_ | with_reducible refine tm_forIn _ _ _ fun _ _=>?_ | with_reducible refine tm_forA fun _ _=>?_ | with_reducible refine tm_forR fun _ _=>?_ | split | dsimp only)):Tm P Fs cl s Q:=h
instance {i:Value}:TmC P Fs cl (Instr.entry i):=⟨by
 unfold Instr.entry
 split
 ·refine tm_getAny (fun o ho=>?_) ⟨_,rfl,trivial⟩ fun _ _=>⟨_,rfl,trivial⟩
  repeat exact tmS7c
 ·exact tm_stuck⟩
instance {i:Value}{b:Bool}{t:TypeId}:TmC P Fs cl (Instr.next i b t):=⟨by
 unfold Instr.next
 dsimp only
 split
 ·refine tm_get (fun o ho hn=>?_) (by cases b <;> exact⟨_,rfl,trivial⟩) fun _ _=>by cases b <;> exact⟨_,rfl,trivial⟩
  have hs:∀ {r:Nat} {s:String},(Good o->TmN P Fs cl r (stuck (α:=Value) s) fun _=>True)/\(¬Good o->Tm P Fs cl (stuck (α:=Value) s) fun _=>True):=⟨fun _=>tm_stuck.toN,fun _=>tm_stuck⟩
  cases o <;> cases b <;> first | exact hs | skip
  ·refine⟨fun _=>?_,fun hg=>absurd trivial hg⟩
   repeat (first | exact Tm.toN TmC.out | exact tmN_set trivial trivial | with_reducible refine TmN.bindN (Q:=fun _=>True) ?_ fun _ _=>?_ | with_reducible refine tmN_ite ?_ ?_ | split | dsimp only)
  ·rename_i m a c d
   refine⟨fun _=>?_,fun hg=>absurd trivial hg⟩
   cases m with
   | none=>exact Tm.toN (tm_pure trivial)
   | some m=>
     refine tmN_getMapR (fun _ _=>?_) fun o ho=>by cases o <;> first | exact⟨_,rfl⟩ | exact absurd rfl (ho _ _)
     dsimp only
     repeat (first | exact Tm.toN TmC.out | exact tmN_set trivial trivial | with_reducible refine TmN.bind (Q:=fun _=>True) TmC.out fun _ _=>?_ | with_reducible refine TmN.bindN (Q:=fun _=>True) ?_ fun _ _=>?_ | with_reducible refine tmN_ite ?_ ?_ | split | dsimp only)
  ·rename_i m a c d
   cases m <;> exact hs
 ·exact tm_stuck⟩
instance {t:TypeId}{p:Place}:TmC P Fs cl (p.get t):=⟨by
 cases p
 ·exact tm_pure trivial
 ·exact tm_loadVar _ _⟩
theorem tmc_follow:∀ (l:List FieldStep) (t:TypeId) (x:Place),TmC P Fs cl (follow l t x)
 | [],t,x=>⟨tm_pure trivial⟩
 | s :: l,t,x=>by
   have ih:∀ (t:TypeId) (x:Place),TmC P Fs cl (follow l t x):=tmc_follow l
   exact⟨by
    unfold follow
    repeat exact tmS7c⟩
instance {l:List FieldStep}{t:TypeId}{x:Place}:TmC P Fs cl (follow l t x):=tmc_follow l t x
theorem tmc_followBlind:∀ (l:List FieldStep) (t:TypeId) (x:Option Value),TmC P Fs cl (followBlind l t x)
 | [],t,x=>⟨tm_pure trivial⟩
 | s :: l,t,x=>by
   have ih:∀ (t:TypeId) (x:Option Value),TmC P Fs cl (followBlind l t x):=tmc_followBlind l
   exact⟨by
    unfold followBlind
    repeat exact tmS7c⟩
instance {l:List FieldStep}{t:TypeId}{x:Option Value}:TmC P Fs cl (followBlind l t x):=tmc_followBlind l t x
theorem tmc_nilAhead:∀ (d:Nat) (t:TypeId) (v:Value) (n:String),TmC P Fs cl (nilAhead d t v n)
 | 0,t,v,n=>⟨tm_pure trivial⟩
 | d+1,t,v,n=>by
   have ih:∀ (t:TypeId) (v:Value) (n:String),TmC P Fs cl (nilAhead d t v n):=tmc_nilAhead d
   exact⟨by
    unfold nilAhead
    repeat exact tmS7c⟩
instance {d:Nat}{t:TypeId}{v:Value}{n:String}:TmC P Fs cl (nilAhead d t v n):=tmc_nilAhead d t v n
instance {t:TypeId}{p:Value}{n:String}:TmC P Fs cl (Builtin.ssaWrapNilChk_ #[t] t #[p,strVal "",strVal n]):=⟨by
 cases p <;> (try exact tm_stuck)
 rename_i p
 cases p with
 | some a=>exact tm_pure trivial
 | none=>
   change Tm P Fs cl (choose _ >>= _) _
   repeat exact tmS7c⟩
instance {t:TypeId}{x:Place}{b:Bool}{w:Option String}:TmC P Fs cl (receiverAt t x b w):=⟨by
 unfold receiverAt
 repeat exact tmS7c⟩
instance {t:TypeId}{v:Value}{l:Array FieldStep}{b:Bool}:TmC P Fs cl (receiverVia t v l b):=⟨by
 unfold receiverVia
 repeat exact tmS7c⟩
theorem tmc_method:∀ (d:Nat) (t:TypeId) (v:Value) (n:String),TmC P Fs cl (method d t v n)
 | 0,t,v,n=>⟨tm_unsup trivial⟩
 | d+1,t,v,n=>by
   have ih:∀ (t:TypeId) (v:Value) (n:String),TmC P Fs cl (method d t v n):=tmc_method d
   exact⟨by
    unfold method
    repeat exact tmS7c⟩
instance {d:Nat}{t:TypeId}{v:Value}{n:String}:TmC P Fs cl (method d t v n):=tmc_method d t v n
instance:TmC P Fs cl Instr.panicnil:=⟨by
 intro N
 refine .env fun r=>?_
 cases r <;> first | exact .ends trivial | exact .program rfl (.pure ⟨fun _ x=>x,trivial⟩)⟩
instance {x:Value}:TmC P Fs cl (Instr.panic x):=⟨by
 unfold Instr.panic
 repeat exact tmS7c⟩
theorem tm_underlyingQ(t:TypeId):Tm P Fs cl (underlying t) fun d=>P.underlying t=some d:=by
 refine tm_program rfl ?_
 have e:(ofF P Fs).underlying t=P.underlying t:=rfl
 rw[e]
 split
 ·exact tm_pure ‹_›
 ·exact tm_stuck
theorem tm_convert{s d:TypeId}{x:Value}(hs:P.underlying s≠some .unsafePointer)(hd:P.underlying d≠some .unsafePointer):Tm P Fs cl (convert s d x) fun _=>True:=by
 unfold convert
 refine (tm_underlyingQ s).bind fun a ha=>(tm_underlyingQ d).bind fun b hb=>?_
 have ha2:a≠.unsafePointer:=fun e=>hs (by rw[ha,e])
 have hb2:b≠.unsafePointer:=fun e=>hd (by rw[hb,e])
 split <;> first | exact absurd rfl ha2 | exact absurd rfl hb2 | skip
 all_goals
  repeat exact tmS7c
end
section
variable {P:Program} {Fs:Array Func} {cl:Loop->Prop} {α β:Type} {Q:α->Prop} {R:β->Prop}
theorem mayEmbed_ofF(ms:Array (String×TypeId)):(ofF P Fs).mayEmbedAPacks ms=P.mayEmbedAPacks ms:=by
 unfold Program.mayEmbedAPacks
 simp only[cutTypes_ofF,ownRow_ofF,underlying_ofF]
theorem namesPacked_ofF:∀ (d:Nat) (t:TypeId),(ofF P Fs).namesPacked d t=P.namesPacked d t
 | 0,_=>rfl
 | d+1,t=>by
   unfold Program.namesPacked
   have ih:=namesPacked_ofF d
   have ihf:(ofF P Fs).namesPacked d=P.namesPacked d:=funext ih
   simp only[ih,ihf,packed_ofF,info_ofF,cutTypes_ofF,ownRow_ofF,mayEmbed_ofF]
theorem methodsOfAPack_ofF:∀ (d:Nat) (t:TypeId),(ofF P Fs).methodsOfAPack d t=P.methodsOfAPack d t
 | 0,_=>rfl
 | d+1,t=>by
   unfold Program.methodsOfAPack
   have ih:=methodsOfAPack_ofF d
   simp only[ih,packed_ofF,underlying_ofF,mayEmbed_ofF]
open Go.Extern.Rtype Go.Extern
theorem tmS8a{s:Sem α}(h:Tm P Fs cl s Q:=by repeat (first | exact TmC.out | with_reducible refine tm_pureBind ?_ | with_reducible exact tm_stuckBind | ((with_reducible refine tm_program ?_ ?_);· first | (simp only[byteOfCell_ofF,cellAtBytes_ofF,eqGuardType_ofF,holdsPacked_ofF,stoodInHeld_ofF,cellsOf_ofF,packed_ofF,namesPacked_ofF,methodsOfAPack_ofF,bytesOf_ofF,depth_ofF,globals_ofF] <;> rfl) | rfl) | (with_reducible refine tm_getMapR (fun _ _=>?_) fun o ho=>by cases o <;> first | exact⟨_,rfl⟩ | exact absurd rfl (ho _ _)) | with_reducible refine Tm.bind (Q:=fun _=>True) ?_ fun _ _=>?_ | with_reducible refine tm_ite ?_ ?_ | with_reducible refine tm_forIn _ _ _ fun _ _=>?_ | with_reducible refine tm_forA fun _ _=>?_ | with_reducible refine tm_forR fun _ _=>?_ | split | dsimp only)):Tm P Fs cl s Q:=h
instance {s:String}:TmC P Fs cl (cutType s):=⟨by
 unfold Go.cutType
 repeat exact tmS8a⟩
instance {v:Value}:TmC P Fs cl (ofHandle v):=⟨by
 unfold Rtype.ofHandle
 repeat exact tmS8a⟩
instance {t:TypeId}:TmC P Fs cl (handle t):=⟨by
 unfold Rtype.handle
 repeat exact tmS8a⟩
instance {s:String}{t:TypeId}:TmC P Fs cl (noPack s t):=⟨by
 unfold Rtype.noPack
 repeat exact tmS8a⟩
instance {s:String}{t:TypeId}:TmC P Fs cl (noPackHeld s t):=⟨by
 unfold Rtype.noPackHeld
 repeat exact tmS8a⟩
instance {s:String}{t:TypeId}:TmC P Fs cl (noPackNamed s t):=⟨by
 unfold Rtype.noPackNamed
 repeat exact tmS8a⟩
instance {s:String}{t:TypeId}:TmC P Fs cl (noPackMethods s t):=⟨by
 unfold Rtype.noPackMethods
 repeat exact tmS8a⟩
instance {t:TypeId}:TmC P Fs cl (spelt t):=⟨by
 unfold Rtype.spelt
 repeat exact tmS8a⟩
instance {t:TypeId}:TmC P Fs cl (under t):=⟨by
 unfold Rtype.under
 repeat exact tmS8a⟩
instance {t:TypeId}:TmC P Fs cl (kind t):=⟨by
 unfold Rtype.kind
 repeat exact tmS8a⟩
instance {t:TypeId}:TmC P Fs cl (hasName t):=⟨by
 unfold Rtype.hasName
 repeat exact tmS8a⟩
instance {t:TypeId}:TmC P Fs cl (elem? t):=⟨by
 unfold Rtype.elem?
 repeat exact tmS8a⟩
instance {t u:TypeId}:TmC P Fs cl (implements t u):=⟨by
 unfold Rtype.implements
 repeat exact tmS8a⟩
instance {t u:TypeId}:TmC P Fs cl (directlyAssignable t u):=⟨by
 unfold Rtype.directlyAssignable
 repeat exact tmS8a⟩
instance {t:TypeId}:TmC P Fs cl (ReflectliteType.toType t):=⟨by
 unfold ReflectliteType.toType
 repeat exact tmS8a⟩
instance {v:Value}:TmC P Fs cl (ReflectliteType.ofRtype v):=⟨by
 unfold ReflectliteType.ofRtype
 cases v <;> (try exact tm_stuck)
 rename_i a
 rcases a with ⟨_ |⟨x,_ |⟨y,l⟩⟩⟩ <;> (try exact tm_stuck)
 change Tm P Fs cl (Rtype.ofHandle x >>= _) _
 repeat exact tmS8a⟩
instance {t:TypeId}:TmC P Fs cl (ReflectliteType.elem t):=⟨by
 unfold ReflectliteType.elem
 repeat exact tmS8a⟩
instance {u t:TypeId}:TmC P Fs cl (ReflectliteType.implements_ u t):=⟨by
 unfold ReflectliteType.implements_
 repeat exact tmS8a⟩
instance {u t:TypeId}:TmC P Fs cl (ReflectliteType.assignableTo u t):=⟨by
 unfold ReflectliteType.assignableTo
 repeat exact tmS8a⟩
theorem tm_typeOf(a:Array Value):Tm P Fs cl (ReflectliteType.typeOf a) fun _=>True:=by
 rcases a with ⟨_ |⟨x,_ |⟨y,l⟩⟩⟩ <;> (try exact tm_stuck)
 cases x <;> (try exact tm_stuck)
 case nilIface=>exact tm_pure trivial
 case iface=>exact (TmC.out:Tm P Fs cl (ReflectliteType.toType _) _)
theorem tm_rmethod{f:TypeId->Sem Value}(h:∀ t,Tm P Fs cl (f t) fun _=>True)(a:Array Value):Tm P Fs cl (ReflectliteType.method f a) fun _=>True:=by
 rcases a with ⟨_ |⟨x,_ |⟨y,l⟩⟩⟩ <;> (try exact tm_stuck)
 change Tm P Fs cl (ReflectliteType.ofRtype x >>= f) _
 exact Tm.bind TmC.out fun t _=>h t
theorem tm_relation{s:String}{f:TypeId->TypeId->Sem Bool}(h:∀ t u,Tm P Fs cl (f t u) fun _=>True)(a:Array Value):Tm P Fs cl (ReflectliteType.relation s f a) fun _=>True:=by
 rcases a with ⟨_ |⟨x,_ |⟨y,_ |⟨z,l⟩⟩⟩⟩ <;> (try exact tm_stuck)
 cases y <;> (try exact tm_stuck)
 case nilIface=>exact tm_panicString _
 case iface d u=>
  change Tm P Fs cl (ReflectliteType.ofRtype u >>= fun a=>ReflectliteType.ofRtype x >>= fun b=>f a b >>= fun r=>pure (Value.bool r)) _
  exact Tm.bind TmC.out fun a _=>Tm.bind TmC.out fun b _=>(h a b).bind fun _ _=>tm_pure trivial
theorem tm_abiMethod{f:TypeId->Sem Value}(h:∀ t,Tm P Fs cl (f t) fun _=>True)(a:Array Value):Tm P Fs cl (ReflectliteType.abiMethod f a) fun _=>True:=by
 rcases a with ⟨_ |⟨x,_ |⟨y,l⟩⟩⟩ <;> (try exact tm_stuck)
 change Tm P Fs cl (Rtype.ofHandle x >>= fun t=>noPack "a method of abi.Type" t >>= fun _=>f t) _
 exact Tm.bind TmC.out fun t _=>Tm.bind TmC.out fun _ _=>h t
instance {t:TypeId}{a:Addr}{n:Nat}:TmC P Fs cl (ReflectliteValue.mk t a n):=⟨by
 unfold ReflectliteValue.mk
 repeat exact tmS8a⟩
instance {v:Value}:TmC P Fs cl (ReflectliteValue.unpack v):=⟨by
 unfold ReflectliteValue.unpack
 repeat exact tmS8a⟩
instance {s:String}{k:Nat}:TmC P Fs cl (ReflectliteValue.valueError (α:=α) s k):=⟨by
 unfold ReflectliteValue.valueError
 repeat exact tmS8a⟩
instance {v:Value}:TmC P Fs cl (ReflectliteValue.partsAny v):=⟨by
 cases v <;> (try exact tm_stuck)
 rename_i a
 rcases a with ⟨_ |⟨x,_ |⟨y,_ |⟨z,_ |⟨u,l⟩⟩⟩⟩⟩ <;> (try exact tm_stuck)
 cases z <;> (try exact tm_stuck)
 rename_i k n
 cases k <;> (try exact tm_stuck)
 rcases n with (_ | n) | n
 ·exact tm_pure trivial
 all_goals
  cases y <;> (try exact tm_stuck)
  rename_i p
  cases p <;> (try exact tm_stuck)
  change Tm P Fs cl (Rtype.ofHandle x >>= _) _
  exact Tm.bind (Q:=fun _=>True) TmC.out fun _ _=>tm_pure trivial⟩
instance {v:Value}:TmC P Fs cl (ReflectliteValue.parts v):=⟨by
 unfold ReflectliteValue.parts
 repeat exact tmS8a⟩
theorem tm_vmethod{z:Sem Value}{f:TypeId->Addr->Nat->Nat->Sem Value}(hz:Tm P Fs cl z fun _=>True)(h:∀ t a b c,Tm P Fs cl (f t a b c) fun _=>True)(a:Array Value):Tm P Fs cl (ReflectliteValue.method z f a) fun _=>True:=by
 rcases a with ⟨_ |⟨x,_ |⟨y,l⟩⟩⟩ <;> (try exact tm_stuck)
 change Tm P Fs cl (ReflectliteValue.parts x >>= _) _
 refine Tm.bind (Q:=fun _=>True) TmC.out fun p _=>?_
 rcases p with _ |⟨t,b,n⟩
 ·exact hz
 ·exact h _ _ _ _
theorem tm_vmethodAny{z:Sem Value}{f:TypeId->Addr->Nat->Nat->Sem Value}(hz:Tm P Fs cl z fun _=>True)(h:∀ t a b c,Tm P Fs cl (f t a b c) fun _=>True)(a:Array Value):Tm P Fs cl (ReflectliteValue.methodAny z f a) fun _=>True:=by
 rcases a with ⟨_ |⟨x,_ |⟨y,l⟩⟩⟩ <;> (try exact tm_stuck)
 change Tm P Fs cl (ReflectliteValue.partsAny x >>= _) _
 refine Tm.bind (Q:=fun _=>True) TmC.out fun p _=>?_
 rcases p with _ |⟨t,b,n⟩
 ·exact hz
 ·exact h _ _ _ _
instance {t:TypeId}{a:Addr}{x k:Nat}:TmC P Fs cl (ReflectliteValue.isNil t a x k):=⟨by
 unfold ReflectliteValue.isNil
 repeat exact tmS8a⟩
instance {t:TypeId}{a:Addr}{x k:Nat}:TmC P Fs cl (ReflectliteValue.elem t a x k):=⟨by
 unfold ReflectliteValue.elem
 repeat exact tmS8a⟩
theorem tm_vset(a:Array Value):Tm P Fs cl (ReflectliteValue.set a) fun _=>True:=by
 rcases a with ⟨_ |⟨x,_ |⟨y,_ |⟨z,l⟩⟩⟩⟩ <;> (try exact tm_stuck)
 change Tm P Fs cl (ReflectliteValue.parts x >>= fun p=>ReflectliteValue.parts y >>= _) _
 refine Tm.bind (Q:=fun _=>True) TmC.out fun p _=>Tm.bind (Q:=fun _=>True) TmC.out fun q _=>?_
 rcases p with _ |⟨t,b,n⟩ <;> rcases q with _ |⟨u,c,m⟩ <;> (try exact tm_unsup trivial)
 dsimp only
 repeat exact tmS8a
end
def okBuiltin:Builtin->Bool
 | .append | .cap | .clear | .copy | .delete | .len | .max | .min=>true
 | _=>false
def okType(P:Program)(t:TypeId):Bool:=match P.underlying t with | some .unsafePointer=>false | _=>true
def zeroOp:Operand->Bool
 | .const (.int .i64 0)=>true
 | _=>false
theorem zeroOp_eq{s:Operand}(h:zeroOp s=true):s=.const (.int .i64 0):=by
 unfold zeroOp at h
 split at h
 ·rfl
 ·cases h
def okOp(P:Program):Op->Bool
 | .move _ | .assign _ | .pick .. | .alloc _ | .box .. | .build .. | .buildSlice .. | .insert .. | .load .. | .store .. | .nilCheck _ | .binOp .. | .unOp ..=>true
 | .makeChan _ s=>zeroOp s
 | .convert s d _=>okType P s && okType P d
 | .makeInterface .. | .makeFunc .. | .makeMap .. | .makeSlice .. | .slice .. | .fieldAddr .. | .field .. | .indexAddr .. | .index .. | .lookup .. | .mapUpdate .. | .mapEntry .. | .entryStore .. | .range .. | .next .. | .entry _ | .typeAssert .. | .extract .. | .panic _=>true
 | .call c=>match c.callee with | .builtin b=>okBuiltin b | _=>true
 | _=>false
def okCode(P:Program):Code->Bool
 | .skip | .exit _ | .label _ | .goto _ | .ret | .refuse _=>true
 | .region _ ops _=>ops.toList.all fun o=>okOp P o.op
 | .seq a b | .cond _ a b | .rangeFunc _ _ a b=>okCode P a && okCode P b
 | .block _ b | .loop b | .scope b=>okCode P b
def okFunc(P:Program)(E:List String)(fn:Func):Bool:=match fn.body with | some c=>okCode P c | none=>E.contains fn.name
def maskF(P:Program)(E:List String):Array Func:=P.funcs.map fun fn=>if okFunc P E fn then fn else {fn with body:=some (.refuse "")}
def NextOk(P:Program)(E:List String):Next->Prop
 | .value _ | .skip=>True
 | .enter f _=>∃ fn,P.funcs[f]?=some fn
 | .round _ f _ a b=>okCode P a=true/\okCode P b=true/\∃ fn,P.funcs[f]?=some fn/\okFunc P E fn=true
 | _=>False
def BadN(P:Program)(E:List String):Next->Prop
 | .enter f _=>∃ fn,P.funcs[f]?=some fn/\okFunc P E fn=false
 | _=>False
def clL(P:Program)(E:List String)(l:Loop):Prop:=okCode P l.assign=true/\okCode P l.body=true/\(∀ j,l.pending=some j->okCode P j=true)/\∃ fn,P.funcs[l.fn]?=some fn/\okFunc P E fn=true
structure Ext(P:Program)(E:List String):Prop where
 num:∀ (f:FuncId) (fn:Func),P.funcs[f]?=some fn->(fn.name == "runtime.NumGoroutine")=false
 ext:∀ (f:FuncId) (fn:Func),P.funcs[f]?=some fn->fn.body=none->E.contains fn.name=true->Extern.findNext fn=none/\∃ e,Extern.find fn=some e/\∀ F args,Tm (ofF P F) (maskF P E) (clL P E) (e args) fun _=>True
structure Alike(P:Program)(F:Array Func)(E:List String)(D:FuncId):Prop where
 same:∀ f,f≠D->F[f]?=P.funcs[f]?
 real:∃ fn c c' k,P.funcs[D]?=some fn/\fn.body=some c'/\okFunc P E fn=true/\F[D]?=some {fn with body:=some c,ntmps:=k}
section
variable {P:Program} {F:Array Func} {E:List String} {D:FuncId} {α:Type} {Q:α->Prop}
def TN(P:Program)(F:Array Func)(E:List String)(s:Sem Next):Prop:=∀ N,TameS (ofF P F) (ofF P (maskF P E)) (clL P E) (BadN P E) (fun N' nx=>(∀ x,N x->N' x)/\NextOk P E nx) N s
theorem TN.bind{s:Sem α}{f:α->Sem Next}(h:Tm (ofF P F) (maskF P E) (clL P E) s Q)(hf:∀ a,Q a->TN P F E (f a)):TN P F E (s >>= f):=
 fun N=>TameS.bindT h fun N' a hN hq=>(hf a hq N').mono (fun _ h=>h) fun N2 nx h=>⟨fun x hx=>h.1 x (hN x hx),h.2⟩
theorem TN.ofTm{s:Sem Next}(h:Tm (ofF P F) (maskF P E) (clL P E) s (NextOk P E)):TN P F E s:=fun N=>(h N).mono (fun _ h=>h.elim) fun _ _ h=>h
theorem tn_value{s:Sem Value}(h:Tm (ofF P F) (maskF P E) (clL P E) s fun _=>True):TN P F E (do pure (.value (<-s))):=TN.bind h fun _ _=>TN.ofTm (tm_pure trivial)
theorem tn_unit{s:Sem Unit}(h:Tm (ofF P F) (maskF P E) (clL P E) s fun _=>True):TN P F E (do s;pure .skip):=TN.bind h fun _ _=>TN.ofTm (tm_pure trivial)
theorem tn_ret{v:Value}:TN P F E (pure (.value v)):=TN.ofTm (tm_pure trivial)
theorem tn_stuck{s:String}:TN P F E (stuck s):=TN.ofTm tm_stuck
theorem tn_panic{e:RuntimeError}:TN P F E (runtimePanic e):=TN.ofTm (tm_runtimePanic e)
theorem maskF_get(f:Nat):(maskF P E)[f]?=P.funcs[f]?.map fun fn=>if okFunc P E fn then fn else {fn with body:=some (.refuse "")}:=by simp[maskF]
theorem tn_program{k:Program->Sem Next}(hk:k (ofF P F)=k (ofF P (maskF P E)))(h:TN P F E (k (ofF P (maskF P E)))):TN P F E (program >>= k):=fun N=>.program hk (h N)
theorem tn_bad{k:Program->Sem Next}{a:Next}(hk:k (ofF P (maskF P E))=pure a)(hb:BadN P E a)(hn:NextOk P E a):TN P F E (program >>= k):=fun N=>.bad hk hb ⟨fun _ x=>x,hn⟩
theorem tn_callFunc(hE:Ext P E)(hA:Alike P F E D)(f:FuncId)(args:Array Value):TN P F E (callFunc f args):=by
 unfold callFunc
 have hm:(ofF P (maskF P E)).funcs[f]?=_:=maskF_get (P:=P) (E:=E) f
 by_cases hD:f=D
 ·subst hD
  obtain⟨fn,c,c',kk,h1,h2,h3,h4⟩:=hA.real
  have hn:=hE.num f fn h1
  rw[h1,Option.map_some,if_pos h3]at hm
  refine tn_program ?_ ?_
  ·dsimp only
   rw[h4,hm]
   dsimp only
   rw[hn,h2]
   rfl
  ·dsimp only
   rw[hm]
   dsimp only
   rw[hn,h2]
   exact TN.ofTm (tm_pure ⟨fn,h1⟩)
 have hF:=hA.same f hD
 cases hf:P.funcs[f]? with
 | none=>
   rw[hf,Option.map_none]at hm
   refine tn_program ?_ ?_
   ·dsimp only
    rw[hF,hf,hm]
   ·dsimp only
    rw[hm]
    exact tn_stuck
 | some fn=>
   rw[hf,Option.map_some]at hm
   have hn:=hE.num f fn hf
   cases hk:okFunc P E fn with
   | false=>
     rw[if_neg (by simp[hk])]at hm
     refine tn_bad (a:=.enter f args) ?_ ⟨fn,hf,hk⟩ ⟨fn,hf⟩
     dsimp only
     rw[hm]
     dsimp only
     rw[hn]
     rfl
   | true=>
     rw[if_pos hk]at hm
     refine tn_program ?_ ?_
     ·dsimp only
      rw[hF,hf,hm]
     ·dsimp only
      rw[hm]
      dsimp only
      rw[hn]
      cases hb:fn.body with
      | some c=>exact TN.ofTm (tm_pure ⟨fn,hf⟩)
      | none=>
        have hc:E.contains fn.name=true:=by simpa only[okFunc,hb]using hk
        obtain⟨e1,e,e2,e3⟩:=hE.ext f fn hf hb hc
        simp only[Option.isNone_none,if_true,e1,e2]
        intro N
        exact .mark (.inr ⟨f,rfl⟩) (tn_value (e3 F args) N)
theorem tn_callMethod(hE:Ext P E)(hA:Alike P F E D)(r:Value)(n:String)(args:Array Value):TN P F E (callMethod r n args):=by
 unfold callMethod
 split
 ·intro N
  exact .program rfl (TN.bind TmC.out (fun _ _=>tn_callFunc hE hA _ _) N)
 ·exact tn_panic
 ·exact tn_stuck
theorem tm_getLoop(l:Nat):Tm (ofF P F) (maskF P E) (clL P E) (Instr.getLoop l) (clL P E):=by
 unfold Instr.getLoop
 refine tm_getAny (fun o ho=>?_) ⟨_,rfl,trivial⟩ fun _ _=>⟨_,rfl,trivial⟩
 split
 ·exact tm_pure ho
 ·exact tm_stuck
theorem tn_yield(l:Nat)(args:Array Value):TN P F E (Instr.yield l args):=by
 unfold Instr.yield
 refine TN.bind (tm_getLoop l) fun r hr=>?_
 dsimp only
 split
 ·exact tn_stuck
 ·exact TN.ofTm (tm_pure ⟨hr.1,hr.2.1,hr.2.2.2⟩)
theorem tn_builtin(b:Builtin)(hb:okBuiltin b=true)(a:Array TypeId)(t:TypeId)(c:Array Bool)(args:Array Value):TN P F E (builtin b a t c args):=by
 cases b <;> first | exact absurd hb (by decide) | exact tn_value TmC.out
def TgtOk:Target->Prop
 | .fn .. | .nil=>True
 | .builtin b ..=>okBuiltin b=true
 | _=>False
theorem tn_invoke(hE:Ext P E)(hA:Alike P F E D)(t:Target)(ht:TgtOk t)(args:Array Value):TN P F E (invoke t args):=by
 unfold invoke
 split
 ·exact tn_panic
 ·exact tn_builtin _ ht _ _ _ _
 ·exact tn_callFunc hE hA _ _
 ·split
  ·exact tn_callMethod hE hA _ _ _
  ·exact tn_stuck
 ·split
  ·refine TN.bind (Q:=fun _=>True) TmC.out fun d _=>?_
   split <;> exact tn_callMethod hE hA _ _ _
  ·exact tn_stuck
 ·split
  ·exact TN.bind (Q:=fun _=>True) TmC.out fun _ _=>tn_callFunc hE hA _ _
  ·exact tn_stuck
 ·exact tn_yield _ _
 ·exact tn_stuck
 ·exact ht.elim
theorem tm_ofValue(f:Value)(args:Array Value):Tm (ofF P F) (maskF P E) (clL P E) (Deferred.ofValue f args) fun d=>TgtOk d.target:=by
 unfold Deferred.ofValue
 split
 ·exact tm_pure trivial
 ·exact tm_pure trivial
 ·exact tm_stuck
theorem tm_resolve(ρ:Operand->Value)(c:Call)(hc:okOp P (.call c)=true)(t:TypeId):Tm (ofF P F) (maskF P E) (clL P E) (resolve ρ c t) fun d=>TgtOk d.target:=by
 unfold resolve
 obtain⟨callee,az,ats⟩:=c
 cases callee with
 | builtin b=>exact tm_pure hc
 | invoke r n=>exact tm_pure trivial
 | value f=>exact tm_ofValue _ _
theorem okType_ne{t:TypeId}(h:okType P t=true):P.underlying t≠some .unsafePointer:=fun e=>by simp[okType,e]at h
theorem tm_makeChan(t:TypeId):Tm (ofF P F) (maskF P E) (clL P E) (Instr.makeChan t (.int .i64 0)) fun _=>True:=by
 unfold Instr.makeChan
 refine Tm.bind (Q:=fun x=>x=0) (tm_pure rfl) fun n hn=>?_
 subst hn
 refine Tm.bind (Q:=fun _=>True) TmC.out fun x _=>?_
 split
 ·refine Tm.bind (Q:=fun _=>True) TmC.out fun y _=>?_
  split
  ·exact Tm.bind (Q:=fun _=>True) TmC.out fun _ _=>Tm.bind (Q:=fun _=>True) (tm_newObj _ ⟨rfl,rfl,rfl,rfl,rfl,rfl⟩) fun _ _=>tm_pure trivial
  ·exact Tm.bind (Q:=fun _=>True) (tm_newObj _ ⟨rfl,rfl,rfl,rfl,rfl,rfl⟩) fun _ _=>tm_pure trivial
 ·exact tm_stuck
theorem tn_execOp(hE:Ext P E)(hA:Alike P F E D)(ρ:Operand->Value)(hρ:∀ v,ρ (.const v)=v)(o:Oper)(ho:okOp P o.op=true):TN P F E (execOp ρ o):=by
 unfold execOp
 cases h:o.op <;> (rw[h]at ho) <;> first | (exfalso;simp[okOp]at ho;done) | exact tn_ret | exact tn_value TmC.out | exact tn_unit TmC.out | skip
 case pick=>exact TN.bind (Q:=fun _=>True) TmC.out fun _ _=>tn_ret
 case nilCheck=>
  dsimp only
  repeat (first | exact tn_ret | exact tn_panic | exact TN.ofTm (tm_unsup trivial) | with_reducible refine tn_program rfl ?_ | with_reducible refine TN.bind (Q:=fun _=>True) TmC.out fun _ _=>?_ | split | dsimp only)
 case binOp=>exact tn_value (Tm.bind (Q:=fun _=>True) TmC.out fun _ _=>TmC.out)
 case convert=>
  simp only[okOp,Bool.and_eq_true]at ho
  exact tn_value (tm_convert (okType_ne ho.1) (okType_ne ho.2))
 case makeChan t s=>
  obtain rfl:=zeroOp_eq ho
  exact tn_value (by rw[hρ];exact tm_makeChan t)
 case call c=>exact TN.bind (tm_resolve ρ c ho _) fun d hd=>tn_invoke hE hA _ hd _
end
section
variable {P:Program} {F:Array Func} {E:List String} {α β:Type} {Q:α->Prop} {R:β->Prop}
theorem tm_loopN{l:Nat}{f:Loop->Sem β}(h:∀ r,clL P E r->TmN (ofF P F) (maskF P E) (clL P E) l (f r) R):Tm (ofF P F) (maskF P E) (clL P E) (Instr.getLoop l >>= f) R:=by
 have e:(Instr.getLoop l >>= f)=(getObj l >>= fun o=>(match o with | .loop r=>f r | _=>stuck "range over a function: no such loop")):=by
  show Sem.getObj l _=Sem.getObj l _
  congr 1
  funext o
  cases o <;> rfl
 rw[e]
 refine tm_get (fun o ho _=>⟨fun hg=>?_,fun hg=>?_⟩) ⟨_,rfl,trivial⟩ fun _ _=>⟨_,rfl,trivial⟩
 ·cases o <;> first | exact h _ ho | exact tm_stuck.toN
 ·cases o <;> first | exact absurd trivial hg | exact tm_stuck
theorem tm_enterLoop(fn:FuncId)(tmps:Array Value)(params:Array Tmp)(assign body:Code)(ha:okCode P assign=true)(hb:okCode P body=true)(hf:∃ f,P.funcs[fn]?=some f/\okFunc P E f=true)(around:Option Nat):
  Tm (ofF P F) (maskF P E) (clL P E) (Instr.enterLoop fn tmps params assign body around) fun x=>x.2=[]\/∃ r,x.2=[{target:=.collected r,args:=#[]}]:=by
 unfold Instr.enterLoop
 have hl:∀ d,CObj (clL P E) (.loop {state:=.ready,pending:=none,fn,tmps,params,assign,body,defers:=d}):=fun d=>⟨ha,hb,(fun j hj=>by cases hj),hf⟩
 cases around with
 | some l=>
   dsimp only
   refine (tm_getLoop l).bind fun r _=>tm_pureBind ?_
   exact (tm_newObj _ (hl _)).bind fun _ _=>tm_pure (.inl rfl)
 | none=>
   dsimp only
   refine (tm_newObj (.deferred (some [])) (by rfl)).bind fun r _=>tm_pureBind ?_
   exact (tm_newObj _ (hl _)).bind fun _ _=>tm_pure (.inr ⟨r,rfl⟩)
theorem tm_beginRound(l:Nat):Tm (ofF P F) (maskF P E) (clL P E) (Instr.beginRound l) fun _=>True:=by
 unfold Instr.beginRound
 refine tm_loopN fun r hr=>?_
 refine TmN.bindN (Q:=fun _=>True) (tmN_set (o:=.loop {r with state:=.busy}) ⟨hr.1,hr.2.1,hr.2.2⟩ trivial) fun _ _=>?_
 split <;> first | exact Tm.toN (tm_pure trivial) | exact Tm.toN (tm_runtimePanic _)
theorem tm_endRound(l:Nat)(j:Option Code)(hj:∀ c,j=some c->okCode P c=true):Tm (ofF P F) (maskF P E) (clL P E) (Instr.endRound l j) fun _=>True:=by
 unfold Instr.endRound
 refine tm_loopN fun r hr=>?_
 exact TmN.bindN (Q:=fun _=>True) (tmN_set (o:=.loop {r with state:=if j.isNone then .ready else .done,pending:=j}) ⟨hr.1,hr.2.1,hj,hr.2.2.2⟩ trivial) fun _ _=>Tm.toN (tm_pure trivial)
theorem tm_endLoop(l:Nat):Tm (ofF P F) (maskF P E) (clL P E) (Instr.endLoop l) fun j=>∀ c,j=some c->okCode P c=true:=by
 unfold Instr.endLoop
 refine tm_loopN fun r hr=>?_
 have h2:TmN (ofF P F) (maskF P E) (clL P E) l (do setObj l (.loop {r with state:=.exhausted});pure r.pending) fun j=>∀ c,j=some c->okCode P c=true:=
  TmN.bindN (Q:=fun _=>True) (tmN_set (o:=.loop {r with state:=.exhausted}) ⟨hr.1,hr.2.1,hr.2.2⟩ trivial) fun _ _=>Tm.toN (tm_pure hr.2.2.1)
 dsimp only
 split
 ·exact TmN.bindN (Q:=fun _=>True) (Tm.toN (tm_runtimePanic _)) fun _ _=>h2
 ·exact h2
theorem tm_takeDeferred(b:Nat):Tm (ofF P F) (maskF P E) (clL P E) (Instr.takeDeferred b) fun ds=>ds=[]:=by
 unfold Instr.takeDeferred
 refine tm_get (fun o ho hn=>⟨fun hg=>?_,fun hg=>?_⟩) ⟨_,rfl,trivial⟩ fun _ _=>⟨_,rfl,trivial⟩
 ·clear hn
  cases o <;> first | exact tm_stuck.toN | skip
  rename_i ds
  cases ds with
  | none=>exact tm_stuck.toN
  | some ds=>
    obtain rfl:ds=[]:=ho
    exact TmN.bindN (Q:=fun _=>True) (tmN_set trivial trivial) fun _ _=>Tm.toN (tm_pure rfl)
 ·cases o <;> first | exact absurd trivial hg | exact tm_stuck
theorem tm_results(fn:Func)(tmps:Array Value):Tm (ofF P F) (maskF P E) (clL P E) (results fn tmps) fun _=>True:=by
 unfold results
 refine Tm.bind (Q:=fun _=>True) (tm_mapA fun v=>?_) fun _ _=>tm_pure trivial
 split
 ·exact tm_pure trivial
 ·exact Tm.bind (Q:=fun _=>True) TmC.out fun _ _=>TmC.out
end
end
section
open Go
set_option maxHeartbeats 8000000
def ItemOk(P:Program):Item->Prop
 | .code c | .inLoop c | .inScope c=>okCode P c=true
 | .inRegion ops _=>∀ o∈ops.toList,okOp P o.op=true
 | .inBlock _ | .inRangeFunc _ | .endRangeFunc _ | .beginRound=>True
 | .call .. | .extern ..=>False
structure FrOk(P:Program)(E:List String)(fr:Frame):Prop where
 todo:∀ i∈fr.todo,ItemOk P i
 defs:∀ d∈fr.defers,∃ r,d={target:=.collected r,args:=#[]}
 kind:fr.kind=.normal
 fn:∃ fn,P.funcs[fr.fn]?=some fn/\okFunc P E fn=true
def mkG(fr:Frame)(cs:List Frame):Goroutine:={frame:=fr,callers:=cs,status:=.running,dying:=none}
abbrev Stp:=Program->List Frame->World->GStep
def stp(fr:Frame)(frs:List Frame):Stp:=fun X cs w=>stepG X true (mkG fr (frs ++ cs)) w
def CStep(ST:Stp)(X:Program)(u:World)(fr1:Frame)(frs1:List Frame)(u1:World):Prop:=
 ∃ n,u1.drawn=u.drawn+n/\∀ (cs:List Frame) (J:Nat->Prop) (W:World) (τ:Nat->Question->Nat) (d:Nat),Sim J u W->(∀ i,i<n->∀ q,τ (d+i) q=u.tape (u.drawn+i) q)->
   ∃ W1 es,ST X cs (onT W τ d)=.go (mkG fr1 (frs1 ++ cs)) (onT W1 τ (d+n)) es/\Sim J u1 W1/\W1.os=W.os/\W1.output=W.output/\(∀ k,J k->W1.heap[k]?=W.heap[k]?)/\W.heap.size<=W1.heap.size/\∀ e∈es,EvOk W1.heap.size e
def Lost(ST:Stp)(X:Program)(u:World):Prop:=∀ cs,∃ o w es,ST X cs u=.ended o w es
def Lasts(l l1:List Frame):Prop:=l1.getLast?.map (fun b=>(b.fn,b.roundOf))=l.getLast?.map fun b=>(b.fn,b.roundOf)
def RStep(P:Program)(F:Array Func)(D:FuncId)(ST:Stp)(u:World)(fr1:Frame)(frs1:List Frame)(u1:World):Prop:=
 CStep ST (ofF P F) u fr1 frs1 u1\/∃ args,fr1=Frame.enter P D args .normal/\CStep ST (ofF P F) u (Frame.enter (ofF P F) D args .normal) frs1 u1
def OneStep(P:Program)(F:Array Func)(E:List String)(D:FuncId)(ST:Stp)(l:List Frame)(u:World):Prop:=
 Lost ST (ofF P (maskF P E)) u\/∃ fr1 frs1 u1,Kpt (clL P E) u u1/\Lasts l (fr1 :: frs1)/\CStep ST (ofF P (maskF P E)) u fr1 frs1 u1/\
  ((∃ f args,fr1=Frame.enter (ofF P (maskF P E)) f args .normal/\∃ fn,P.funcs[f]?=some fn/\okFunc P E fn=false)\/(CStep ST P u fr1 frs1 u1/\FrOk P E fr1/\(∀ x∈frs1,FrOk P E x)/\RStep P F D ST u fr1 frs1 u1))
section
variable {α:Type} {P X:Program} {F:Array Func} {D:FuncId} {E:List String} {ST:Stp} {l:List Frame} {fr fr1:Frame} {frs frs1:List Frame} {u u1:World}
theorem mem_seen{p:Program}{fn:FuncId}{es:Array Event}{e:Event}(h:e∈seen p fn es):e∈es:=by
 unfold seen at h
 refine Array.foldl_induction (motive:=fun _ (x:Bool×Array Event)=>∀ e∈x.2,e∈es) ?_ ?_ e h
 ·intro e he
  simp at he
 ·intro i x hx e he
  dsimp only at he
  split at he
  ·exact hx e he
  ·dsimp only at he
   split at he
   ·exact hx e he
   ·rcases Array.mem_push.1 he with h | h
    ·exact hx e h
    ·rw[h]
     exact Array.getElem_mem _
theorem Lasts.same{a b:Frame}(h1:b.fn=a.fn)(h2:b.roundOf=a.roundOf)(l:List Frame):Lasts (a :: l) (b :: l):=by
 unfold Lasts
 cases l with
 | nil=>simp [h1,h2]
 | cons x l=>simp [List.getLast?_cons_cons]
theorem Lasts.push(a b:Frame)(l:List Frame):Lasts (a :: l) (b :: a :: l):=by
 unfold Lasts
 rw[List.getLast?_cons_cons]
theorem CStep.turn(h:∀ cs w,ST X cs w=.go (mkG fr1 (frs1 ++ cs)) w):CStep ST X u fr1 frs1 u:=
 ⟨0,rfl,fun cs J W τ d hS _=>⟨W,#[],h cs _,hS,rfl,rfl,fun _ _=>rfl,Nat.le_refl _,fun e he=>by simp at he⟩⟩
theorem OneStep.turn(hc:CleanH (clL P E) u)(h:∀ X cs w,ST X cs w=.go (mkG fr1 (frs1 ++ cs)) w)(h1:FrOk P E fr1)(h2:∀ x∈frs1,FrOk P E x)(hl:Lasts l (fr1 :: frs1)):OneStep P F E D ST l u:=
 .inr ⟨fr1,frs1,u,⟨rfl,rfl,rfl,Nat.le_refl _,hc⟩,hl,.turn (h _),.inr ⟨.turn (h _),h1,h2,.inl (.turn (h _))⟩⟩
theorem CStep.ofMir{s:Sem α}{v:α}(m:Mir X s u u1 (.ok v u1))(h:∀ cs w w1 es,s.runT X w #[]=(.ok v w1,es)->∃ es',ST X cs w=.go (mkG fr1 (frs1 ++ cs)) w1 es'/\∀ e∈es',e∈es):CStep ST X u fr1 frs1 u1:=by
 obtain⟨n,hd,hm⟩:=m.out
 refine⟨n,hd,fun cs J W τ d hS hτ=>?_⟩
 obtain⟨W1,es1,e,hS1,ho,hu,hJ,hz,hev⟩:=hm J W τ d #[] hS hτ
 obtain⟨es',e2,hsub⟩:=h cs _ _ _ e
 exact⟨W1,es',e2,hS1,ho,hu,hJ,hz,fun e he=>hev e (by simpa using hsub e he)⟩
theorem CStep.ofMirP{s:Sem α}{v:Value}(m:Mir X s u u1 (.halt (.panic v) u1))(h:∀ cs w w1 es,s.runT X w #[]=(.halt (.panic v) w1,es)->∃ es',ST X cs w=.go (mkG fr1 (frs1 ++ cs)) w1 es'/\∀ e∈es',e∈es):CStep ST X u fr1 frs1 u1:=by
 obtain⟨n,hd,hm⟩:=m.out
 refine⟨n,hd,fun cs J W τ d hS hτ=>?_⟩
 obtain⟨W1,es1,e,hS1,ho,hu,hJ,hz,hev⟩:=hm J W τ d #[] hS hτ
 obtain⟨es',e2,hsub⟩:=h cs _ _ _ e
 exact⟨W1,es',e2,hS1,ho,hu,hJ,hz,fun e he=>hev e (by simpa using hsub e he)⟩
theorem FrOk.finish(h:FrOk P E fr)(v:Value):FrOk P E (fr.finish v):=by
 obtain⟨h1,h2,h3,h4⟩:=h
 unfold Frame.finish
 split
 ·rename_i ops i rest k e
  rw[e]at h1
  refine⟨fun x hx=>?_,h2,h3,h4⟩
  rcases List.mem_cons.1 hx with rfl | hx
  ·exact h1 (.inRegion ops (i :: rest)) List.mem_cons_self
  ·exact h1 x (List.mem_cons_of_mem _ hx)
 ·rename_i l k e
  rw[e]at h1
  refine⟨fun x hx=>?_,h2,h3,h4⟩
  rcases List.mem_cons.1 hx with rfl | hx
  ·trivial
  ·exact h1 x (List.mem_cons_of_mem _ hx)
 ·rename_i k e
  rw[e]at h1
  exact⟨fun x hx=>h1 x (List.mem_cons_of_mem _ hx),h2,h3,h4⟩
 ·rename_i e
  rw[e]at h1
  exact (h1 _ List.mem_cons_self).elim
 ·rename_i e
  rw[e]at h1
  exact (h1 _ List.mem_cons_self).elim
 ·exact⟨h1,h2,h3,h4⟩
theorem finish_fn(fr:Frame)(v:Value):(fr.finish v).fn=fr.fn/\(fr.finish v).roundOf=fr.roundOf:=by
 unfold Frame.finish
 split <;> exact⟨rfl,rfl⟩
theorem raise_fn(fr:Frame)(vs:List PanicEntry):(fr.raise vs).fn=fr.fn/\(fr.raise vs).roundOf=fr.roundOf:=by
 unfold Frame.raise
 split <;> exact⟨rfl,rfl⟩
theorem FrOk.raise(h:FrOk P E fr)(vs:List PanicEntry):FrOk P E (fr.raise vs):=by
 obtain⟨h1,h2,h3,h4⟩:=h
 unfold Frame.raise
 split <;> exact⟨h1,h2,h3,h4⟩
theorem enter_eq{f:FuncId}{fn:Func}(hf:P.funcs[f]?=some fn)(hk:okFunc P E fn=true)(args:Array Value)(k:CallKind):Frame.enter (ofF P (maskF P E)) f args k=Frame.enter P f args k:=by
 have hm:(ofF P (maskF P E)).funcs[f]?=_:=maskF_get (P:=P) (E:=E) f
 rw[hf,Option.map_some,if_pos hk]at hm
 unfold Frame.enter
 dsimp only
 rw[hf,hm]
theorem FrOk.enter{f:FuncId}{fn:Func}(hf:P.funcs[f]?=some fn)(hk:okFunc P E fn=true)(args:Array Value):FrOk P E (Frame.enter P f args .normal):=by
 refine⟨fun i hi=>?_,fun d hd=>by simp[Frame.enter]at hd,rfl,fn,hf,hk⟩
 simp only[Frame.enter,hf,Option.bind_some,List.mem_singleton]at hi
 subst hi
 show okCode P _=true
 cases hb:fn.body with
 | none=>rfl
 | some c=>
   unfold okFunc at hk
   rw[hb]at hk
   exact hk
theorem FrOk.round{f:FuncId}(hf:∃ fn,P.funcs[f]?=some fn/\okFunc P E fn=true){a b:Code}(ha:okCode P a=true)(hb:okCode P b=true)(l:Nat)(t:Array Value):FrOk P E (Frame.round l f t a b .normal):=by
 refine⟨fun i hi=>?_,fun d hd=>by simp[Frame.round]at hd,rfl,hf⟩
 simp only[Frame.round,List.mem_cons,List.not_mem_nil,or_false]at hi
 rcases hi with rfl | rfl | rfl
 ·exact ha
 ·trivial
 ·exact hb
theorem runT_fst{α:Type}(p:Program)(s:Sem α)(w:World)(es:Array Event):(s.runT p w es).1=s.run p w:=by simp
theorem apply_one{s:Sem Next}(hA:Alike P F E D)(hs:TN P P.funcs E s)(hr:TN P F E s)(hf:FrOk P E fr)(hfs:∀ x∈frs,FrOk P E x)(hc:CleanH (clL P E) u)(hst:∀ X cs w,ST X cs w=stepG.apply X true fr (frs ++ cs) none s w):OneStep P F E D ST (fr :: frs) u:=by
 have h1:=TameS.sound (X:=ofF P (maskF P E)) (own:=True) (.inl ⟨rfl,trivial⟩) (hs fun _=>False) u hc fun k h=>h.elim
 have h2:=TameS.sound (X:=P) (own:=False) (.inr ⟨rfl,id⟩) (hs fun _=>False) u hc fun k h=>h.elim
 have h3:=TameS.sound (X:=ofF P F) (own:=False) (.inr ⟨rfl,id⟩) (hr fun _=>False) u hc fun k h=>h.elim
 have he:(fr.kind == .early)=false:=by rw[hf.kind];rfl
 cases hrn:s.run (ofF P (maskF P E)) u with
 | ok v u1=>
   rw[hrn]at h1 h2 h3
   obtain⟨⟨N',hq,_⟩,hK,m1⟩:=h1
   obtain⟨_,_,m2⟩:=h2
   obtain⟨_,_,m3⟩:=h3
   have m1:=m1.resolve_left fun h=>h.1 trivial
   have m2:BadN P E v\/Mir P s u u1 (.ok v u1):=m2.imp And.right id
   have m3:BadN P E v\/Mir (ofF P F) s u u1 (.ok v u1):=m3.imp And.right id
   have hq:=hq.2
   cases v with
   | value x=>
     have m2:=m2.resolve_left id
     have m3:=m3.resolve_left id
     have go:∀ X,Mir X s u u1 (.ok (.value x) u1)->CStep ST X u (fr.finish x) frs u1:=fun X m=>CStep.ofMir m fun cs w w1 es e=>⟨_,by rw[hst,stepG.apply];simp only[if_true,e,he];rfl,fun e he=>mem_seen (by simpa using he)⟩
     exact .inr ⟨_,frs,u1,hK,.same (finish_fn _ _).1 (finish_fn _ _).2 _,go _ m1,.inr ⟨go _ m2,hf.finish x,hfs,.inl (go _ m3)⟩⟩
   | skip=>
     have m2:=m2.resolve_left id
     have m3:=m3.resolve_left id
     have go:∀ X,Mir X s u u1 (.ok .skip u1)->CStep ST X u (fr.finish undef) frs u1:=fun X m=>CStep.ofMir m fun cs w w1 es e=>⟨_,by rw[hst,stepG.apply];simp only[if_true,e,he];rfl,fun e he=>mem_seen (by simpa using he)⟩
     exact .inr ⟨_,frs,u1,hK,.same (finish_fn _ _).1 (finish_fn _ _).2 _,go _ m1,.inr ⟨go _ m2,hf.finish undef,hfs,.inl (go _ m3)⟩⟩
   | enter f args=>
     have go:∀ X,Mir X s u u1 (.ok (.enter f args) u1)->CStep ST X u (Frame.enter X f args .normal) (fr :: frs) u1:=fun X m=>CStep.ofMir m fun cs w w1 es e=>⟨seen X fr.fn es ++ #[],by
      rw[hst,stepG.apply]
      simp only[if_true,e,he,Bool.false_eq_true,if_false]
      split
      ·rename_i e2
       have hx:=hf.todo _ (by rw[e2];exact List.mem_cons_self)
       exact hx.elim
      ·rfl,fun e he=>mem_seen (by simpa using he)⟩
     obtain⟨fn,hfn⟩:=hq
     cases ho:okFunc P E fn with
     | false=>exact .inr ⟨_,_,u1,hK,.push _ _ _,go _ m1,.inl ⟨f,args,rfl,fn,hfn,ho⟩⟩
     | true=>
       have m2:=m2.resolve_left fun ⟨fn',h1,h2⟩=>by
        rw[hfn]at h1
        obtain rfl:=Option.some.inj h1
        rw[ho]at h2;cases h2
       have m3:=m3.resolve_left fun ⟨fn',h1,h2⟩=>by
        rw[hfn]at h1
        obtain rfl:=Option.some.inj h1
        rw[ho]at h2;cases h2
       refine .inr ⟨_,_,u1,hK,.push _ _ _,go _ m1,.inr ⟨?_,?_,fun x hx=>?_,?_⟩⟩
       ·rw[enter_eq hfn ho];exact go _ m2
       ·rw[enter_eq hfn ho];exact FrOk.enter hfn ho args
       ·rcases List.mem_cons.1 hx with rfl | hx
        ·exact hf
        ·exact hfs x hx
       ·rw[enter_eq hfn ho]
        by_cases hD:f=D
        ·subst hD
         exact .inr ⟨args,rfl,go _ m3⟩
        ·have hg:=go _ m3
         rw[show Frame.enter (ofF P F) f args .normal=Frame.enter P f args .normal from by unfold Frame.enter;dsimp only;rw[hA.same f hD]]at hg
         exact .inl hg
   | round l f t a b=>
     have m2:=m2.resolve_left id
     have m3:=m3.resolve_left id
     have go:∀ X,Mir X s u u1 (.ok (.round l f t a b) u1)->CStep ST X u (Frame.round l f t a b .normal) (fr :: frs) u1:=fun X m=>CStep.ofMir m fun cs w w1 es e=>⟨_,by rw[hst,stepG.apply];simp only[if_true,e,he];rfl,fun e he=>mem_seen (by simpa using he)⟩
     refine .inr ⟨_,_,u1,hK,.push _ _ _,go _ m1,.inr ⟨go _ m2,FrOk.round hq.2.2 hq.1 hq.2.1 l t,fun x hx=>?_,.inl (go _ m3)⟩⟩
     rcases List.mem_cons.1 hx with rfl | hx
     ·exact hf
     ·exact hfs x hx
   | _=>exact hq.elim
 | halt h u1=>
   rw[hrn]at h1 h2 h3
   by_cases hp:∃ v,h=.panic v
   ·obtain⟨v,rfl⟩:=hp
    obtain⟨hK,m1⟩:=h1
    obtain⟨_,m2⟩:=h2
    obtain⟨_,m3⟩:=h3
    have go:∀ X,Mir X s u u1 (.halt (.panic v) u1)->CStep ST X u (fr.raise [{v,recovered:=false}]) frs u1:=fun X m=>CStep.ofMirP m fun cs w w1 es e=>⟨_,by rw[hst,stepG.apply];simp only[if_true,e,he];rfl,fun e he=>mem_seen (by simpa using he)⟩
    exact .inr ⟨_,frs,u1,hK,.same (raise_fn _ _).1 (raise_fn _ _).2 _,go _ m1,.inr ⟨go _ m2,hf.raise _,hfs,.inl (go _ m3)⟩⟩
   ·have hE:Ends h:=by cases h <;> first | exact h1 | exact absurd ⟨_,rfl⟩ hp
    refine .inl fun cs=>?_
    rw[hst,stepG.apply]
    have e1:=runT_fst (ofF P (maskF P E)) s u #[]
    cases hrt:s.runT (ofF P (maskF P E)) u #[]with
    | mk r es2=>
      rw[hrt,hrn]at e1
      subst e1
      simp only[if_true,hrt,he]
      cases h <;> first | exact hE.elim | exact⟨_,_,_,rfl⟩ | skip
      rename_i us
      cases us <;> first | exact hE.elim | exact⟨_,_,_,rfl⟩
end
end
section
open Go
section
variable {P:Program} {FR:Array Func} {D:FuncId} {E:List String} {fr:Frame} {frs:List Frame} {u:World}
theorem exitTo_ok{id:Nat}:∀ {k k':List Item},exitTo id k=some k'->(∀ i∈k,ItemOk P i)->∀ i∈k',ItemOk P i
 | [],_,h,_=>by simp[exitTo]at h
 | a :: k,k',h,hk=>by
   have hk2:∀ i∈k,ItemOk P i:=fun i hi=>hk i (List.mem_cons_of_mem _ hi)
   unfold exitTo at h
   split at h
   ·rename_i e
    injection e with e1 e2
    subst e2
    split at h
    ·obtain rfl:=Option.some.inj h
     exact hk2
    ·exact exitTo_ok h hk2
   ·rename_i e
    injection e with e1 e2
    subst e2
    exact exitTo_ok h hk2
   ·rename_i e
    cases e
theorem findLabel_ok{l:Nat}:∀ {c r:Code},findLabel c l=some r->okCode P c=true->okCode P r=true
 | .seq a b,r,h,hc=>by
   simp only[okCode,Bool.and_eq_true]at hc
   unfold findLabel at h
   cases ha:findLabel a l with
   | some x=>
     rw[ha]at h
     obtain rfl:=Option.some.inj h
     simp only[okCode,Bool.and_eq_true]
     exact⟨findLabel_ok ha hc.1,hc.2⟩
   | none=>
     rw[ha]at h
     exact findLabel_ok h hc.2
 | .label l',r,h,hc=>by
   unfold findLabel at h
   split at h
   ·obtain rfl:=Option.some.inj h
    rfl
   ·cases h
 | .skip,_,h,_ | .region ..,_,h,_ | .cond ..,_,h,_ | .block ..,_,h,_ | .loop ..,_,h,_ | .rangeFunc ..,_,h,_ | .exit ..,_,h,_ | .scope ..,_,h,_ | .goto ..,_,h,_ | .ret,_,h,_ | .refuse ..,_,h,_=>by simp[findLabel]at h
theorem gotoIn_ok{l:Nat}:∀ {k k':List Item},gotoIn l k=some k'->(∀ i∈k,ItemOk P i)->∀ i∈k',ItemOk P i
 | [],_,h,_=>by simp[gotoIn]at h
 | a :: k,k',h,hk=>by
   have hk2:∀ i∈k,ItemOk P i:=fun i hi=>hk i (List.mem_cons_of_mem _ hi)
   unfold gotoIn at h
   split at h
   ·rename_i body k2 e
    injection e with e1 e2
    subst e1 e2
    split at h
    ·rename_i rest hr
     obtain rfl:=Option.some.inj h
     intro i hi
     rcases List.mem_cons.1 hi with rfl | hi
     ·exact findLabel_ok hr (hk (.inScope body) List.mem_cons_self)
     ·exact hk i hi
    ·exact gotoIn_ok h hk2
   ·rename_i e
    injection e with e1 e2
    subst e2
    exact gotoIn_ok h hk2
   ·rename_i e
    cases e
theorem FrOk.to(h:FrOk P E fr){todo:List Item}(ht:∀ i∈todo,ItemOk P i):FrOk P E {fr with todo}:=⟨ht,h.defs,h.kind,h.fn⟩
theorem to_one(hf:FrOk P E fr)(hfs:∀ x∈frs,FrOk P E x)(hc:CleanH (clL P E) u){todo:List Item}(ht:∀ i∈todo,ItemOk P i){ST:Stp}(h:∀ X cs w,ST X cs w=.go (mkG {fr with todo} (frs ++ cs)) w):OneStep P FR E D ST (fr :: frs) u:=
 OneStep.turn hc h (hf.to ht) hfs (Lasts.same (a:=fr) (by rfl) (by rfl) _)
theorem lost_of{ST:Stp}{l:List Frame}{u:World}(h:∀ cs,∃ o w es,ST (ofF P (maskF P E)) cs u=.ended o w es):OneStep P FR E D ST l u:=.inl h
theorem sem_one{α:Type}{Q:α->Prop}{s:Sem α}(hs:∀ F,Tm (ofF P F) (maskF P E) (clL P E) s Q){ST:Stp}{l:List Frame}(hc:CleanH (clL P E) u)(F:α->Frame)(G:Value->Frame)(frs1:List Frame)
  (hF:∀ v,Q v->FrOk P E (F v)/\Lasts l (F v :: frs1)) (hG:∀ v,FrOk P E (G v)/\Lasts l (G v :: frs1)) (hfs:∀ x∈frs1,FrOk P E x)
  (h1:∀ X cs w v w1 es,Q v->s.runT X w #[]=(.ok v w1,es)->∃ es',ST X cs w=.go (mkG (F v) (frs1 ++ cs)) w1 es'/\∀ e∈es',e∈es)
  (h2:(∀ X cs w v w1 es,s.runT X w #[]=(.halt (.panic v) w1,es)->∃ es',ST X cs w=.go (mkG (G v) (frs1 ++ cs)) w1 es'/\∀ e∈es',e∈es)\/(∀ cs w v w1 es,s.runT (ofF P (maskF P E)) w #[]=(.halt (.panic v) w1,es)->∃ o w' es',ST (ofF P (maskF P E)) cs w=.ended o w' es'))
  (h3:∀ cs w h w1 es,(∀ v,h≠.panic v)->s.runT (ofF P (maskF P E)) w #[]=(.halt h w1,es)->∃ o w' es',ST (ofF P (maskF P E)) cs w=.ended o w' es'):OneStep P FR E D ST l u:=by
 have s1:=TameS.sound (X:=ofF P (maskF P E)) (own:=True) (.inl ⟨rfl,trivial⟩) (hs P.funcs fun _=>False) u hc fun k h=>h.elim
 have s2:=TameS.sound (X:=P) (own:=False) (.inr ⟨rfl,id⟩) (hs P.funcs fun _=>False) u hc fun k h=>h.elim
 have s3:=TameS.sound (X:=ofF P FR) (own:=False) (.inr ⟨rfl,id⟩) (hs FR fun _=>False) u hc fun k h=>h.elim
 have e1:=runT_fst (ofF P (maskF P E)) s u #[]
 cases hrun:s.run (ofF P (maskF P E)) u with
 | ok v u1=>
   rw[hrun]at s1 s2 s3
   have m1:=s1.2.2.resolve_left fun h=>h.2
   have m2:=s2.2.2.resolve_left fun h=>h.2
   have m3:=s3.2.2.resolve_left fun h=>h.2
   obtain⟨N',hq,_⟩:=s1.1
   have go:∀ X,Mir X s u u1 (.ok v u1)->CStep ST X u (F v) frs1 u1:=fun X m=>CStep.ofMir m fun cs w w1 es e=>h1 X cs w v w1 es hq.2 e
   exact .inr ⟨_,frs1,u1,s1.2.1,(hF v hq.2).2,go _ m1,.inr ⟨go _ m2,(hF v hq.2).1,hfs,.inl (go _ m3)⟩⟩
 | halt h u1=>
   rw[hrun]at s1 s2 s3 e1
   cases hrt:s.runT (ofF P (maskF P E)) u #[]with
   | mk r es2=>
     rw[hrt]at e1
     subst e1
     by_cases hp:∃ v,h=.panic v
     ·obtain⟨v,rfl⟩:=hp
      rcases h2 with h2 | h2
      ·have go:∀ X,Mir X s u u1 (.halt (.panic v) u1)->CStep ST X u (G v) frs1 u1:=fun X m=>CStep.ofMirP m fun cs w w1 es e=>h2 X cs w v w1 es e
       exact .inr ⟨_,frs1,u1,s1.1,(hG v).2,go _ s1.2,.inr ⟨go _ s2.2,(hG v).1,hfs,.inl (go _ s3.2)⟩⟩
      ·exact lost_of fun cs=>h2 cs u v u1 es2 hrt
     ·exact lost_of fun cs=>h3 cs u h u1 es2 (fun v e=>hp ⟨v,e⟩) hrt
theorem leave_one(hf:FrOk P E fr)(hfs:∀ x∈frs,FrOk P E x)(hc:CleanH (clL P E) u)(hb:frs=[]->fr.roundOf=none)(jump:Option Code)(hj:∀ c,jump=some c->okCode P c=true){ST:Stp}
  (h0:∀ X cs w,fr.roundOf=none->(jump=none\/jump=some .ret)->ST X cs w=.go (mkG {fr with mode:=.returning} (frs ++ cs)) w)
  (h1:∀ cs w,fr.roundOf=none->¬(jump=none\/jump=some .ret)->∃ o w' es,ST (ofF P (maskF P E)) cs w=.ended o w' es)
  (h2:∀ X cs w l,fr.roundOf=some l->ST X cs w=(let (r,es):=(Instr.endRound l jump).runT X w #[]
     GStep.after (seen X fr.fn es) <| match r with
     | .ok v w=>doReturn X true fr (frs ++ cs) none v w
     | .halt _ w=>.ended (.stuck "range over a function: no such loop" (fr.pos X)) w)):OneStep P FR E D ST (fr :: frs) u:=by
 cases hr:fr.roundOf with
 | none=>
   by_cases hjj:jump=none\/jump=some .ret
   ·exact OneStep.turn hc (fun X cs w=>h0 X cs w hr hjj) ⟨hf.todo,hf.defs,hf.kind,hf.fn⟩ hfs (Lasts.same (a:=fr) (by rfl) (by rfl) _)
   ·exact lost_of fun cs=>h1 cs u hr hjj
 | some l=>
   cases frs with
   | nil=>rw [hb rfl]at hr;cases hr
   | cons c frs=>
     have hcf:=hfs c List.mem_cons_self
     have hl:∀ v,Lasts (fr :: c :: frs) (c.finish v :: frs):=fun v=>by
      unfold Lasts
      rw[List.getLast?_cons_cons]
      exact Lasts.same (finish_fn _ _).1 (finish_fn _ _).2 _
     refine sem_one (fun _=>tm_endRound l jump hj) hc (fun v=>c.finish v) (fun v=>c.finish v) frs (fun v _=>⟨hcf.finish v,hl v⟩) (fun v=>⟨hcf.finish v,hl v⟩) (fun x hx=>hfs x (List.mem_cons_of_mem _ hx)) (fun X cs w v w1 es _ e=>⟨seen X fr.fn es ++ #[],?_,fun e he=>mem_seen (by simpa using he)⟩) (.inr fun cs w v w1 es e=>⟨_,_,_,by rw[h2 _ cs w l hr,e];rfl⟩) fun cs w h w1 es _ e=>⟨_,_,_,by rw[h2 _ cs w l hr,e];rfl⟩
     rw[h2 X cs w l hr,e]
     simp only[List.cons_append,doReturn,hf.kind]
     rfl
theorem CStep.chain{α:Type}{X:Program}{s:Sem α}{v:α}{u1 u2:World}{fr1:Frame}{frs1:List Frame}{ST ST2:Stp}{fn:FuncId}(m:Mir X s u u1 (.ok v u1))(ht:u1.tape=u.tape)(c:CStep ST2 X u1 fr1 frs1 u2)
  (h:∀ cs w w1 es,s.runT X w #[]=(.ok v w1,es)->ST X cs w=GStep.after (seen X fn es) (ST2 X cs w1)):CStep ST X u fr1 frs1 u2:=by
 obtain⟨n,hd,hm⟩:=m.out
 obtain⟨n2,hd2,hc⟩:=c
 refine⟨n+n2,by omega,fun cs J W τ d hS hτ=>?_⟩
 obtain⟨W1,es1,e,hS1,ho,hu,hJ,hz,hev⟩:=hm J W τ d #[] hS fun i hi q=>hτ i (by omega) q
 obtain⟨W2,es2,e2,hS2,ho2,hu2,hJ2,hz2,hev2⟩:=hc cs J W1 τ (d+n) hS1 fun i hi q=>by
  have:=hτ (n+i) (by omega) q
  rw[ht,hd,Nat.add_assoc,Nat.add_assoc]
  exact this
 refine⟨W2,seen X fn (#[] ++ es1) ++ es2,?_,hS2,ho2.trans ho,hu2.trans hu,fun k hk=>(hJ2 k hk).trans (hJ k hk),Nat.le_trans hz hz2,fun e he=>?_⟩
 ·rw[h cs _ _ _ e,e2,Nat.add_assoc]
  rfl
 ·rcases Array.mem_append.1 he with he | he
  ·exact (hev e (by simpa using mem_seen he)).mono hz2
  ·exact hev2 e he
theorem chain_one{α:Type}{Q:α->Prop}{s:Sem α}(hs:∀ F,Tm (ofF P F) (maskF P E) (clL P E) s Q){ST:Stp}{ST2:α->Stp}{fn:FuncId}{l:List Frame}(hc:CleanH (clL P E) u)
  (h1:∀ X cs w v w1 es,Q v->s.runT X w #[]=(.ok v w1,es)->ST X cs w=GStep.after (seen X fn es) (ST2 v X cs w1))
  (h3:∀ cs w h w1 es,s.runT (ofF P (maskF P E)) w #[]=(.halt h w1,es)->∃ o w' es',ST (ofF P (maskF P E)) cs w=.ended o w' es')
  (hn:∀ v u1,Q v->CleanH (clL P E) u1->OneStep P FR E D (ST2 v) l u1):OneStep P FR E D ST l u:=by
 have s1:=TameS.sound (X:=ofF P (maskF P E)) (own:=True) (.inl ⟨rfl,trivial⟩) (hs P.funcs fun _=>False) u hc fun k h=>h.elim
 have s2:=TameS.sound (X:=P) (own:=False) (.inr ⟨rfl,id⟩) (hs P.funcs fun _=>False) u hc fun k h=>h.elim
 have s3:=TameS.sound (X:=ofF P FR) (own:=False) (.inr ⟨rfl,id⟩) (hs FR fun _=>False) u hc fun k h=>h.elim
 have e1:=runT_fst (ofF P (maskF P E)) s u #[]
 cases hrt:s.runT (ofF P (maskF P E)) u #[]with
 | mk r es2=>
   rw[hrt]at e1
   cases hrun:s.run (ofF P (maskF P E)) u with
   | ok v u1=>
     rw[hrun]at s1 s2 s3 e1
     simp only at e1
     subst e1
     have m1:=s1.2.2.resolve_left fun h=>h.2
     have m2:=s2.2.2.resolve_left fun h=>h.2
     have m3:=s3.2.2.resolve_left fun h=>h.2
     obtain⟨N',hq,_⟩:=s1.1
     have hK:=s1.2.1
     rcases hn v u1 hq.2 hK.clean with hl |⟨fr1,frs1,u2,hK2,hla,c1,hrest⟩
     ·refine .inl fun cs=>?_
      obtain⟨o,w,es,e⟩:=hl cs
      rw[h1 _ cs u v u1 es2 hq.2 hrt,e]
      exact⟨_,_,_,rfl⟩
     ·have hK3:Kpt (clL P E) u u2:=hK2.step hK.tape hK.os hK.output hK.size
      refine .inr ⟨fr1,frs1,u2,hK3,hla,CStep.chain m1 hK.tape c1 fun cs w w1 es e=>h1 _ cs w v w1 es hq.2 e,hrest.imp id fun ⟨c2,h2,h4,h5⟩=>⟨CStep.chain m2 hK.tape c2 fun cs w w1 es e=>h1 _ cs w v w1 es hq.2 e,h2,h4,h5.imp (fun c3=>CStep.chain m3 hK.tape c3 fun cs w w1 es e=>h1 _ cs w v w1 es hq.2 e) fun ⟨args,ea,c3⟩=>⟨args,ea,CStep.chain m3 hK.tape c3 fun cs w w1 es e=>h1 _ cs w v w1 es hq.2 e⟩⟩⟩
   | halt h u1=>
     rw[hrun]at e1
     simp only at e1
     subst e1
     exact lost_of fun cs=>h3 cs u h u1 es2 hrt
end
end
section
open Go
set_option maxHeartbeats 8000000
section
variable {P:Program} {F:Array Func} {D:FuncId} {E:List String} {fr:Frame} {frs:List Frame} {u:World}
theorem exec_stp(hm:fr.mode=.run)(X:Program)(cs:List Frame)(w:World):stp fr frs X cs w=stepG.exec X true true fr (frs ++ cs) none w:=by
 obtain⟨a,b,c,d,m,k,r⟩:=fr
 simp only at hm
 subst hm
 rfl
theorem OneStep.lasts{ST:Stp}{l l':List Frame}(hl:Lasts l l')(h:OneStep P F E D ST l' u):OneStep P F E D ST l u:=by
 rcases h with h |⟨fr1,frs1,u1,h1,h2,h3⟩
 ·exact .inl h
 ·exact .inr ⟨fr1,frs1,u1,h1,Eq.trans h2 hl,h3⟩
theorem run_one(hE:Ext P E)(hA:Alike P F E D)(h0:Alike P P.funcs E D)(hf:FrOk P E fr)(hfs:∀ x∈frs,FrOk P E x)(hc:CleanH (clL P E) u)(hb:frs=[]->fr.roundOf=none)(hm:fr.mode=.run):OneStep P F E D (stp fr frs) (fr :: frs) u:=by
 have hex:=fun X cs w=>exec_stp (frs:=frs) hm X cs w
 have htd:=hf.todo
 have leave:∀ (jump:Option Code),(∀ c,jump=some c->okCode P c=true)->(∀ X cs w,stepG.exec X true true fr (frs ++ cs) none w=(match fr.roundOf with
   | none=>if jump matches none | some .ret then .go {frame:={fr with mode:=.returning},callers:=frs ++ cs,status:=.running,dying:=none} w else .ended (.stuck "exit, goto: no such block or label" (fr.pos X)) w
   | some l=>(let (r,es):=(Instr.endRound l jump).runT X w #[]
     GStep.after (seen X fr.fn es) <| match r with
     | .ok v w=>doReturn X true fr (frs ++ cs) none v w
     | .halt _ w=>.ended (.stuck "range over a function: no such loop" (fr.pos X)) w)))->OneStep P F E D (stp fr frs) (fr :: frs) u:=fun jump hj h=>
  leave_one hf hfs hc hb jump hj (fun X cs w hr hjj=>by rw[hex,h,hr];rcases hjj with rfl | rfl <;> rfl)
   (fun cs w hr hjj=>by
     rw[hex,h,hr]
     rcases jump with _ | c
     ·exact absurd (.inl rfl) hjj
     ·cases c <;> first | exact absurd (.inr rfl) hjj | exact⟨_,_,_,rfl⟩)
   (fun X cs w l hr=>by rw[hex,h,hr];try rfl)
 cases ht:fr.todo with
 | nil=>exact leave none (fun c h=>by cases h) fun X cs w=>by rw[stepG.exec];simp only[ht];rfl
 | cons i k=>
   rw[ht]at htd
   have hi:=htd i List.mem_cons_self
   have hk:∀ x∈k,ItemOk P x:=fun x hx=>htd x (List.mem_cons_of_mem _ hx)
   cases i with
   | code c=>
     cases c with
     | ret=>exact leave (some .ret) (fun c h=>by cases h;rfl) fun X cs w=>by rw[stepG.exec];simp only[ht];rfl
     | skip=>exact to_one hf hfs hc hk fun X cs w=>by rw[hex,stepG.exec];simp only[ht];rfl
     | label l=>exact to_one hf hfs hc hk fun X cs w=>by rw[hex,stepG.exec];simp only[ht];rfl
     | seq a b=>
       simp only[ItemOk,okCode,Bool.and_eq_true]at hi
       exact to_one (todo:=.code a :: .code b :: k) hf hfs hc (fun x hx=>by
        rcases List.mem_cons.1 hx with rfl | hx
        ·exact hi.1
        rcases List.mem_cons.1 hx with rfl | hx
        ·exact hi.2
        ·exact hk x hx) fun X cs w=>by rw[hex,stepG.exec];simp only[ht];rfl
     | cond c a b=>
       simp only[ItemOk,okCode,Bool.and_eq_true]at hi
       by_cases hcb:∃ v,fr.eval c=.bool v
       ·obtain⟨v,hv⟩:=hcb
        exact to_one (todo:=.code (if v then a else b) :: k) hf hfs hc (fun x hx=>by
         rcases List.mem_cons.1 hx with rfl | hx
         ·show okCode P _=true
          split
          ·exact hi.1
          ·exact hi.2
         ·exact hk x hx) fun X cs w=>by rw[hex,stepG.exec];simp only[ht,hv];rfl
       ·refine lost_of fun cs=>?_
        rw[hex,stepG.exec]
        simp only[ht]
        split
        ·rename_i v hv
         exact absurd ⟨v,hv⟩ hcb
        ·exact⟨_,_,_,rfl⟩
     | block id b=>
       exact to_one (todo:=.code b :: .inBlock id :: k) hf hfs hc (fun x hx=>by
        rcases List.mem_cons.1 hx with rfl | hx
        ·exact hi
        rcases List.mem_cons.1 hx with rfl | hx
        ·trivial
        ·exact hk x hx) fun X cs w=>by rw[hex,stepG.exec];simp only[ht];rfl
     | loop b=>
       exact to_one (todo:=.code b :: .inLoop b :: k) hf hfs hc (fun x hx=>by
        rcases List.mem_cons.1 hx with rfl | hx
        ·exact hi
        rcases List.mem_cons.1 hx with rfl | hx
        ·exact hi
        ·exact hk x hx) fun X cs w=>by rw[hex,stepG.exec];simp only[ht];rfl
     | scope b=>
       exact to_one (todo:=.code b :: .inScope b :: k) hf hfs hc (fun x hx=>by
        rcases List.mem_cons.1 hx with rfl | hx
        ·exact hi
        rcases List.mem_cons.1 hx with rfl | hx
        ·exact hi
        ·exact hk x hx) fun X cs w=>by rw[hex,stepG.exec];simp only[ht];rfl
     | exit id=>
       cases he:exitTo id k with
       | some k'=>exact to_one hf hfs hc (exitTo_ok he hk) fun X cs w=>by rw[hex,stepG.exec];simp only[ht,he];rfl
       | none=>exact leave (some (.exit id)) (fun c h=>by cases h;rfl) fun X cs w=>by rw[stepG.exec];simp only[ht,he];rfl
     | goto l=>
       cases he:gotoIn l k with
       | some k'=>exact to_one hf hfs hc (gotoIn_ok he hk) fun X cs w=>by rw[hex,stepG.exec];simp only[ht,he];rfl
       | none=>exact leave (some (.goto l)) (fun c h=>by cases h;rfl) fun X cs w=>by rw[stepG.exec];simp only[ht,he];rfl
     | refuse why=>exact lost_of fun cs=>by rw[hex,stepG.exec];simp only[ht];exact⟨_,_,_,rfl⟩
     | region id ops draw=>
       have hops:∀ o∈ops.toList,okOp P o.op=true:=by simpa only[ItemOk,okCode,List.all_eq_true]using hi
       have htodo:∀ l,∀ x∈Item.inRegion ops l :: k,ItemOk P x:=fun l x hx=>by
        rcases List.mem_cons.1 hx with rfl | hx
        ·exact hops
        ·exact hk x hx
       cases draw with
       | false=>exact to_one (todo:=.inRegion ops (List.range ops.size) :: k) hf hfs hc (htodo _) fun X cs w=>by rw[hex,stepG.exec];simp only[ht];rfl
       | true=>
         have key:∀ (X:Program) (cs:List Frame) (w:World),X.follows .mixedOrders=P.follows .mixedOrders->stp fr frs X cs w=.go (mkG {fr with todo:=.inRegion ops (Region.schedule (P.follows .mixedOrders) ops ((Question.order fr.fn id).cut (w.tape w.drawn (.order fr.fn id)))) :: k} (frs ++ cs)) {w with drawn:=w.drawn+1}:=fun X cs w hX=>by
          rw[hex,stepG.exec,<-hX]
          simp only[ht]
          rfl
         have go:∀ X:Program,X.follows .mixedOrders=P.follows .mixedOrders->CStep (stp fr frs) X u {fr with todo:=.inRegion ops (Region.schedule (P.follows .mixedOrders) ops ((Question.order fr.fn id).cut (u.tape u.drawn (.order fr.fn id)))) :: k} frs {u with drawn:=u.drawn+1}:=fun X hX=>by
          refine⟨1,rfl,fun cs J W τ d hS hτ=>⟨W,#[],?_,hS.of_heap rfl rfl rfl rfl,rfl,rfl,fun _ _=>rfl,Nat.le_refl _,fun e he=>by simp at he⟩⟩
          have h0:=hτ 0 (by omega) (.order fr.fn id)
          rw[key X cs _ hX,show (onT W τ d).tape (onT W τ d).drawn (Question.order fr.fn id)=u.tape u.drawn (Question.order fr.fn id)from h0]
          rfl
         exact .inr ⟨_,frs,{u with drawn:=u.drawn+1},⟨rfl,rfl,rfl,Nat.le_refl _,hc⟩,Lasts.same (a:=fr) (by rfl) (by rfl) _,go (ofF P (maskF P E)) rfl,.inr ⟨go P rfl,hf.to (htodo _),hfs,.inl (go (ofF P F) rfl)⟩⟩
     | rangeFunc f params a b=>
       simp only[ItemOk,okCode,Bool.and_eq_true]at hi
       refine chain_one (fun _=>tm_enterLoop fr.fn fr.tmps params a b hi.1 hi.2 hf.fn fr.roundOf) hc (fn:=fr.fn) (ST2:=fun x X cs w=>stepG.apply X true {fr with todo:=.inRangeFunc x.1 :: k,defers:=x.2 ++ fr.defers} (frs ++ cs) none (do let d <-resolve ({fr with todo:=.inRangeFunc x.1 :: k,defers:=x.2 ++ fr.defers}:Frame).eval {callee:=.value f,args:=#[.const (.func (.yield x.1) #[] #[])],argTypes:=#[]} 0;invoke d.target d.args) w) (fun X cs w v w1 es _ e=>?_) (fun cs w h w1 es e=>?_) fun v u1 hv hc1=>?_
       ·rw[hex,stepG.exec];simp only[ht,e]
       ·rw[hex,stepG.exec];simp only[ht,e];exact⟨_,_,_,rfl⟩
       ·refine OneStep.lasts (l':={fr with todo:=.inRangeFunc v.1 :: k,defers:=v.2 ++ fr.defers} :: frs) ?_ (apply_one (fr:={fr with todo:=.inRangeFunc v.1 :: k,defers:=v.2 ++ fr.defers}) hA (TN.bind (tm_resolve _ _ rfl _) fun d hd=>tn_invoke hE h0 _ hd _) (TN.bind (tm_resolve _ _ rfl _) fun d hd=>tn_invoke hE hA _ hd _) ⟨fun x hx=>?_,fun d hd=>?_,hf.kind,hf.fn⟩ hfs hc1 fun _ _ _=>rfl)
        ·exact Lasts.same (a:=fr) (by rfl) (by rfl) _
        ·rcases List.mem_cons.1 hx with rfl | hx
         ·trivial
         ·exact hk x hx
        ·rcases List.mem_append.1 hd with hd | hd
         ·rcases hv with hv |⟨r,hv⟩
          ·rw[hv]at hd;cases hd
          ·rw[hv,List.mem_singleton]at hd;exact⟨r,hd⟩
         ·exact hf.defs d hd
   | inBlock id=>exact to_one hf hfs hc hk fun X cs w=>by rw[hex,stepG.exec];simp only[ht];rfl
   | inScope b=>exact to_one hf hfs hc hk fun X cs w=>by rw[hex,stepG.exec];simp only[ht];rfl
   | inLoop b=>
     exact to_one (todo:=.code b :: .inLoop b :: k) hf hfs hc (fun x hx=>by
      rcases List.mem_cons.1 hx with rfl | hx
      ·exact hi
      rcases List.mem_cons.1 hx with rfl | hx
      ·exact hi
      ·exact hk x hx) fun X cs w=>by rw[hex,stepG.exec];simp only[ht];rfl
   | inRangeFunc l=>exact lost_of fun cs=>by rw[hex,stepG.exec];simp only[ht];exact⟨_,_,_,rfl⟩
   | call d b r s=>exact hi.elim
   | extern r a=>exact hi.elim
   | inRegion ops l=>
     cases l with
     | nil=>exact to_one hf hfs hc hk fun X cs w=>by rw[hex,stepG.exec];simp only[ht];rfl
     | cons i rest=>
       cases hw:((ops[i]?).map (Region.wanted · (yielded ops fr.tmps))).getD false with
       | false=>exact OneStep.turn hc (fr1:=fr.finish undef) (frs1:=frs) (fun X cs w=>by rw[hex,stepG.exec];simp only[ht,hw];rfl) (hf.finish _) hfs (Lasts.same (finish_fn _ _).1 (finish_fn _ _).2 _)
       | true=>
         cases ho:ops[i]? with
         | none=>rw [ho]at hw;cases hw
         | some o=>
           have hok:okOp P o.op=true:=hi o (by rw[Array.mem_toList_iff];exact Array.mem_of_getElem? ho)
           have hop:fr.oper?=some o:=by simp only[Frame.oper?,ht,ho]
           refine apply_one hA (tn_execOp hE h0 fr.eval (fun _=>rfl) o hok) (tn_execOp hE hA fr.eval (fun _=>rfl) o hok) hf hfs hc fun X cs w=>?_
           rw[hex,stepG.exec]
           simp only[ht,hw,if_true,stepG.oper,hop]
           split
           ·rename_i h1
            rw[h1]at hok
            simp[okOp]at hok
           ·rfl
   | endRangeFunc l=>
     refine sem_one (fun _=>tm_endLoop l) hc (fun j=>{fr with todo:=(j.map Item.code).toList ++ k}) (fun v=>fr.raise [{v,recovered:=false}]) frs (fun j hj=>⟨hf.to fun x hx=>?_,Lasts.same (a:=fr) (by rfl) (by rfl) _⟩) (fun v=>⟨hf.raise _,Lasts.same (raise_fn _ _).1 (raise_fn _ _).2 _⟩) hfs (fun X cs w v w1 es _ e=>⟨seen X fr.fn es ++ #[],?_,fun e he=>mem_seen (by simpa using he)⟩) (.inl fun X cs w v w1 es e=>⟨seen X fr.fn es ++ #[],?_,fun e he=>mem_seen (by simpa using he)⟩) fun cs w h w1 es hp e=>?_
     ·rcases List.mem_append.1 hx with hx | hx
      ·cases j with
       | none=>cases hx
       | some c=>
         simp only[Option.map_some,Option.toList_some,List.mem_singleton]at hx
         subst hx
         exact hj c rfl
      ·exact hk x hx
     ·rw[hex,stepG.exec];simp only[ht,e];rfl
     ·rw[hex,stepG.exec];simp only[ht,e];rfl
     ·rw[hex,stepG.exec]
      simp only[ht,e]
      cases h <;> first | exact absurd rfl (hp _) | exact⟨_,_,_,rfl⟩
   | beginRound=>
     refine apply_one (s:=do fr.roundOf.elim (stuck "beginRound: no round") Instr.beginRound;pure .skip) hA (tn_unit ?_) (tn_unit ?_) hf hfs hc fun X cs w=>by rw[hex,stepG.exec];simp only[ht]
     all_goals cases fr.roundOf with
     | none=>exact tm_stuck
     | some l=>exact tm_beginRound l
theorem unwind_stp(hm:fr.mode≠.run)(X:Program)(cs:List Frame)(w:World):stp fr frs X cs w=unwind X true fr (frs ++ cs) none w:=by
 obtain⟨a,b,c,d,m,k,r⟩:=fr
 simp only at hm
 cases m <;> first | exact absurd rfl hm | rfl
theorem same_fn(hf:FrOk P E fr):∃ fn,P.funcs[fr.fn]?=some fn/\(ofF P (maskF P E)).funcs[fr.fn]?=some fn:=by
 obtain⟨fn,h1,h2⟩:=hf.fn
 refine⟨fn,h1,?_⟩
 have hm:(ofF P (maskF P E)).funcs[fr.fn]?=_:=maskF_get (P:=P) (E:=E) fr.fn
 rw[hm,h1,Option.map_some,if_pos h2]
theorem unwind_one(hA:Alike P F E D)(hf:FrOk P E fr)(hfs:∀ x∈frs,FrOk P E x)(hc:CleanH (clL P E) u)(hm:fr.mode≠.run)(hp:fr.defers=[]->frs≠[]):OneStep P F E D (stp fr frs) (fr :: frs) u:=by
 have hex:=fun X cs w=>unwind_stp (frs:=frs) hm X cs w
 cases hd:fr.defers with
 | cons d ds=>
   obtain⟨r,rfl⟩:=hf.defs d (by rw[hd];exact List.mem_cons_self)
   have hds:∀ x∈ds,∃ r,x={target:=.collected r,args:=#[]}:=fun x hx=>hf.defs x (by rw[hd];exact List.mem_cons_of_mem _ hx)
   refine sem_one (fun _=>tm_takeDeferred r) hc (fun calls=>{fr with defers:=calls ++ ds}) (fun _=>fr) frs (fun j hj=>⟨⟨hf.todo,fun x hx=>?_,hf.kind,hf.fn⟩,Lasts.same (a:=fr) (by rfl) (by rfl) _⟩) (fun v=>⟨hf,rfl⟩) hfs (fun X cs w v w1 es _ e=>⟨seen X fr.fn es ++ #[],?_,fun e he=>mem_seen (by simpa using he)⟩) (.inr fun cs w v w1 es e=>?_) fun cs w h w1 es _ e=>?_
   ·rw[hj]at hx
    exact hds x hx
   ·rw[hex,unwind];simp only[hd,e];rfl
   ·rw[hex,unwind];simp only[hd,e];exact⟨_,_,_,rfl⟩
   ·rw[hex,unwind];simp only[hd,e];exact⟨_,_,_,rfl⟩
 | nil=>
   cases frs with
   | nil=>exact absurd rfl (hp hd)
   | cons c frs=>
     obtain⟨fn,g1,g2⟩:=same_fn hf
     obtain⟨fnR,g3,g4,g5⟩:∃ fnR,(ofF P F).funcs[fr.fn]?=some fnR/\results fnR fr.tmps=results fn fr.tmps/\True:=by
      by_cases hD:fr.fn=D
      ·obtain⟨fd,c,c',kk,e1,e2,e3,e4⟩:=hA.real
       rw[hD,e1]at g1
       obtain rfl:=Option.some.inj g1
       exact⟨{fd with body:=some c,ntmps:=kk},by rw[hD];exact e4,rfl,trivial⟩
      ·exact⟨fn,(hA.same _ hD).trans g1,rfl,trivial⟩
     have hcf:=hfs c List.mem_cons_self
     have hl:∀ c',c'.fn=c.fn->c'.roundOf=c.roundOf->Lasts (fr :: c :: frs) (c' :: frs):=fun c' e1 e2=>by
      unfold Lasts
      rw[List.getLast?_cons_cons]
      exact Lasts.same e1 e2 _
     have hfs':∀ x∈frs,FrOk P E x:=fun x hx=>hfs x (List.mem_cons_of_mem _ hx)
     cases hmode:fr.mode with
     | run=>exact absurd hmode hm
     | panicking chain=>
       have step:∀ X:Program,X.funcs[fr.fn]?=some fn->∀ cs w,stp fr (c :: frs) X cs w=.go (mkG (c.raise chain) (frs ++ cs)) w:=fun X hX cs w=>by
        rw[hex,unwind]
        simp only[hd,hmode,Frame.catches,hX,List.cons_append]
        rfl
       have stepR:∀ X:Program,X.funcs[fr.fn]?=some fnR->∀ cs w,stp fr (c :: frs) X cs w=.go (mkG (c.raise chain) (frs ++ cs)) w:=fun X hX cs w=>by
        rw[hex,unwind]
        simp only[hd,hmode,Frame.catches,hX,List.cons_append]
        rfl
       exact .inr ⟨c.raise chain,frs,u,⟨rfl,rfl,rfl,Nat.le_refl _,hc⟩,hl _ (raise_fn _ _).1 (raise_fn _ _).2,.turn (step _ g2),.inr ⟨.turn (step _ g1),hcf.raise _,hfs',.inl (.turn (stepR _ g3))⟩⟩
     | returning=>
       have s1:=TameS.sound (X:=ofF P (maskF P E)) (own:=True) (.inl ⟨rfl,trivial⟩) (tm_results (P:=P) (F:=P.funcs) (E:=E) fn fr.tmps fun _=>False) u hc fun k h=>h.elim
       have s2:=TameS.sound (X:=P) (own:=False) (.inr ⟨rfl,id⟩) (tm_results (P:=P) (F:=P.funcs) (E:=E) fn fr.tmps fun _=>False) u hc fun k h=>h.elim
       have s3:=TameS.sound (X:=ofF P F) (own:=False) (.inr ⟨rfl,id⟩) (tm_results (P:=P) (F:=F) (E:=E) fn fr.tmps fun _=>False) u hc fun k h=>h.elim
       have e1:=runT_fst (ofF P (maskF P E)) (results fn fr.tmps) u #[]
       cases hrun:(results fn fr.tmps).run (ofF P (maskF P E)) u with
       | ok v u1=>
         rw[hrun]at s1 s2 s3
         have m1:=s1.2.2.resolve_left fun h=>h.2
         have m2:=s2.2.2.resolve_left fun h=>h.2
         have m3:=s3.2.2.resolve_left fun h=>h.2
         have goR:Mir (ofF P F) (results fn fr.tmps) u u1 (.ok v u1)->CStep (stp fr (c :: frs)) (ofF P F) u (c.finish v) frs u1:=fun m=>CStep.ofMir m fun cs w w1 es e=>⟨seen (ofF P F) fr.fn es ++ #[],by
          rw[hex,unwind]
          simp only[hd,hmode,g3,g4,e,doReturn,hf.kind,List.cons_append]
          rfl,fun e he=>mem_seen (by simpa using he)⟩
         have go:∀ X:Program,X.funcs[fr.fn]?=some fn->Mir X (results fn fr.tmps) u u1 (.ok v u1)->CStep (stp fr (c :: frs)) X u (c.finish v) frs u1:=fun X hX m=>CStep.ofMir m fun cs w w1 es e=>⟨seen X fr.fn es ++ #[],by
          rw[hex,unwind]
          simp only[hd,hmode,hX,e,doReturn,hf.kind,List.cons_append]
          rfl,fun e he=>mem_seen (by simpa using he)⟩
         exact .inr ⟨_,frs,u1,s1.2.1,hl _ (finish_fn _ _).1 (finish_fn _ _).2,go _ g2 m1,.inr ⟨go _ g1 m2,hcf.finish v,hfs',.inl (goR m3)⟩⟩
       | halt h u1=>
         rw[hrun]at e1
         cases hrt:(results fn fr.tmps).runT (ofF P (maskF P E)) u #[]with
         | mk r es2=>
           rw[hrt]at e1
           simp only at e1
           subst e1
           refine lost_of fun cs=>?_
           rw[hex,unwind]
           simp only[hd,hmode,g2,hrt]
           cases h <;> exact⟨_,_,_,rfl⟩
theorem Alike.self(hA:Alike P F E D):Alike P P.funcs E D:=by
 obtain⟨fn,c,c',kk,e1,e2,e3,e4⟩:=hA.real
 exact⟨fun _ _=>rfl,fn,c',c',fn.ntmps,e1,e2,e3,by rw[e1,<-e2]⟩
theorem one_step(hE:Ext P E)(hA:Alike P F E D)(hf:FrOk P E fr)(hfs:∀ x∈frs,FrOk P E x)(hc:CleanH (clL P E) u)(hb:frs=[]->fr.roundOf=none)(hp:fr.mode≠.run->fr.defers=[]->frs≠[]):OneStep P F E D (stp fr frs) (fr :: frs) u:=by
 by_cases hm:fr.mode=.run
 ·exact run_one hE hA hA.self hf hfs hc hb hm
 ·exact unwind_one hA hf hfs hc hm (hp hm)
end
end
end Go.Proofs.YticobikhndlejaaGreatDoor
