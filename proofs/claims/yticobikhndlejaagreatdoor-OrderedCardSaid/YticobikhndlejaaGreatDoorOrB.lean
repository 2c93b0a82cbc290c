/- Part 2 of the proof (see the last part). -/
import Derived.Test.YticobikhndlejaaGreatDoorOrA
namespace Go.Proofs.YticobikhndlejaaGreatDoor
section
open Go
set_option maxRecDepth 100000
section
variable {P:Program} {Fs:Array Func} {cl:Loop->Prop} {α β:Type} {Q:α->Prop} {R:β->Prop}
theorem cellsOf_ofF(t:TypeId):(ofF P Fs).cellsOf t=P.cellsOf t:=rfl
theorem bytesOf_ofF(t:TypeId):(ofF P Fs).bytesOf t=P.bytesOf t:=rfl
theorem depth_ofF:(ofF P Fs).depth=P.depth:=rfl
theorem globals_ofF:(ofF P Fs).globals=P.globals:=rfl
theorem byteOfCell_ofF:∀ (d:Nat) (t:TypeId) (o:Nat),byteOfCell (ofF P Fs) d t o=byteOfCell P d t o
 | 0,_,_=>rfl
 | d+1,t,o=>by
   unfold byteOfCell
   have ih:=byteOfCell_ofF d
   simp only[ih]
   rfl
theorem cellOfByte_ofF:∀ (d:Nat) (t:TypeId) (o:Nat),cellOfByte (ofF P Fs) d t o=cellOfByte P d t o
 | 0,_,_=>rfl
 | d+1,t,o=>by
   unfold cellOfByte
   have ih:=cellOfByte_ofF d
   simp only[ih]
   rfl
theorem cellAtBytes_ofF(d:Nat)(t:TypeId)(a b:Nat)(c:Int):cellAtBytes (ofF P Fs) d t a b c=cellAtBytes P d t a b c:=by
 unfold cellAtBytes
 simp only[byteOfCell_ofF,cellOfByte_ofF,cellsOf_ofF,bytesOf_ofF]
 rfl
theorem eqGuardType_ofF:∀ (d:Nat) (t:TypeId),(ofF P Fs).eqGuardType d t=P.eqGuardType d t
 | 0,_=>rfl
 | d+1,t=>by
   unfold Program.eqGuardType
   have ih:=eqGuardType_ofF d
   simp only[ih]
   rfl
theorem info_ofF(t:TypeId):(ofF P Fs).info? t=P.info? t:=rfl
theorem underlying_ofF(t:TypeId):(ofF P Fs).underlying t=P.underlying t:=rfl
theorem underlyingId_ofF(t:TypeId):(ofF P Fs).underlyingId t=P.underlyingId t:=rfl
theorem cutTypes_ofF:(ofF P Fs).cutTypes=P.cutTypes:=rfl
theorem alike_ofF:∀ (d:Nat) (t u:TypeId),(ofF P Fs).alikeButTags d t u=P.alikeButTags d t u
 | 0,_,_=>rfl
 | d+1,t,u=>by
   unfold Program.alikeButTags
   have ih:=alike_ofF d
   simp only[ih,info_ofF]
theorem stoodInAs_ofF(t:TypeId):(ofF P Fs).stoodInAs t=P.stoodInAs t:=by
 unfold Program.stoodInAs
 simp only[alike_ofF,underlying_ofF,underlyingId_ofF,cutTypes_ofF,depth_ofF]
theorem stoodInHeld_ofF(t:TypeId):(ofF P Fs).stoodInHeld t=P.stoodInHeld t:=by
 unfold Program.stoodInHeld
 simp only[stoodInAs_ofF,info_ofF]
theorem ownRow_ofF(c:String×TypeId):(ofF P Fs).ownRow c=P.ownRow c:=by
 unfold Program.ownRow
 simp only[info_ofF,underlying_ofF,cutTypes_ofF]
theorem packed_ofF(t:TypeId):(ofF P Fs).packed t=P.packed t:=by
 unfold Program.packed Program.packedAs
 simp only[alike_ofF,underlying_ofF,underlyingId_ofF,cutTypes_ofF,depth_ofF,ownRow_ofF,info_ofF]
theorem holdsPacked_ofF:∀ (d:Nat) (t:TypeId),(ofF P Fs).holdsPacked d t=P.holdsPacked d t
 | 0,_=>rfl
 | d+1,t=>by
   unfold Program.holdsPacked
   have ih:=holdsPacked_ofF d
   simp only[ih,packed_ofF,underlying_ofF]
theorem tm_forA{γ:Type}{l:Array γ}{f:γ->β->Sem (ForInStep β)}{b:β}(h:∀ x b,Tm P Fs cl (f x b) fun _=>True):Tm P Fs cl (forIn l b f) fun _=>True:=by
 have e:forIn l b f=forIn l.toList b f:=(Array.forIn_toList (m:=Sem)).symm
 rw[e]
 exact tm_forIn _ _ _ h
theorem tm_forR{r:Std.Legacy.Range}{f:Nat->β->Sem (ForInStep β)}{b:β}(h:∀ x b,Tm P Fs cl (f x b) fun _=>True):Tm P Fs cl (forIn r b f) fun _=>True:=by
 have e:=Std.Legacy.Range.forIn_eq_forIn_range' (m:=Sem) r b f
 rw[e]
 exact tm_forIn _ _ _ h
theorem tmS5a{s:Sem α}(h:Tm P Fs cl s Q:=by repeat (first | exact TmC.out | (with_reducible refine tm_program ?_ ?_;· first | (simp only[byteOfCell_ofF,cellAtBytes_ofF,eqGuardType_ofF,holdsPacked_ofF,stoodInHeld_ofF,cellsOf_ofF,bytesOf_ofF,depth_ofF,globals_ofF] <;> rfl) | rfl) | with_reducible refine Tm.bind (Q:=fun _=>True) ?_ fun _ _=>?_ | with_reducible refine tm_ite ?_ ?_ | with_reducible refine tm_forIn _ _ _ fun _ _=>?_ | with_reducible refine tm_forA fun _ _=>?_ | with_reducible refine tm_forR fun _ _=>?_ | split | dsimp only)):Tm P Fs cl s Q:=h
instance {a:Addr}:TmC P Fs cl (byteOf a):=⟨by
 unfold byteOf
 repeat exact tmS5a⟩
instance {a:Addr}{b c:Nat}:TmC P Fs cl (partAt a b c):=⟨by
 unfold partAt
 repeat exact tmS5a⟩
instance {a:Addr}{f:Field}:TmC P Fs cl (fieldPlace a f):=⟨by
 unfold fieldPlace
 repeat exact tmS5a⟩
instance {t:TypeId}{a:Value}{f:Nat}:TmC P Fs cl (Instr.fieldAt t a f):=⟨by
 unfold Instr.fieldAt
 repeat exact tmS5a⟩
theorem tm_getMapR{r:Nat}{f:Obj->Sem β}(hm:∀ es c,Tm P Fs cl (f (.map es c)) R)(hb:∀ o,(∀ es c,o≠.map es c)->∃ s,f o=stuck s)(hj:∀ cl a b,f (.chan 0 #[] cl a b false)=f Jk:=by intros;rfl):Tm P Fs cl (getObj r >>= f) R:=tm_getMap (fun es c=>(hm es c).toN) hb hj
theorem tmN_ite{r:Nat}{c:Prop}[Decidable c]{a b:Sem α}(ha:TmN P Fs cl r a Q)(hb:TmN P Fs cl r b Q):TmN P Fs cl r (if c then a else b) Q:=by split <;> assumption
theorem tmS5b{s:Sem α}(h:Tm P Fs cl s Q:=by repeat (first | exact TmC.out | (with_reducible refine tm_program ?_ ?_;· first | (simp only[byteOfCell_ofF,cellAtBytes_ofF,eqGuardType_ofF,holdsPacked_ofF,stoodInHeld_ofF,cellsOf_ofF,bytesOf_ofF,depth_ofF,globals_ofF] <;> rfl) | rfl) | with_reducible refine Tm.bind (Q:=fun _=>True) ?_ fun _ _=>?_ | with_reducible refine tm_ite ?_ ?_ | with_reducible refine tm_forIn _ _ _ fun _ _=>?_ | with_reducible refine tm_forA fun _ _=>?_ | with_reducible refine tm_forR fun _ _=>?_ | (with_reducible refine tm_getMapR (fun _ _=>?_) fun o ho=>by cases o <;> first | exact⟨_,rfl⟩ | exact absurd rfl (ho _ _)) | split | dsimp only)):Tm P Fs cl s Q:=h
instance {a b:Addr}:TmC P Fs cl (Op.twoPlaces a b):=⟨by
 unfold Op.twoPlaces
 repeat exact tmS5b⟩
instance {k:IntKind}{a b:Addr}:TmC P Fs cl (Op.addrSub k a b):=⟨by
 unfold Op.addrSub
 repeat exact tmS5b⟩
instance {op:BinOp}{a b:Addr}:TmC P Fs cl (Op.addrCmp op a b):=⟨by
 unfold Op.addrCmp
 repeat exact tmS5b⟩
instance {k:IntKind}{a:Addr}{n:Int}:TmC P Fs cl (Op.addrMod k a n):=⟨by
 unfold Op.addrMod
 repeat exact tmS5b⟩
theorem tmc_equalIn:∀ (d:Nat) (t:TypeId) (x y:Value),TmC P Fs cl (Op.equalIn d t x y)
 | 0,_,_,_=>⟨tm_unsup trivial⟩
 | d+1,t,x,y=>by
   have ih:∀ (t:TypeId) (x y:Value),TmC P Fs cl (Op.equalIn d t x y):=tmc_equalIn d
   exact⟨by
    unfold Op.equalIn
    repeat exact tmS5b⟩
instance {d:Nat}{t:TypeId}{x y:Value}:TmC P Fs cl (Op.equalIn d t x y):=tmc_equalIn d _ _ _
instance {t:TypeId}{x y:Value}:TmC P Fs cl (Op.equal t x y):=⟨by
 unfold Op.equal
 repeat exact tmS5b⟩
theorem tmc_eqGuardIn:∀ (d:Nat) (t:TypeId) (x y:Value),TmC P Fs cl (Op.eqGuardIn d t x y)
 | 0,_,_,_=>⟨tm_unsup trivial⟩
 | d+1,t,x,y=>by
   have ih:∀ (t:TypeId) (x y:Value),TmC P Fs cl (Op.eqGuardIn d t x y):=tmc_eqGuardIn d
   exact⟨by
    unfold Op.eqGuardIn
    repeat exact tmS5b⟩
instance {d:Nat}{t:TypeId}{x y:Value}:TmC P Fs cl (Op.eqGuardIn d t x y):=tmc_eqGuardIn d _ _ _
instance {op:BinOp}{t:TypeId}{x y:Operand}{a b:Value}:TmC P Fs cl (eqGuard op t x y a b):=⟨by
 unfold eqGuard
 repeat exact tmS5b⟩
theorem tmc_checkKey(e:Bool):∀ (d:Nat) (t:TypeId) (v:Value),TmC P Fs cl (Instr.checkKey e d t v)
 | 0,_,_=>⟨tm_unsup trivial⟩
 | d+1,t,v=>by
   have ih:∀ (t:TypeId) (v:Value),TmC P Fs cl (Instr.checkKey e d t v):=tmc_checkKey e d
   exact⟨by
    unfold Instr.checkKey
    repeat exact tmS5b⟩
instance {e:Bool}{d:Nat}{t:TypeId}{v:Value}:TmC P Fs cl (Instr.checkKey e d t v):=tmc_checkKey e d _ _
end
end
section
open Go
section
variable {P:Program} {Fs:Array Func} {cl:Loop->Prop} {α β:Type} {Q:α->Prop} {R:β->Prop}
theorem tm_pureBind{a:α}{f:α->Sem β}(h:Tm P Fs cl (f a) R):Tm P Fs cl (pure a >>= f) R:=h
theorem tm_stuckBind{s:String}{f:α->Sem β}:Tm P Fs cl (stuck s >>= f) R:=tm_stuck
theorem tmS6a{s:Sem α}(h:Tm P Fs cl s Q:=by repeat (first | exact TmC.out | with_reducible refine tm_pureBind ?_ | with_reducible exact tm_stuckBind | (with_reducible refine tm_program ?_ ?_;· first | (simp only[byteOfCell_ofF,cellAtBytes_ofF,eqGuardType_ofF,holdsPacked_ofF,stoodInHeld_ofF,cellsOf_ofF,bytesOf_ofF,depth_ofF,globals_ofF] <;> rfl) | rfl) | (with_reducible refine tm_getMapR (fun _ _=>?_) fun o ho=>by cases o <;> first | exact⟨_,rfl⟩ | exact absurd rfl (ho _ _)) | with_reducible refine Tm.bind (Q:=fun _=>True) ?_ fun _ _=>?_ | with_reducible refine tm_ite ?_ ?_ | with_reducible refine tm_forIn _ _ _ fun _ _=>?_ | with_reducible refine tm_forA fun _ _=>?_ | with_reducible refine tm_forR fun _ _=>?_ | split | dsimp only)):Tm P Fs cl s Q:=h
instance {op:BinOp}{k:FloatKind}{x y:Nat}:TmC P Fs cl (Op.floatArith op k x y):=⟨by
 unfold Op.floatArith
 repeat exact tmS6a⟩
instance {op:BinOp}{k:FloatKind}{x y:Nat}:TmC P Fs cl (Op.floatCmp op k x y):=⟨by
 unfold Op.floatCmp
 repeat exact tmS6a⟩
instance {k:FloatKind}{x:Nat}{d:FloatKind}:TmC P Fs cl (Conv.floatToFloat k x d):=⟨by
 unfold Conv.floatToFloat
 repeat exact tmS6a⟩
instance {k:FloatKind}{x:Nat}{d:IntKind}:TmC P Fs cl (Conv.floatToInt k x d):=⟨by
 unfold Conv.floatToInt
 repeat exact tmS6a⟩
instance {k:FloatKind}{n:Int}:TmC P Fs cl (Conv.intToFloat k n):=⟨by
 unfold Conv.intToFloat
 repeat exact tmS6a⟩
instance {k:FloatKind}{x y:Nat}{d:FloatKind}:TmC P Fs cl (Conv.complexToComplex k x y d):=⟨by
 unfold Conv.complexToComplex
 repeat exact tmS6a⟩
instance {op:BinOp}{k:FloatKind}{x y:Nat}:TmC P Fs cl (Op.Complex.arith op k x y):=⟨by
 unfold Op.Complex.arith
 repeat exact tmS6a⟩
instance {op:BinOp}{k:FloatKind}{x y:Nat}:TmC P Fs cl (Op.Complex.cmp op k x y):=⟨by
 unfold Op.Complex.cmp
 repeat exact tmS6a⟩
instance {k:FloatKind}{x:Nat}{d:FloatKind}:TmC P Fs cl (Op.Complex.conv k x d):=⟨by
 unfold Op.Complex.conv
 repeat exact tmS6a⟩
instance {x y:Nat}:TmC P Fs cl (Op.Complex.add x y):=⟨by
 unfold Op.Complex.add
 repeat exact tmS6a⟩
instance {x y:Nat}:TmC P Fs cl (Op.Complex.sub x y):=⟨by
 unfold Op.Complex.sub
 repeat exact tmS6a⟩
instance {x y:Nat}:TmC P Fs cl (Op.Complex.mul x y):=⟨by
 unfold Op.Complex.mul
 repeat exact tmS6a⟩
instance {x y:Nat}:TmC P Fs cl (Op.Complex.quo x y):=⟨by
 unfold Op.Complex.quo
 repeat exact tmS6a⟩
instance {a b c d:Nat}:TmC P Fs cl (Op.Complex.product a b c d):=⟨by
 unfold Op.Complex.product
 repeat exact tmS6a⟩
instance {s a b c d:Nat}:TmC P Fs cl (Op.Complex.corrected s a b c d):=⟨by
 unfold Op.Complex.corrected
 repeat exact tmS6a⟩
instance {a b c d:Nat}:TmC P Fs cl (Op.Complex.quotient a b c d):=⟨by
 unfold Op.Complex.quotient
 repeat exact tmS6a⟩
instance {op:BinOp}{k:FloatKind}{a b c d:Nat}:TmC P Fs cl (Op.complexOp op k a b c d):=⟨by
 unfold Op.complexOp
 repeat exact tmS6a⟩
instance {x:Value}:TmC P Fs cl (Conv.bytesToString x):=⟨by
 unfold Conv.bytesToString
 repeat exact tmS6a⟩
instance {x:Value}:TmC P Fs cl (Conv.runesToString x):=⟨by
 unfold Conv.runesToString
 repeat exact tmS6a⟩
instance {t:TypeId}{s:ByteArray}:TmC P Fs cl (Conv.stringToRunes t s):=⟨by
 unfold Conv.stringToRunes
 repeat exact tmS6a⟩
theorem tm_viewAt{r:Nat}{f:Option (Addr×TypeId)->Sem β}(hs:∀ x,∃ e,f (some x)=.halt e/\Ends e)(h:Tm P Fs cl (f none) R):Tm P Fs cl (viewAt r >>= f) R:=by
 intro N
 refine .shape fun x=>?_
 cases x with
 | some y=>exact h N
 | none=>
   refine .look (fun o ho=>?_) (fun o ho=>?_) (.inl fun b t=>hs _)
   ·cases o <;> first | exact ho.elim | exact h N
   ·cases o <;> first | exact ho.elim | rfl
instance {n:Nat}:TmC P Fs cl (numberAt n):=⟨by
 intro N
 refine .shape fun x=>?_
 cases x with
 | some y=>exact .pure ⟨fun _ x=>x,trivial⟩
 | none=>
   refine .look (fun o ho=>?_) (fun o ho=>?_) (.inr fun b t=>rfl)
   ·cases o <;> first | exact ho.elim | exact .pure ⟨fun _ x=>x,trivial⟩
   ·cases o <;> first | exact ho.elim | rfl⟩
instance {t:TypeId}{x y:Value}:TmC P Fs cl (Builtin.unsafeAdd_ #[] t #[x,y]):=⟨by
 cases x <;> (try exact tm_stuck)
 change Tm P Fs cl (asInt y >>= _) _
 repeat (first | exact TmC.out | with_reducible refine tm_pureBind ?_ | with_reducible exact tm_stuckBind | (with_reducible refine tm_program ?_ ?_;· first | (simp only[byteOfCell_ofF,cellAtBytes_ofF,eqGuardType_ofF,holdsPacked_ofF,stoodInHeld_ofF,cellsOf_ofF,bytesOf_ofF,depth_ofF,globals_ofF] <;> rfl) | rfl) | (with_reducible refine tm_getMapR (fun _ _=>?_) fun o ho=>by cases o <;> first | exact⟨_,rfl⟩ | exact absurd rfl (ho _ _)) | ((with_reducible refine tm_viewAt ?_ ?_);· exact fun x=>⟨_,rfl,trivial⟩) | with_reducible refine Tm.bind (Q:=fun _=>True) ?_ fun _ _=>?_ | with_reducible refine tm_ite ?_ ?_ | with_reducible refine tm_forIn _ _ _ fun _ _=>?_ | with_reducible refine tm_forA fun _ _=>?_ | with_reducible refine tm_forR fun _ _=>?_ | ((with_reducible refine tm_viewAt ?_ ?_);· exact fun x=>⟨_,rfl,trivial⟩) | split | dsimp only)⟩
instance {a:Addr}{b:Bool}:TmC P Fs cl (asNumber a b):=⟨by
 unfold asNumber
 repeat exact tmS6a⟩
instance {t:TypeId}{x y:Value}:TmC P Fs cl (movedNumber t x y):=⟨by
 unfold movedNumber
 repeat exact tmS6a⟩
instance {t:TypeId}{x y:Value}:TmC P Fs cl (movedPointer t x y):=⟨by
 unfold movedPointer
 repeat exact tmS6a⟩
instance {op:BinOp}{t:TypeId}{x y:Value}:TmC P Fs cl (binOp op t x y):=⟨by
 unfold binOp
 repeat exact tmS6a⟩
instance {a b:Value}:TmC P Fs cl (Instr.keyThatStays a b):=⟨by
 unfold Instr.keyThatStays
 repeat exact tmS6a⟩
theorem tmc_findAsking(t:TypeId)(k:Value):∀ (es:List MapEntry) (i:Nat),TmC P Fs cl (Instr.findAsking t k es i)
 | [],_=>⟨tm_pure trivial⟩
 | e :: es,i=>by
   have ih:∀ i,TmC P Fs cl (Instr.findAsking t k es i):=tmc_findAsking t k es
   exact⟨by
    unfold Instr.findAsking
    repeat exact tmS6a⟩
instance {t:TypeId}{k:Value}{es:List MapEntry}{i:Nat}:TmC P Fs cl (Instr.findAsking t k es i):=tmc_findAsking t k es i
instance {t:TypeId}{k:Value}{es:List MapEntry}:TmC P Fs cl (Instr.findKey t k es):=⟨by
 unfold Instr.findKey
 repeat exact tmS6a⟩
instance {t:TypeId}{x i:Value}{b:Bool}:TmC P Fs cl (Instr.lookup t x i b):=⟨by
 unfold Instr.lookup
 repeat exact tmS6a⟩
theorem tmS6b{s:Sem α}(h:Tm P Fs cl s Q:=by repeat (first | exact TmC.out | with_reducible refine tm_pureBind ?_ | with_reducible exact tm_stuckBind | (with_reducible refine tm_program ?_ ?_;· first | (simp only[byteOfCell_ofF,cellAtBytes_ofF,eqGuardType_ofF,holdsPacked_ofF,stoodInHeld_ofF,cellsOf_ofF,bytesOf_ofF,depth_ofF,globals_ofF] <;> rfl) | rfl) | (with_reducible refine tm_getMap (fun _ _=>?_) fun o ho=>by cases o <;> first | exact⟨_,rfl⟩ | exact absurd rfl (ho _ _)) | exact Tm.toN TmC.out | exact tmN_set trivial trivial | with_reducible refine TmN.bind (Q:=fun _=>True) TmC.out fun _ _=>?_ | with_reducible refine TmN.bindN (Q:=fun _=>True) ?_ fun _ _=>?_ | with_reducible refine tmN_ite ?_ ?_ | with_reducible refine Tm.bind (Q:=fun _=>True) ?_ fun _ _=>?_ | with_reducible refine tm_ite ?_ ?_ | with_reducible refine tm_forIn _ _ _ fun _ _=>?_ | with_reducible refine tm_forA fun _ _=>?_ | with_reducible refine tm_forR fun _ _=>?_ | split | dsimp only)):Tm P Fs cl s Q:=h
instance {t:TypeId}{m k v:Value}:TmC P Fs cl (Instr.mapUpdate t m k v):=⟨by
 unfold Instr.mapUpdate
 repeat exact tmS6b⟩
instance {t:TypeId}{m k:Value}:TmC P Fs cl (Instr.mapEntry t m k):=⟨by
 unfold Instr.mapEntry
 repeat exact tmS6b⟩
instance {t:TypeId}{m s v:Value}:TmC P Fs cl (Instr.entryStore t m s v):=⟨by
 unfold Instr.entryStore
 repeat exact tmS6b⟩
instance {a:Array TypeId}{t:TypeId}{b:Array Value}:TmC P Fs cl (Builtin.clear_ a t b):=⟨by
 unfold Builtin.clear_
 repeat exact tmS6b⟩
instance {a:Array TypeId}{t:TypeId}{b:Array Value}:TmC P Fs cl (Builtin.delete_ a t b):=⟨by
 unfold Builtin.delete_
 repeat exact tmS6b⟩
instance {t:TypeId}{x:Value}:TmC P Fs cl (Instr.range t x):=⟨by
 unfold Instr.range
 repeat exact tmS6a⟩
end
section
variable {P:Program} {Fs:Array Func} {cl:Loop->Prop} {α β:Type} {Q:α->Prop} {R:β->Prop}
theorem tm_getMapR'{r:Nat}{f:Obj->Sem β}(hb:∀ o,(∀ es c,o≠.map es c)->∃ s,f o=stuck s)(hm:∀ es c,Tm P Fs cl (f (.map es c)) R)(hj:∀ cl a b,f (.chan 0 #[] cl a b false)=f Jk:=by intros;rfl):Tm P Fs cl (getObj r >>= f) R:=tm_getMapR hm hb hj
theorem tm_mapL{f:α->Sem β}(h:∀ a,Tm P Fs cl (f a) fun _=>True):∀ l:List α,Tm P Fs cl (l.mapM f) fun _=>True
 | []=>by rw[List.mapM_nil];exact tm_pure trivial
 | a :: l=>by
   rw[List.mapM_cons]
   exact (h a).bind fun _ _=>(tm_mapL h l).bind fun _ _=>tm_pure trivial
theorem tm_mapA{f:α->Sem β}{l:Array α}(h:∀ a,Tm P Fs cl (f a) fun _=>True):Tm P Fs cl (l.mapM f) fun _=>True:=by
 rw[Array.mapM_eq_mapM_toList]
 exact tm_map (tm_mapL h _) fun _ _=>trivial
theorem tm_foldL{f:β->α->Sem β}(h:∀ b a,Tm P Fs cl (f b a) fun _=>True):∀ (l:List α) (b:β),Tm P Fs cl (l.foldlM f b) fun _=>True
 | [],b=>by rw[List.foldlM_nil];exact tm_pure trivial
 | a :: l,b=>by
   rw[List.foldlM_cons]
   exact (h b a).bind fun b' _=>tm_foldL h l b'
theorem tmS7a{s:Sem α}(h:Tm P Fs cl s Q:=by repeat (first | exact TmC.out | with_reducible refine tm_pureBind ?_ | with_reducible exact tm_stuckBind | (with_reducible refine tm_program ?_ ?_;· first | (simp only[byteOfCell_ofF,cellAtBytes_ofF,eqGuardType_ofF,holdsPacked_ofF,stoodInHeld_ofF,cellsOf_ofF,bytesOf_ofF,depth_ofF,globals_ofF] <;> rfl) | rfl) | (with_reducible refine tm_getMapR (fun _ _=>?_) fun o ho=>by cases o <;> first | exact⟨_,rfl⟩ | exact absurd rfl (ho _ _)) | with_reducible refine tm_mapA fun _=>?_ | with_reducible refine Tm.bind (Q:=fun _=>True) ?_ fun _ _=>?_ | with_reducible refine tm_ite ?_ ?_ | with_reducible refine tm_forIn _ _ _ fun _ _=>?_ | with_reducible refine tm_forA fun _ _=>?_ | with_reducible refine tm_forR fun _ _=>?_ | with_reducible refine tm_mapA fun _=>?_ | with_reducible refine tm_foldL (fun _ _=>?_) _ _ | split | dsimp only)):Tm P Fs cl s Q:=h
instance {a:Array TypeId}{t:TypeId}{b:Array Value}:TmC P Fs cl (Builtin.min_ a t b):=⟨by
 unfold Builtin.min_
 repeat exact tmS7a⟩
instance {a:Array TypeId}{t:TypeId}{b:Array Value}:TmC P Fs cl (Builtin.max_ a t b):=⟨by
 unfold Builtin.max_
 repeat exact tmS7a⟩
instance {t:TypeId}{ps:Array (Nat×Value)}:TmC P Fs cl (Instr.build t ps):=⟨by
 unfold Instr.build
 repeat exact tmS7a⟩
theorem tm_getAny{r:Nat}{f:Obj->Sem β}(h:∀ o,CObj cl o->Tm P Fs cl (f o) R)(h0:∃ e,f (.coro none)=.halt e/\Ends e)(hv:∀ a t,∃ e,f (.view a t)=.halt e/\Ends e)(hj:∀ cl a b,f (.chan 0 #[] cl a b false)=f Jk:=by intros;rfl):Tm P Fs cl (getObj r >>= f) R:=
 tm_get (fun o ho _=>⟨fun _=>(h o ho).toN,fun _=>h o ho⟩) h0 hv hj
theorem tm_getChan{r:Nat}{f:Obj->Sem β}(hb:∀ o,(∀ a b c d e g,o≠.chan a b c d e g)->∃ s,f o=stuck s)(hc:Tm P Fs cl (f Jk) R)(hj:∀ cl a b,f (.chan 0 #[] cl a b false)=f Jk:=by intros;rfl):Tm P Fs cl (getObj r >>= f) R:=by
 refine tm_getAny (fun o ho=>?_) ?_ (fun a t=>?_) ?_
 ·by_cases h:∃ a b c d e g,o=.chan a b c d e g
  ·obtain⟨a,b,c,d,e,g,rfl⟩:=h
   obtain⟨rfl,rfl,rfl,rfl,rfl,rfl⟩:=ho
   exact hc
  ·obtain⟨s,e⟩:=hb o fun a b c d e g h2=>h ⟨a,b,c,d,e,g,h2⟩
   rw[e];exact tm_stuck
 ·obtain⟨s,e⟩:=hb (.coro none) (by intros;simp)
  exact⟨_,e,trivial⟩
 ·obtain⟨s,e⟩:=hb (.view a t) (by intros;simp)
  exact⟨_,e,trivial⟩
 ·exact hj
theorem tmN_getMapR{q r:Nat}{f:Obj->Sem β}(hm:∀ es c,TmN P Fs cl q (f (.map es c)) R)(hb:∀ o,(∀ es c,o≠.map es c)->∃ s,f o=stuck s)(hj:∀ cl a b,f (.chan 0 #[] cl a b false)=f Jk:=by intros;rfl):TmN P Fs cl q (getObj r >>= f) R:=by
 intro N hq
 refine .getObj (fun o ho hn=>?_) ?_ (fun a t=>?_) ?_
 ·by_cases h:∃ es c,o=.map es c
  ·obtain⟨es,c,rfl⟩:=h
   exact (hm es c _ (.inl hq)).mono (fun _ h=>h) fun N2 b hb=>⟨fun x hx=>hb.1 x (.inl hx),hb.2⟩
  ·obtain⟨s,e⟩:=hb o fun es c e=>h ⟨es,c,e⟩
   show TameS P (ofF P Fs) cl _ _ _ (f o)
   rw[e]
   exact .ends trivial
 ·obtain⟨s,e⟩:=hb (.coro none) (by intros;simp)
  exact⟨_,e,trivial⟩
 ·obtain⟨s,e⟩:=hb (.view a t) (by intros;simp)
  exact⟨_,e,trivial⟩
 ·exact hj
theorem tmS7b{s:Sem α}(h:Tm P Fs cl s Q:=by repeat (first | exact TmC.out | with_reducible refine tm_pureBind ?_ | with_reducible exact tm_stuckBind | (with_reducible refine tm_program ?_ ?_;· first | (simp only[byteOfCell_ofF,cellAtBytes_ofF,eqGuardType_ofF,holdsPacked_ofF,stoodInHeld_ofF,cellsOf_ofF,bytesOf_ofF,depth_ofF,globals_ofF] <;> rfl) | rfl) | ((with_reducible refine tm_getMapR' ?_ fun _ _=>?_);· (intro o ho;cases o <;> first | exact⟨_,rfl⟩ | exact absurd rfl (ho _ _))) | ((with_reducible refine tm_getChan ?_ ?_);· (intro o ho;cases o <;> first | exact⟨_,rfl⟩ | exact absurd rfl (ho _ _ _ _ _ _))) | with_reducible refine Tm.bind (Q:=fun _=>True) ?_ fun _ _=>?_ | with_reducible refine tm_ite ?_ ?_ | with_reducible refine tm_forIn _ _ _ fun _ _=>?_ | with_reducible refine tm_forA fun _ _=>?_ | with_reducible refine tm_forR fun _ _=>?_ | split | dsimp only)):Tm P Fs cl s Q:=h
instance {a:Array TypeId}{t:TypeId}{b:Array Value}:TmC P Fs cl (Builtin.len_ a t b):=⟨by
 unfold Builtin.len_
 repeat exact tmS7b⟩
instance {a:Array TypeId}{t:TypeId}{b:Array Value}:TmC P Fs cl (Builtin.cap_ a t b):=⟨by
 unfold Builtin.cap_
 repeat exact tmS7b⟩
theorem tmS7c{s:Sem α}(h:Tm P Fs cl s Q:=by repeat (first | exact TmC.out | with_reducible refine tm_pureBind ?_ | with_reducible exact tm_stuckBind | (with_reducible refine tm_program ?_ ?_;· first | (simp only[byteOfCell_ofF,cellAtBytes_ofF,eqGuardType_ofF,holdsPacked_ofF,stoodInHeld_ofF,cellsOf_ofF,bytesOf_ofF,depth_ofF,globals_ofF] <;> rfl) | rfl) | (with_reducible refine tm_getMapR (fun _ _=>?_) fun o ho=>by cases o <;> first | exact⟨_,rfl⟩ | exact absurd rfl (ho _ _)) | with_reducible refine Tm.bind (Q:=fun _=>True) ?_ fun _ _=>?_ | with_reducible refine tm_ite ?_ ?_ | with_reducible refine tm_forIn _ _ _ fun _ _=>?_ | with_reducible refine tm_forA fun _ _=>?_ | with_reducible refine tm_forR fun _ _=>?_ | split | dsimp only)):Tm P Fs cl s Q:=h
instance {i:Value}:TmC P Fs cl (Instr.entry i):=⟨by
 unfold Instr.entry
 split
 ·refine tm_getAny (fun o ho=>?_) ⟨_,rfl,trivial⟩ fun _ _=>⟨_,rfl,trivial⟩
  repeat exact tmS7c
 ·exact tm_stuck⟩
instance {i:Value}{b:Bool}{t:TypeId}:TmC P Fs cl (Instr.next i b t):=⟨by
 unfold Instr.next
 dsimp only
 split
 ·refine tm_get (fun o ho hn=>?_) (by cases b <;> exact⟨_,rfl,trivial⟩) fun _ _=>by cases b <;> exact⟨_,rfl,trivial⟩
  have hs:∀ {r:Nat} {s:String},(Good o->TmN P Fs cl r (stuck (α:=Value) s) fun _=>True)/\(¬Good o->Tm P Fs cl (stuck (α:=Value) s) fun _=>True):=⟨fun _=>tm_stuck.toN,fun _=>tm_stuck⟩
  cases o <;> cases b <;> first | exact hs | skip
  ·refine⟨fun _=>?_,fun hg=>absurd trivial hg⟩
   repeat (first | exact Tm.toN TmC.out | exact tmN_set trivial trivial | with_reducible refine TmN.bindN (Q:=fun _=>True) ?_ fun _ _=>?_ | with_reducible refine tmN_ite ?_ ?_ | split | dsimp only)
  ·rename_i m a c d
   refine⟨fun _=>?_,fun hg=>absurd trivial hg⟩
   cases m with
   | none=>exact Tm.toN (tm_pure trivial)
   | some m=>
     refine tmN_getMapR (fun _ _=>?_) fun o ho=>by cases o <;> first | exact⟨_,rfl⟩ | exact absurd rfl (ho _ _)
     dsimp only
     repeat (first | exact Tm.toN TmC.out | exact tmN_set trivial trivial | with_reducible refine TmN.bind (Q:=fun _=>True) TmC.out fun _ _=>?_ | with_reducible refine TmN.bindN (Q:=fun _=>True) ?_ fun _ _=>?_ | with_reducible refine tmN_ite ?_ ?_ | split | dsimp only)
  ·rename_i m a c d
   cases m <;> exact hs
 ·exact tm_stuck⟩
instance {t:TypeId}{p:Place}:TmC P Fs cl (p.get t):=⟨by
 cases p
 ·exact tm_pure trivial
 ·exact tm_loadVar _ _⟩
theorem tmc_follow:∀ (l:List FieldStep) (t:TypeId) (x:Place),TmC P Fs cl (follow l t x)
 | [],t,x=>⟨tm_pure trivial⟩
 | s :: l,t,x=>by
   have ih:∀ (t:TypeId) (x:Place),TmC P Fs cl (follow l t x):=tmc_follow l
   exact⟨by
    unfold follow
    repeat exact tmS7c⟩
instance {l:List FieldStep}{t:TypeId}{x:Place}:TmC P Fs cl (follow l t x):=tmc_follow l t x
theorem tmc_followBlind:∀ (l:List FieldStep) (t:TypeId) (x:Option Value),TmC P Fs cl (followBlind l t x)
 | [],t,x=>⟨tm_pure trivial⟩
 | s :: l,t,x=>by
   have ih:∀ (t:TypeId) (x:Option Value),TmC P Fs cl (followBlind l t x):=tmc_followBlind l
   exact⟨by
    unfold followBlind
    repeat exact tmS7c⟩
instance {l:List FieldStep}{t:TypeId}{x:Option Value}:TmC P Fs cl (followBlind l t x):=tmc_followBlind l t x
theorem tmc_nilAhead:∀ (d:Nat) (t:TypeId) (v:Value) (n:String),TmC P Fs cl (nilAhead d t v n)
 | 0,t,v,n=>⟨tm_pure trivial⟩
 | d+1,t,v,n=>by
   have ih:∀ (t:TypeId) (v:Value) (n:String),TmC P Fs cl (nilAhead d t v n):=tmc_nilAhead d
   exact⟨by
    unfold nilAhead
    repeat exact tmS7c⟩
instance {d:Nat}{t:TypeId}{v:Value}{n:String}:TmC P Fs cl (nilAhead d t v n):=tmc_nilAhead d t v n
instance {t:TypeId}{p:Value}{n:String}:TmC P Fs cl (Builtin.ssaWrapNilChk_ #[t] t #[p,strVal "",strVal n]):=⟨by
 cases p <;> (try exact tm_stuck)
 rename_i p
 cases p with
 | some a=>exact tm_pure trivial
 | none=>
   change Tm P Fs cl (choose _ >>= _) _
   repeat exact tmS7c⟩
instance {t:TypeId}{x:Place}{b:Bool}{w:Option String}:TmC P Fs cl (receiverAt t x b w):=⟨by
 unfold receiverAt
 repeat exact tmS7c⟩
instance {t:TypeId}{v:Value}{l:Array FieldStep}{b:Bool}:TmC P Fs cl (receiverVia t v l b):=⟨by
 unfold receiverVia
 repeat exact tmS7c⟩
theorem tmc_method:∀ (d:Nat) (t:TypeId) (v:Value) (n:String),TmC P Fs cl (method d t v n)
 | 0,t,v,n=>⟨tm_unsup trivial⟩
 | d+1,t,v,n=>by
   have ih:∀ (t:TypeId) (v:Value) (n:String),TmC P Fs cl (method d t v n):=tmc_method d
   exact⟨by
    unfold method
    repeat exact tmS7c⟩
instance {d:Nat}{t:TypeId}{v:Value}{n:String}:TmC P Fs cl (method d t v n):=tmc_method d t v n
instance:TmC P Fs cl Instr.panicnil:=⟨by
 intro N
 refine .env fun r=>?_
 cases r <;> first | exact .ends trivial | exact .program rfl (.pure ⟨fun _ x=>x,trivial⟩)⟩
instance {x:Value}:TmC P Fs cl (Instr.panic x):=⟨by
 unfold Instr.panic
 repeat exact tmS7c⟩
theorem tm_underlyingQ(t:TypeId):Tm P Fs cl (underlying t) fun d=>P.underlying t=some d:=by
 refine tm_program rfl ?_
 have e:(ofF P Fs).underlying t=P.underlying t:=rfl
 rw[e]
 split
 ·exact tm_pure ‹_›
 ·exact tm_stuck
theorem tm_convert{s d:TypeId}{x:Value}(hs:P.underlying s≠some .unsafePointer)(hd:P.underlying d≠some .unsafePointer):Tm P Fs cl (convert s d x) fun _=>True:=by
 unfold convert
 refine (tm_underlyingQ s).bind fun a ha=>(tm_underlyingQ d).bind fun b hb=>?_
 have ha2:a≠.unsafePointer:=fun e=>hs (by rw[ha,e])
 have hb2:b≠.unsafePointer:=fun e=>hd (by rw[hb,e])
 split <;> first | exact absurd rfl ha2 | exact absurd rfl hb2 | skip
 all_goals
  repeat exact tmS7c
end
section
variable {P:Program} {Fs:Array Func} {cl:Loop->Prop} {α β:Type} {Q:α->Prop} {R:β->Prop}
theorem mayEmbed_ofF(ms:Array (String×TypeId)):(ofF P Fs).mayEmbedAPacks ms=P.mayEmbedAPacks ms:=by
 unfold Program.mayEmbedAPacks
 simp only[cutTypes_ofF,ownRow_ofF,underlying_ofF]
theorem namesPacked_ofF:∀ (d:Nat) (t:TypeId),(ofF P Fs).namesPacked d t=P.namesPacked d t
 | 0,_=>rfl
 | d+1,t=>by
   unfold Program.namesPacked
   have ih:=namesPacked_ofF d
   have ihf:(ofF P Fs).namesPacked d=P.namesPacked d:=funext ih
   simp only[ih,ihf,packed_ofF,info_ofF,cutTypes_ofF,ownRow_ofF,mayEmbed_ofF]
theorem methodsOfAPack_ofF:∀ (d:Nat) (t:TypeId),(ofF P Fs).methodsOfAPack d t=P.methodsOfAPack d t
 | 0,_=>rfl
 | d+1,t=>by
   unfold Program.methodsOfAPack
   have ih:=methodsOfAPack_ofF d
   simp only[ih,packed_ofF,underlying_ofF,mayEmbed_ofF]
open Go.Extern.Rtype Go.Extern
theorem tmS8a{s:Sem α}(h:Tm P Fs cl s Q:=by repeat (first | exact TmC.out | with_reducible refine tm_pureBind ?_ | with_reducible exact tm_stuckBind | ((with_reducible refine tm_program ?_ ?_);· first | (simp only[byteOfCell_ofF,cellAtBytes_ofF,eqGuardType_ofF,holdsPacked_ofF,stoodInHeld_ofF,cellsOf_ofF,packed_ofF,namesPacked_ofF,methodsOfAPack_ofF,bytesOf_ofF,depth_ofF,globals_ofF] <;> rfl) | rfl) | (with_reducible refine tm_getMapR (fun _ _=>?_) fun o ho=>by cases o <;> first | exact⟨_,rfl⟩ | exact absurd rfl (ho _ _)) | with_reducible refine Tm.bind (Q:=fun _=>True) ?_ fun _ _=>?_ | with_reducible refine tm_ite ?_ ?_ | with_reducible refine tm_forIn _ _ _ fun _ _=>?_ | with_reducible refine tm_forA fun _ _=>?_ | with_reducible refine tm_forR fun _ _=>?_ | split | dsimp only)):Tm P Fs cl s Q:=h
instance {s:String}:TmC P Fs cl (cutType s):=⟨by
 unfold Go.cutType
 repeat exact tmS8a⟩
instance {v:Value}:TmC P Fs cl (ofHandle v):=⟨by
 unfold Rtype.ofHandle
 repeat exact tmS8a⟩
instance {t:TypeId}:TmC P Fs cl (handle t):=⟨by
 unfold Rtype.handle
 repeat exact tmS8a⟩
instance {s:String}{t:TypeId}:TmC P Fs cl (noPack s t):=⟨by
 unfold Rtype.noPack
 repeat exact tmS8a⟩
instance {s:String}{t:TypeId}:TmC P Fs cl (noPackHeld s t):=⟨by
 unfold Rtype.noPackHeld
 repeat exact tmS8a⟩
instance {s:String}{t:TypeId}:TmC P Fs cl (noPackNamed s t):=⟨by
 unfold Rtype.noPackNamed
 repeat exact tmS8a⟩
instance {s:String}{t:TypeId}:TmC P Fs cl (noPackMethods s t):=⟨by
 unfold Rtype.noPackMethods
 repeat exact tmS8a⟩
instance {t:TypeId}:TmC P Fs cl (spelt t):=⟨by
 unfold Rtype.spelt
 repeat exact tmS8a⟩
instance {t:TypeId}:TmC P Fs cl (under t):=⟨by
 unfold Rtype.under
 repeat exact tmS8a⟩
instance {t:TypeId}:TmC P Fs cl (kind t):=⟨by
 unfold Rtype.kind
 repeat exact tmS8a⟩
instance {t:TypeId}:TmC P Fs cl (hasName t):=⟨by
 unfold Rtype.hasName
 repeat exact tmS8a⟩
instance {t:TypeId}:TmC P Fs cl (elem? t):=⟨by
 unfold Rtype.elem?
 repeat exact tmS8a⟩
instance {t u:TypeId}:TmC P Fs cl (implements t u):=⟨by
 unfold Rtype.implements
 repeat exact tmS8a⟩
instance {t u:TypeId}:TmC P Fs cl (directlyAssignable t u):=⟨by
 unfold Rtype.directlyAssignable
 repeat exact tmS8a⟩
instance {t:TypeId}:TmC P Fs cl (ReflectliteType.toType t):=⟨by
 unfold ReflectliteType.toType
 repeat exact tmS8a⟩
instance {v:Value}:TmC P Fs cl (ReflectliteType.ofRtype v):=⟨by
 unfold ReflectliteType.ofRtype
 cases v <;> (try exact tm_stuck)
 rename_i a
 rcases a with ⟨_ |⟨x,_ |⟨y,l⟩⟩⟩ <;> (try exact tm_stuck)
 change Tm P Fs cl (Rtype.ofHandle x >>= _) _
 repeat exact tmS8a⟩
instance {t:TypeId}:TmC P Fs cl (ReflectliteType.elem t):=⟨by
 unfold ReflectliteType.elem
 repeat exact tmS8a⟩
instance {u t:TypeId}:TmC P Fs cl (ReflectliteType.implements_ u t):=⟨by
 unfold ReflectliteType.implements_
 repeat exact tmS8a⟩
instance {u t:TypeId}:TmC P Fs cl (ReflectliteType.assignableTo u t):=⟨by
 unfold ReflectliteType.assignableTo
 repeat exact tmS8a⟩
theorem tm_typeOf(a:Array Value):Tm P Fs cl (ReflectliteType.typeOf a) fun _=>True:=by
 rcases a with ⟨_ |⟨x,_ |⟨y,l⟩⟩⟩ <;> (try exact tm_stuck)
 cases x <;> (try exact tm_stuck)
 case nilIface=>exact tm_pure trivial
 case iface=>exact (TmC.out:Tm P Fs cl (ReflectliteType.toType _) _)
theorem tm_rmethod{f:TypeId->Sem Value}(h:∀ t,Tm P Fs cl (f t) fun _=>True)(a:Array Value):Tm P Fs cl (ReflectliteType.method f a) fun _=>True:=by
 rcases a with ⟨_ |⟨x,_ |⟨y,l⟩⟩⟩ <;> (try exact tm_stuck)
 change Tm P Fs cl (ReflectliteType.ofRtype x >>= f) _
 exact Tm.bind TmC.out fun t _=>h t
theorem tm_relation{s:String}{f:TypeId->TypeId->Sem Bool}(h:∀ t u,Tm P Fs cl (f t u) fun _=>True)(a:Array Value):Tm P Fs cl (ReflectliteType.relation s f a) fun _=>True:=by
 rcases a with ⟨_ |⟨x,_ |⟨y,_ |⟨z,l⟩⟩⟩⟩ <;> (try exact tm_stuck)
 cases y <;> (try exact tm_stuck)
 case nilIface=>exact tm_panicString _
 case iface d u=>
  change Tm P Fs cl (ReflectliteType.ofRtype u >>= fun a=>ReflectliteType.ofRtype x >>= fun b=>f a b >>= fun r=>pure (Value.bool r)) _
  exact Tm.bind TmC.out fun a _=>Tm.bind TmC.out fun b _=>(h a b).bind fun _ _=>tm_pure trivial
theorem tm_abiMethod{f:TypeId->Sem Value}(h:∀ t,Tm P Fs cl (f t) fun _=>True)(a:Array Value):Tm P Fs cl (ReflectliteType.abiMethod f a) fun _=>True:=by
 rcases a with ⟨_ |⟨x,_ |⟨y,l⟩⟩⟩ <;> (try exact tm_stuck)
 change Tm P Fs cl (Rtype.ofHandle x >>= fun t=>noPack "a method of abi.Type" t >>= fun _=>f t) _
 exact Tm.bind TmC.out fun t _=>Tm.bind TmC.out fun _ _=>h t
instance {t:TypeId}{a:Addr}{n:Nat}:TmC P Fs cl (ReflectliteValue.mk t a n):=⟨by
 unfold ReflectliteValue.mk
 repeat exact tmS8a⟩
instance {v:Value}:TmC P Fs cl (ReflectliteValue.unpack v):=⟨by
 unfold ReflectliteValue.unpack
 repeat exact tmS8a⟩
instance {s:String}{k:Nat}:TmC P Fs cl (ReflectliteValue.valueError (α:=α) s k):=⟨by
 unfold ReflectliteValue.valueError
 repeat exact tmS8a⟩
instance {v:Value}:TmC P Fs cl (ReflectliteValue.partsAny v):=⟨by
 cases v <;> (try exact tm_stuck)
 rename_i a
 rcases a with ⟨_ |⟨x,_ |⟨y,_ |⟨z,_ |⟨u,l⟩⟩⟩⟩⟩ <;> (try exact tm_stuck)
 cases z <;> (try exact tm_stuck)
 rename_i k n
 cases k <;> (try exact tm_stuck)
 rcases n with (_ | n) | n
 ·exact tm_pure trivial
 all_goals
  cases y <;> (try exact tm_stuck)
  rename_i p
  cases p <;> (try exact tm_stuck)
  change Tm P Fs cl (Rtype.ofHandle x >>= _) _
  exact Tm.bind (Q:=fun _=>True) TmC.out fun _ _=>tm_pure trivial⟩
instance {v:Value}:TmC P Fs cl (ReflectliteValue.parts v):=⟨by
 unfold ReflectliteValue.parts
 repeat exact tmS8a⟩
theorem tm_vmethod{z:Sem Value}{f:TypeId->Addr->Nat->Nat->Sem Value}(hz:Tm P Fs cl z fun _=>True)(h:∀ t a b c,Tm P Fs cl (f t a b c) fun _=>True)(a:Array Value):Tm P Fs cl (ReflectliteValue.method z f a) fun _=>True:=by
 rcases a with ⟨_ |⟨x,_ |⟨y,l⟩⟩⟩ <;> (try exact tm_stuck)
 change Tm P Fs cl (ReflectliteValue.parts x >>= _) _
 refine Tm.bind (Q:=fun _=>True) TmC.out fun p _=>?_
 rcases p with _ |⟨t,b,n⟩
 ·exact hz
 ·exact h _ _ _ _
theorem tm_vmethodAny{z:Sem Value}{f:TypeId->Addr->Nat->Nat->Sem Value}(hz:Tm P Fs cl z fun _=>True)(h:∀ t a b c,Tm P Fs cl (f t a b c) fun _=>True)(a:Array Value):Tm P Fs cl (ReflectliteValue.methodAny z f a) fun _=>True:=by
 rcases a with ⟨_ |⟨x,_ |⟨y,l⟩⟩⟩ <;> (try exact tm_stuck)
 change Tm P Fs cl (ReflectliteValue.partsAny x >>= _) _
 refine Tm.bind (Q:=fun _=>True) TmC.out fun p _=>?_
 rcases p with _ |⟨t,b,n⟩
 ·exact hz
 ·exact h _ _ _ _
instance {t:TypeId}{a:Addr}{x k:Nat}:TmC P Fs cl (ReflectliteValue.isNil t a x k):=⟨by
 unfold ReflectliteValue.isNil
 repeat exact tmS8a⟩
instance {t:TypeId}{a:Addr}{x k:Nat}:TmC P Fs cl (ReflectliteValue.elem t a x k):=⟨by
 unfold ReflectliteValue.elem
 repeat exact tmS8a⟩
theorem tm_vset(a:Array Value):Tm P Fs cl (ReflectliteValue.set a) fun _=>True:=by
 rcases a with ⟨_ |⟨x,_ |⟨y,_ |⟨z,l⟩⟩⟩⟩ <;> (try exact tm_stuck)
 change Tm P Fs cl (ReflectliteValue.parts x >>= fun p=>ReflectliteValue.parts y >>= _) _
 refine Tm.bind (Q:=fun _=>True) TmC.out fun p _=>Tm.bind (Q:=fun _=>True) TmC.out fun q _=>?_
 rcases p with _ |⟨t,b,n⟩ <;> rcases q with _ |⟨u,c,m⟩ <;> (try exact tm_unsup trivial)
 dsimp only
 repeat exact tmS8a
end
def okBuiltin:Builtin->Bool
 | .append | .cap | .clear | .copy | .delete | .len | .max | .min=>true
 | _=>false
def okType(P:Program)(t:TypeId):Bool:=match P.underlying t with | some .unsafePointer=>false | _=>true
def zeroOp:Operand->Bool
 | .const (.int .i64 0)=>true
 | _=>false
theorem zeroOp_eq{s:Operand}(h:zeroOp s=true):s=.const (.int .i64 0):=by
 unfold zeroOp at h
 split at h
 ·rfl
 ·cases h
def okOp(P:Program):Op->Bool
 | .move _ | .assign _ | .pick .. | .alloc _ | .box .. | .build .. | .buildSlice .. | .insert .. | .load .. | .store .. | .nilCheck _ | .binOp .. | .unOp ..=>true
 | .makeChan _ s=>zeroOp s
 | .convert s d _=>okType P s && okType P d
 | .makeInterface .. | .makeFunc .. | .makeMap .. | .makeSlice .. | .slice .. | .fieldAddr .. | .field .. | .indexAddr .. | .index .. | .lookup .. | .mapUpdate .. | .mapEntry .. | .entryStore .. | .range .. | .next .. | .entry _ | .typeAssert .. | .extract .. | .panic _=>true
 | .call c=>match c.callee with | .builtin b=>okBuiltin b | _=>true
 | _=>false
def okCode(P:Program):Code->Bool
 | .skip | .exit _ | .label _ | .goto _ | .ret | .refuse _=>true
 | .region _ ops _=>ops.toList.all fun o=>okOp P o.op
 | .seq a b | .cond _ a b | .rangeFunc _ _ a b=>okCode P a && okCode P b
 | .block _ b | .loop b | .scope b=>okCode P b
def okFunc(P:Program)(E:List String)(fn:Func):Bool:=match fn.body with | some c=>okCode P c | none=>E.contains fn.name
def maskF(P:Program)(E:List String):Array Func:=P.funcs.map fun fn=>if okFunc P E fn then fn else {fn with body:=some (.refuse "")}
def NextOk(P:Program)(E:List String):Next->Prop
 | .value _ | .skip=>True
 | .enter f _=>∃ fn,P.funcs[f]?=some fn
 | .round _ f _ a b=>okCode P a=true/\okCode P b=true/\∃ fn,P.funcs[f]?=some fn/\okFunc P E fn=true
 | _=>False
def BadN(P:Program)(E:List String):Next->Prop
 | .enter f _=>∃ fn,P.funcs[f]?=some fn/\okFunc P E fn=false
 | _=>False
def clL(P:Program)(E:List String)(l:Loop):Prop:=okCode P l.assign=true/\okCode P l.body=true/\(∀ j,l.pending=some j->okCode P j=true)/\∃ fn,P.funcs[l.fn]?=some fn/\okFunc P E fn=true
structure Ext(P:Program)(E:List String):Prop where
 num:∀ (f:FuncId) (fn:Func),P.funcs[f]?=some fn->(fn.name == "runtime.NumGoroutine")=false
 ext:∀ (f:FuncId) (fn:Func),P.funcs[f]?=some fn->fn.body=none->E.contains fn.name=true->Extern.findNext fn=none/\∃ e,Extern.find fn=some e/\∀ F args,Tm (ofF P F) (maskF P E) (clL P E) (e args) fun _=>True
structure Alike(P:Program)(F:Array Func)(E:List String)(D:FuncId):Prop where
 same:∀ f,f≠D->F[f]?=P.funcs[f]?
 real:∃ fn c c' k,P.funcs[D]?=some fn/\fn.body=some c'/\okFunc P E fn=true/\F[D]?=some {fn with body:=some c,ntmps:=k}
section
variable {P:Program} {F:Array Func} {E:List String} {D:FuncId} {α:Type} {Q:α->Prop}
def TN(P:Program)(F:Array Func)(E:List String)(s:Sem Next):Prop:=∀ N,TameS (ofF P F) (ofF P (maskF P E)) (clL P E) (BadN P E) (fun N' nx=>(∀ x,N x->N' x)/\NextOk P E nx) N s
theorem TN.bind{s:Sem α}{f:α->Sem Next}(h:Tm (ofF P F) (maskF P E) (clL P E) s Q)(hf:∀ a,Q a->TN P F E (f a)):TN P F E (s >>= f):=
 fun N=>TameS.bindT h fun N' a hN hq=>(hf a hq N').mono (fun _ h=>h) fun N2 nx h=>⟨fun x hx=>h.1 x (hN x hx),h.2⟩
theorem TN.ofTm{s:Sem Next}(h:Tm (ofF P F) (maskF P E) (clL P E) s (NextOk P E)):TN P F E s:=fun N=>(h N).mono (fun _ h=>h.elim) fun _ _ h=>h
theorem tn_value{s:Sem Value}(h:Tm (ofF P F) (maskF P E) (clL P E) s fun _=>True):TN P F E (do pure (.value (<-s))):=TN.bind h fun _ _=>TN.ofTm (tm_pure trivial)
theorem tn_unit{s:Sem Unit}(h:Tm (ofF P F) (maskF P E) (clL P E) s fun _=>True):TN P F E (do s;pure .skip):=TN.bind h fun _ _=>TN.ofTm (tm_pure trivial)
theorem tn_ret{v:Value}:TN P F E (pure (.value v)):=TN.ofTm (tm_pure trivial)
theorem tn_stuck{s:String}:TN P F E (stuck s):=TN.ofTm tm_stuck
theorem tn_panic{e:RuntimeError}:TN P F E (runtimePanic e):=TN.ofTm (tm_runtimePanic e)
theorem maskF_get(f:Nat):(maskF P E)[f]?=P.funcs[f]?.map fun fn=>if okFunc P E fn then fn else {fn with body:=some (.refuse "")}:=by simp[maskF]
theorem tn_program{k:Program->Sem Next}(hk:k (ofF P F)=k (ofF P (maskF P E)))(h:TN P F E (k (ofF P (maskF P E)))):TN P F E (program >>= k):=fun N=>.program hk (h N)
theorem tn_bad{k:Program->Sem Next}{a:Next}(hk:k (ofF P (maskF P E))=pure a)(hb:BadN P E a)(hn:NextOk P E a):TN P F E (program >>= k):=fun N=>.bad hk hb ⟨fun _ x=>x,hn⟩
theorem tn_callFunc(hE:Ext P E)(hA:Alike P F E D)(f:FuncId)(args:Array Value):TN P F E (callFunc f args):=by
 unfold callFunc
 have hm:(ofF P (maskF P E)).funcs[f]?=_:=maskF_get (P:=P) (E:=E) f
 by_cases hD:f=D
 ·subst hD
  obtain⟨fn,c,c',kk,h1,h2,h3,h4⟩:=hA.real
  have hn:=hE.num f fn h1
  rw[h1,Option.map_some,if_pos h3]at hm
  refine tn_program ?_ ?_
  ·dsimp only
   rw[h4,hm]
   dsimp only
   rw[hn,h2]
   rfl
  ·dsimp only
   rw[hm]
   dsimp only
   rw[hn,h2]
   exact TN.ofTm (tm_pure ⟨fn,h1⟩)
 have hF:=hA.same f hD
 cases hf:P.funcs[f]? with
 | none=>
   rw[hf,Option.map_none]at hm
   refine tn_program ?_ ?_
   ·dsimp only
    rw[hF,hf,hm]
   ·dsimp only
    rw[hm]
    exact tn_stuck
 | some fn=>
   rw[hf,Option.map_some]at hm
   have hn:=hE.num f fn hf
   cases hk:okFunc P E fn with
   | false=>
     rw[if_neg (by simp[hk])]at hm
     refine tn_bad (a:=.enter f args) ?_ ⟨fn,hf,hk⟩ ⟨fn,hf⟩
     dsimp only
     rw[hm]
     dsimp only
     rw[hn]
     rfl
   | true=>
     rw[if_pos hk]at hm
     refine tn_program ?_ ?_
     ·dsimp only
      rw[hF,hf,hm]
     ·dsimp only
      rw[hm]
      dsimp only
      rw[hn]
      cases hb:fn.body with
      | some c=>exact TN.ofTm (tm_pure ⟨fn,hf⟩)
      | none=>
        have hc:E.contains fn.name=true:=by simpa only[okFunc,hb]using hk
        obtain⟨e1,e,e2,e3⟩:=hE.ext f fn hf hb hc
        simp only[Option.isNone_none,if_true,e1,e2]
        intro N
        exact .mark (.inr ⟨f,rfl⟩) (tn_value (e3 F args) N)
theorem tn_callMethod(hE:Ext P E)(hA:Alike P F E D)(r:Value)(n:String)(args:Array Value):TN P F E (callMethod r n args):=by
 unfold callMethod
 split
 ·intro N
  exact .program rfl (TN.bind TmC.out (fun _ _=>tn_callFunc hE hA _ _) N)
 ·exact tn_panic
 ·exact tn_stuck
theorem tm_getLoop(l:Nat):Tm (ofF P F) (maskF P E) (clL P E) (Instr.getLoop l) (clL P E):=by
 unfold Instr.getLoop
 refine tm_getAny (fun o ho=>?_) ⟨_,rfl,trivial⟩ fun _ _=>⟨_,rfl,trivial⟩
 split
 ·exact tm_pure ho
 ·exact tm_stuck
theorem tn_yield(l:Nat)(args:Array Value):TN P F E (Instr.yield l args):=by
 unfold Instr.yield
 refine TN.bind (tm_getLoop l) fun r hr=>?_
 dsimp only
 split
 ·exact tn_stuck
 ·exact TN.ofTm (tm_pure ⟨hr.1,hr.2.1,hr.2.2.2⟩)
theorem tn_builtin(b:Builtin)(hb:okBuiltin b=true)(a:Array TypeId)(t:TypeId)(c:Array Bool)(args:Array Value):TN P F E (builtin b a t c args):=by
 cases b <;> first | exact absurd hb (by decide) | exact tn_value TmC.out
def TgtOk:Target->Prop
 | .fn .. | .nil=>True
 | .builtin b ..=>okBuiltin b=true
 | _=>False
theorem tn_invoke(hE:Ext P E)(hA:Alike P F E D)(t:Target)(ht:TgtOk t)(args:Array Value):TN P F E (invoke t args):=by
 unfold invoke
 split
 ·exact tn_panic
 ·exact tn_builtin _ ht _ _ _ _
 ·exact tn_callFunc hE hA _ _
 ·split
  ·exact tn_callMethod hE hA _ _ _
  ·exact tn_stuck
 ·split
  ·refine TN.bind (Q:=fun _=>True) TmC.out fun d _=>?_
   split <;> exact tn_callMethod hE hA _ _ _
  ·exact tn_stuck
 ·split
  ·exact TN.bind (Q:=fun _=>True) TmC.out fun _ _=>tn_callFunc hE hA _ _
  ·exact tn_stuck
 ·exact tn_yield _ _
 ·exact tn_stuck
 ·exact ht.elim
theorem tm_ofValue(f:Value)(args:Array Value):Tm (ofF P F) (maskF P E) (clL P E) (Deferred.ofValue f args) fun d=>TgtOk d.target:=by
 unfold Deferred.ofValue
 split
 ·exact tm_pure trivial
 ·exact tm_pure trivial
 ·exact tm_stuck
theorem tm_resolve(ρ:Operand->Value)(c:Call)(hc:okOp P (.call c)=true)(t:TypeId):Tm (ofF P F) (maskF P E) (clL P E) (resolve ρ c t) fun d=>TgtOk d.target:=by
 unfold resolve
 obtain⟨callee,az,ats⟩:=c
 cases callee with
 | builtin b=>exact tm_pure hc
 | invoke r n=>exact tm_pure trivial
 | value f=>exact tm_ofValue _ _
theorem okType_ne{t:TypeId}(h:okType P t=true):P.underlying t≠some .unsafePointer:=fun e=>by simp[okType,e]at h
theorem tm_makeChan(t:TypeId):Tm (ofF P F) (maskF P E) (clL P E) (Instr.makeChan t (.int .i64 0)) fun _=>True:=by
 unfold Instr.makeChan
 refine Tm.bind (Q:=fun x=>x=0) (tm_pure rfl) fun n hn=>?_
 subst hn
 refine Tm.bind (Q:=fun _=>True) TmC.out fun x _=>?_
 split
 ·refine Tm.bind (Q:=fun _=>True) TmC.out fun y _=>?_
  split
  ·exact Tm.bind (Q:=fun _=>True) TmC.out fun _ _=>Tm.bind (Q:=fun _=>True) (tm_newObj _ ⟨rfl,rfl,rfl,rfl,rfl,rfl⟩) fun _ _=>tm_pure trivial
  ·exact Tm.bind (Q:=fun _=>True) (tm_newObj _ ⟨rfl,rfl,rfl,rfl,rfl,rfl⟩) fun _ _=>tm_pure trivial
 ·exact tm_stuck
theorem tn_execOp(hE:Ext P E)(hA:Alike P F E D)(ρ:Operand->Value)(hρ:∀ v,ρ (.const v)=v)(o:Oper)(ho:okOp P o.op=true):TN P F E (execOp ρ o):=by
 unfold execOp
 cases h:o.op <;> (rw[h]at ho) <;> first | (exfalso;simp[okOp]at ho;done) | exact tn_ret | exact tn_value TmC.out | exact tn_unit TmC.out | skip
 case pick=>exact TN.bind (Q:=fun _=>True) TmC.out fun _ _=>tn_ret
 case nilCheck=>
  dsimp only
  repeat (first | exact tn_ret | exact tn_panic | exact TN.ofTm (tm_unsup trivial) | with_reducible refine tn_program rfl ?_ | with_reducible refine TN.bind (Q:=fun _=>True) TmC.out fun _ _=>?_ | split | dsimp only)
 case binOp=>exact tn_value (Tm.bind (Q:=fun _=>True) TmC.out fun _ _=>TmC.out)
 case convert=>
  simp only[okOp,Bool.and_eq_true]at ho
  exact tn_value (tm_convert (okType_ne ho.1) (okType_ne ho.2))
 case makeChan t s=>
  obtain rfl:=zeroOp_eq ho
  exact tn_value (by rw[hρ];exact tm_makeChan t)
 case call c=>exact TN.bind (tm_resolve ρ c ho _) fun d hd=>tn_invoke hE hA _ hd _
end
section
variable {P:Program} {F:Array Func} {E:List String} {α β:Type} {Q:α->Prop} {R:β->Prop}
theorem tm_loopN{l:Nat}{f:Loop->Sem β}(h:∀ r,clL P E r->TmN (ofF P F) (maskF P E) (clL P E) l (f r) R):Tm (ofF P F) (maskF P E) (clL P E) (Instr.getLoop l >>= f) R:=by
 have e:(Instr.getLoop l >>= f)=(getObj l >>= fun o=>(match o with | .loop r=>f r | _=>stuck "range over a function: no such loop")):=by
  show Sem.getObj l _=Sem.getObj l _
  congr 1
  funext o
  cases o <;> rfl
 rw[e]
 refine tm_get (fun o ho _=>⟨fun hg=>?_,fun hg=>?_⟩) ⟨_,rfl,trivial⟩ fun _ _=>⟨_,rfl,trivial⟩
 ·cases o <;> first | exact h _ ho | exact tm_stuck.toN
 ·cases o <;> first | exact absurd trivial hg | exact tm_stuck
theorem tm_enterLoop(fn:FuncId)(tmps:Array Value)(params:Array Tmp)(assign body:Code)(ha:okCode P assign=true)(hb:okCode P body=true)(hf:∃ f,P.funcs[fn]?=some f/\okFunc P E f=true)(around:Option Nat):
  Tm (ofF P F) (maskF P E) (clL P E) (Instr.enterLoop fn tmps params assign body around) fun x=>x.2=[]\/∃ r,x.2=[{target:=.collected r,args:=#[]}]:=by
 unfold Instr.enterLoop
 have hl:∀ d,CObj (clL P E) (.loop {state:=.ready,pending:=none,fn,tmps,params,assign,body,defers:=d}):=fun d=>⟨ha,hb,(fun j hj=>by cases hj),hf⟩
 cases around with
 | some l=>
   dsimp only
   refine (tm_getLoop l).bind fun r _=>tm_pureBind ?_
   exact (tm_newObj _ (hl _)).bind fun _ _=>tm_pure (.inl rfl)
 | none=>
   dsimp only
   refine (tm_newObj (.deferred (some [])) (by rfl)).bind fun r _=>tm_pureBind ?_
   exact (tm_newObj _ (hl _)).bind fun _ _=>tm_pure (.inr ⟨r,rfl⟩)
theorem tm_beginRound(l:Nat):Tm (ofF P F) (maskF P E) (clL P E) (Instr.beginRound l) fun _=>True:=by
 unfold Instr.beginRound
 refine tm_loopN fun r hr=>?_
 refine TmN.bindN (Q:=fun _=>True) (tmN_set (o:=.loop {r with state:=.busy}) ⟨hr.1,hr.2.1,hr.2.2⟩ trivial) fun _ _=>?_
 split <;> first | exact Tm.toN (tm_pure trivial) | exact Tm.toN (tm_runtimePanic _)
theorem tm_endRound(l:Nat)(j:Option Code)(hj:∀ c,j=some c->okCode P c=true):Tm (ofF P F) (maskF P E) (clL P E) (Instr.endRound l j) fun _=>True:=by
 unfold Instr.endRound
 refine tm_loopN fun r hr=>?_
 exact TmN.bindN (Q:=fun _=>True) (tmN_set (o:=.loop {r with state:=if j.isNone then .ready else .done,pending:=j}) ⟨hr.1,hr.2.1,hj,hr.2.2.2⟩ trivial) fun _ _=>Tm.toN (tm_pure trivial)
theorem tm_endLoop(l:Nat):Tm (ofF P F) (maskF P E) (clL P E) (Instr.endLoop l) fun j=>∀ c,j=some c->okCode P c=true:=by
 unfold Instr.endLoop
 refine tm_loopN fun r hr=>?_
 have h2:TmN (ofF P F) (maskF P E) (clL P E) l (do setObj l (.loop {r with state:=.exhausted});pure r.pending) fun j=>∀ c,j=some c->okCode P c=true:=
  TmN.bindN (Q:=fun _=>True) (tmN_set (o:=.loop {r with state:=.exhausted}) ⟨hr.1,hr.2.1,hr.2.2⟩ trivial) fun _ _=>Tm.toN (tm_pure hr.2.2.1)
 dsimp only
 split
 ·exact TmN.bindN (Q:=fun _=>True) (Tm.toN (tm_runtimePanic _)) fun _ _=>h2
 ·exact h2
theorem tm_takeDeferred(b:Nat):Tm (ofF P F) (maskF P E) (clL P E) (Instr.takeDeferred b) fun ds=>ds=[]:=by
 unfold Instr.takeDeferred
 refine tm_get (fun o ho hn=>⟨fun hg=>?_,fun hg=>?_⟩) ⟨_,rfl,trivial⟩ fun _ _=>⟨_,rfl,trivial⟩
 ·clear hn
  cases o <;> first | exact tm_stuck.toN | skip
  rename_i ds
  cases ds with
  | none=>exact tm_stuck.toN
  | some ds=>
    obtain rfl:ds=[]:=ho
    exact TmN.bindN (Q:=fun _=>True) (tmN_set trivial trivial) fun _ _=>Tm.toN (tm_pure rfl)
 ·cases o <;> first | exact absurd trivial hg | exact tm_stuck
theorem tm_results(fn:Func)(tmps:Array Value):Tm (ofF P F) (maskF P E) (clL P E) (results fn tmps) fun _=>True:=by
 unfold results
 refine Tm.bind (Q:=fun _=>True) (tm_mapA fun v=>?_) fun _ _=>tm_pure trivial
 split
 ·exact tm_pure trivial
 ·exact Tm.bind (Q:=fun _=>True) TmC.out fun _ _=>TmC.out
end
end
end Go.Proofs.YticobikhndlejaaGreatDoor
