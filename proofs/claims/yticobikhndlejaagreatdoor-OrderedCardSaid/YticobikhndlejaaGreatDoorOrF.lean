/- Part 6 of the proof (see the last part). -/
import Derived.Test.YticobikhndlejaaGreatDoorRows
import Derived.Test.YticobikhndlejaaGreatDoorOrE
import Derived.Conc.TokenWords
import Derived.WalkSpells
import Derived.WalkLawsBesides
import Derived.Lib.Hide
import Derived.Handy
namespace Go.Proofs.YticobikhndlejaaGreatDoor
section
open Go Go.Conc
open Go.ConcN (upd upd_same upd_ne)
abbrev dD:FuncId:=26
abbrev dK:FuncId:=47
def cHd:Code->Code | .seq a _=>a | c=>c
def cTl:Code->Code | .seq _ b=>b | c=>c
def cIn:Code->Code | .block _ b=>b | .loop b=>b | c=>c
def cOps:Code->Array Oper | .region _ ops _=>ops | _=>#[]
def cYes:Code->Code | .cond _ a _=>a | c=>c
noncomputable def bD:Code:=(Tryz.f26.body).getD .skip
noncomputable def bK:Code:=(Tryz.f47.body).getD .skip
noncomputable def kLoop:Code:=cIn (cIn (cTl bK))
noncomputable def kSel:Code:=cHd (cTl (cIn kLoop))
noncomputable def kArm:Code:=cYes (cIn (cTl (cTl (cIn kLoop))))
noncomputable def kOps4:Array Oper:=cOps (cHd kArm)
noncomputable def kOps5:Array Oper:=cOps (cTl kArm)
def ghOp(o:Oper):Oper:=
 match o.op with
 | .go _=>{o with dst:=some 53,op:=.move (.tmp 16)}
 | .send _ v=>{o with op:=.move v}
 | .recv ..=>{o with op:=.move (if o.dst == some 39 then .tmp 83 else .const (.agg #[]))}
 | .call ⟨.builtin .close,xs,_⟩=>{o with op:=.move (xs.getD 0 (.const undef))}
 | _=>o
noncomputable def ghOps4:Array Oper:=#[{dst:=some 69,op:=.move (.tmp 36),type:=0,pos:= "",after:=#[],guard:=none},shOper (kOps4.getD 1 default),shOper (kOps4.getD 2 default)]
noncomputable def gh4:Code:=.region 104 ghOps4 false
noncomputable def gh5:Code:=.region 105 (kOps5.map shOper) true
noncomputable def kT:TypeId:=match (kOps5.getD 1 default).op with | .load t _=>t | _=>0
noncomputable def gh6:Code:=.region 106 #[{dst:=some 54,op:=.binOp .eql kT (.tmp 71) (.tmp 9) kT,type:=0,pos:= "",after:=#[],guard:=none}] false
def gh7:Code:=.cond (.tmp 54) .skip (.refuse "")
def mapA(g:Oper->Oper)(a:Array Oper):Array Oper:=(a.toList.map g).toArray
noncomputable def gh:Code->Code
 | .seq (.region 10 ops d) b=>.seq (.region 10 (mapA ghOp ops) d) (.seq gh4 (.seq gh5 (.seq gh6 (.seq gh7 (gh b)))))
 | .seq a b=>.seq (gh a) (gh b)
 | .cond c a b=>.cond c (gh a) (gh b)
 | .block i b=>.block i (gh b)
 | .loop b=>.loop (gh b)
 | .region id ops d=>.region id (mapA ghOp ops) d
 | c=>c
def clr:List Nat:=[53,61,69,70,71,72,73,74,75,76,77,78,79,80,81,82,83]
def gh0:Array Oper:=(clr.map fun d=>{dst:=some d,op:=.move (.const undef),type:=0,pos:= "",after:=#[],guard:=none:Oper}).toArray
noncomputable def gD:Code:=.seq (.region 99 gh0 false) (gh bD)
noncomputable def gfn:Func:={Tryz.f26 with body:=some gD,ntmps:=84}
noncomputable def gP:Program:=ofF Tryz.prog (Tryz.prog.funcs.setIfInBounds dD gfn)
theorem ofF_funcs(P:Program)(Fs:Array Func):(ofF P Fs).funcs=Fs:=rfl
theorem gP_lt:dD<Tryz.prog.funcs.size:=(Array.getElem?_eq_some_iff.1 Tryz.func26).1
theorem gP_funcs:gP.funcs=Tryz.prog.funcs.setIfInBounds dD gfn:=by unfold gP;exact ofF_funcs _ _
theorem gP_D:gP.funcs[dD]?=some gfn:=by
 rw[gP_funcs]
 exact Array.getElem?_setIfInBounds_self_of_lt gP_lt
theorem gP_ne{g:FuncId}(h:g≠dD):gP.funcs[g]?=Tryz.prog.funcs[g]?:=by
 rw[gP_funcs]
 exact Array.getElem?_setIfInBounds_ne (fun e=>h e.symm)
def gE:List String:=["internal/reflectlite.TypeOf","internal/reflectlite.ValueOf","(internal/reflectlite.Value).Type","(internal/reflectlite.Value).IsNil","(internal/reflectlite.Value).Elem","(internal/reflectlite.Value).Set","(*internal/abi.Type).Kind","(internal/reflectlite.rtype).AssignableTo","(internal/reflectlite.rtype).Comparable","(internal/reflectlite.rtype).Elem","(internal/reflectlite.rtype).Implements"]
theorem gfn_ok:okFunc gP gE gfn=true:=by kernel_rfl
theorem alike:Alike gP Tryz.prog.funcs gE dD:=
 ⟨fun g hg=>(gP_ne hg).symm,gfn,bD,gD,Tryz.f26.ntmps,gP_D,rfl,gfn_ok,Tryz.func26⟩
end
end Go.Proofs.YticobikhndlejaaGreatDoor
namespace Go.Proofs
section
open Go
noncomputable def Tryx.f0:Func:={Tryz.f0 with body:=some (.refuse "")}
noncomputable def Tryx.f1:Func:={Tryz.f1 with body:=some (.refuse "")}
noncomputable def Tryx.f47:Func:={Tryz.f47 with body:=some (.refuse "")}
noncomputable def Tryx.f162:Func:={Tryz.f162 with body:=some (.refuse "")}
noncomputable def Tryx.f163:Func:={Tryz.f163 with body:=some (.refuse "")}
noncomputable def Tryx.f164:Func:={Tryz.f164 with body:=some (.refuse "")}
noncomputable def Tryx.f165:Func:={Tryz.f165 with body:=some (.refuse "")}
noncomputable def Tryx.f166:Func:={Tryz.f166 with body:=some (.refuse "")}
noncomputable def Tryx.f167:Func:={Tryz.f167 with body:=some (.refuse "")}
noncomputable def Tryx.f168:Func:={Tryz.f168 with body:=some (.refuse "")}
noncomputable def Tryx.f169:Func:={Tryz.f169 with body:=some (.refuse "")}
noncomputable def Tryx.f170:Func:={Tryz.f170 with body:=some (.refuse "")}
noncomputable def Tryx.f171:Func:={Tryz.f171 with body:=some (.refuse "")}
noncomputable def Tryx.f172:Func:={Tryz.f172 with body:=some (.refuse "")}
noncomputable def Tryx.f173:Func:={Tryz.f173 with body:=some (.refuse "")}
noncomputable def Tryx.f174:Func:={Tryz.f174 with body:=some (.refuse "")}
noncomputable def Tryx.f175:Func:={Tryz.f175 with body:=some (.refuse "")}
noncomputable def Tryx.f177:Func:={Tryz.f177 with body:=some (.refuse "")}
noncomputable def Tryx.f178:Func:={Tryz.f178 with body:=some (.refuse "")}
noncomputable def Tryx.f179:Func:={Tryz.f179 with body:=some (.refuse "")}
noncomputable def Tryx.f180:Func:={Tryz.f180 with body:=some (.refuse "")}
noncomputable def Tryx.f182:Func:={Tryz.f182 with body:=some (.refuse "")}
noncomputable def Tryx.f183:Func:={Tryz.f183 with body:=some (.refuse "")}
noncomputable def Tryx.f184:Func:={Tryz.f184 with body:=some (.refuse "")}
noncomputable def Tryx.f185:Func:={Tryz.f185 with body:=some (.refuse "")}
noncomputable def Tryx.f190:Func:={Tryz.f190 with body:=some (.refuse "")}
noncomputable def Tryx.f191:Func:={Tryz.f191 with body:=some (.refuse "")}
noncomputable def Tryx.f192:Func:={Tryz.f192 with body:=some (.refuse "")}
noncomputable def Tryx.f193:Func:={Tryz.f193 with body:=some (.refuse "")}
noncomputable def Tryx.f194:Func:={Tryz.f194 with body:=some (.refuse "")}
noncomputable def Tryx.f195:Func:={Tryz.f195 with body:=some (.refuse "")}
noncomputable def Tryx.f196:Func:={Tryz.f196 with body:=some (.refuse "")}
noncomputable def Tryx.f197:Func:={Tryz.f197 with body:=some (.refuse "")}
noncomputable def Tryx.f198:Func:={Tryz.f198 with body:=some (.refuse "")}
noncomputable def Tryx.f199:Func:={Tryz.f199 with body:=some (.refuse "")}
noncomputable def Tryx.f26:Func:=YticobikhndlejaaGreatDoor.gfn
noncomputable def Tryx.funcs:Array Func:=#[Tryx.f0,Tryx.f1,Tryz.f2,Tryz.f3,Tryz.f4,Tryz.f5,Tryz.f6,Tryz.f7,Tryz.f8,Tryz.f9,Tryz.f10,Tryz.f11,Tryz.f12,Tryz.f13,Tryz.f14,Tryz.f15,Tryz.f16,Tryz.f17,Tryz.f18,Tryz.f19,Tryz.f20,Tryz.f21,Tryz.f22,Tryz.f23,Tryz.f24,Tryz.f25,Tryx.f26,Tryz.f27,Tryz.f28,Tryz.f29,Tryz.f30,Tryz.f31,Tryz.f32,Tryz.f33,Tryz.f34,Tryz.f35,Tryz.f36,Tryz.f37,Tryz.f38,Tryz.f39,Tryz.f40,Tryz.f41,Tryz.f42,Tryz.f43,Tryz.f44,Tryz.f45,Tryz.f46,Tryx.f47,Tryz.f48,Tryz.f49,Tryz.f50,Tryz.f51,Tryz.f52,Tryz.f53,Tryz.f54,Tryz.f55,Tryz.f56,Tryz.f57,Tryz.f58,Tryz.f59,Tryz.f60,Tryz.f61,Tryz.f62,Tryz.f63,Tryz.f64,Tryz.f65,Tryz.f66,Tryz.f67,Tryz.f68,Tryz.f69,Tryz.f70,Tryz.f71,Tryz.f72,Tryz.f73,Tryz.f74,Tryz.f75,Tryz.f76,Tryz.f77,Tryz.f78,Tryz.f79,Tryz.f80,Tryz.f81,Tryz.f82,Tryz.f83,Tryz.f84,Tryz.f85,Tryz.f86,Tryz.f87,Tryz.f88,Tryz.f89,Tryz.f90,Tryz.f91,Tryz.f92,Tryz.f93,Tryz.f94,Tryz.f95,Tryz.f96,Tryz.f97,Tryz.f98,Tryz.f99,Tryz.f100,Tryz.f101,Tryz.f102,Tryz.f103,Tryz.f104,Tryz.f105,Tryz.f106,Tryz.f107,Tryz.f108,Tryz.f109,Tryz.f110,Tryz.f111,Tryz.f112,Tryz.f113,Tryz.f114,Tryz.f115,Tryz.f116,Tryz.f117,Tryz.f118,Tryz.f119,Tryz.f120,Tryz.f121,Tryz.f122,Tryz.f123,Tryz.f124,Tryz.f125,Tryz.f126,Tryz.f127,Tryz.f128,Tryz.f129,Tryz.f130,Tryz.f131,Tryz.f132,Tryz.f133,Tryz.f134,Tryz.f135,Tryz.f136,Tryz.f137,Tryz.f138,Tryz.f139,Tryz.f140,Tryz.f141,Tryz.f142,Tryz.f143,Tryz.f144,Tryz.f145,Tryz.f146,Tryz.f147,Tryz.f148,Tryz.f149,Tryz.f150,Tryz.f151,Tryz.f152,Tryz.f153,Tryz.f154,Tryz.f155,Tryz.f156,Tryz.f157,Tryz.f158,Tryz.f159,Tryz.f160,Tryz.f161,Tryx.f162,Tryx.f163,Tryx.f164,Tryx.f165,Tryx.f166,Tryx.f167,Tryx.f168,Tryx.f169,Tryx.f170,Tryx.f171,Tryx.f172,Tryx.f173,Tryx.f174,Tryx.f175,Tryz.f176,Tryx.f177,Tryx.f178,Tryx.f179,Tryx.f180,Tryz.f181,Tryx.f182,Tryx.f183,Tryx.f184,Tryx.f185,Tryz.f186,Tryz.f187,Tryz.f188,Tryz.f189,Tryx.f190,Tryx.f191,Tryx.f192,Tryx.f193,Tryx.f194,Tryx.f195,Tryx.f196,Tryx.f197,Tryx.f198,Tryx.f199,Tryz.f200]
noncomputable def Tryx.prog:Program:=YticobikhndlejaaGreatDoor.ofF Tryz.prog Tryx.funcs
theorem Tryx.mask:YticobikhndlejaaGreatDoor.ofF YticobikhndlejaaGreatDoor.gP (YticobikhndlejaaGreatDoor.maskF YticobikhndlejaaGreatDoor.gP YticobikhndlejaaGreatDoor.gE)=Tryx.prog:=by
 have h:YticobikhndlejaaGreatDoor.maskF YticobikhndlejaaGreatDoor.gP YticobikhndlejaaGreatDoor.gE=Tryx.funcs:=by kernel_rfl
 unfold Tryx.prog
 rw[h]
 unfold YticobikhndlejaaGreatDoor.gP
 rfl
theorem call_of{P:Program}{f:FuncId}{fn:Func}(h:P.funcs[f]?=some fn)(hn:(fn.name == "runtime.NumGoroutine")=false)(hb:fn.body.isNone=false)(args:Array Value)(w:World):(callFunc f args).run P w=.ok (.enter f args) w:=by
 have e:(callFunc f args).run P w=(match P.funcs[f]? with | none=>(stuck "call: no such function":Sem Next) | some fn=>_).run P w:=rfl
 rw[e,h]
 dsimp only
 rw[hn,hb]
 rfl
@[simp] theorem Tryx.func8:Tryx.prog.funcs[8]?=some Tryz.f8:=by kernel_rfl
@[simp] theorem Tryx.func12:Tryx.prog.funcs[12]?=some Tryz.f12:=by kernel_rfl
@[simp] theorem Tryx.func13:Tryx.prog.funcs[13]?=some Tryz.f13:=by kernel_rfl
@[simp] theorem Tryx.func14:Tryx.prog.funcs[14]?=some Tryz.f14:=by kernel_rfl
@[simp] theorem Tryx.func15:Tryx.prog.funcs[15]?=some Tryz.f15:=by kernel_rfl
@[simp] theorem Tryx.func16:Tryx.prog.funcs[16]?=some Tryz.f16:=by kernel_rfl
@[simp] theorem Tryx.func17:Tryx.prog.funcs[17]?=some Tryz.f17:=by kernel_rfl
@[simp] theorem Tryx.func18:Tryx.prog.funcs[18]?=some Tryz.f18:=by kernel_rfl
@[simp] theorem Tryx.func19:Tryx.prog.funcs[19]?=some Tryz.f19:=by kernel_rfl
@[simp] theorem Tryx.func20:Tryx.prog.funcs[20]?=some Tryz.f20:=by kernel_rfl
@[simp] theorem Tryx.func21:Tryx.prog.funcs[21]?=some Tryz.f21:=by kernel_rfl
@[simp] theorem Tryx.func22:Tryx.prog.funcs[22]?=some Tryz.f22:=by kernel_rfl
@[simp] theorem Tryx.func25:Tryx.prog.funcs[25]?=some Tryz.f25:=by kernel_rfl
@[simp] theorem Tryx.func26:Tryx.prog.funcs[26]?=some Tryx.f26:=by kernel_rfl
@[simp] theorem Tryx.func27:Tryx.prog.funcs[27]?=some Tryz.f27:=by kernel_rfl
@[simp] theorem Tryx.func28:Tryx.prog.funcs[28]?=some Tryz.f28:=by kernel_rfl
@[simp] theorem Tryx.func32:Tryx.prog.funcs[32]?=some Tryz.f32:=by kernel_rfl
@[simp] theorem Tryx.func33:Tryx.prog.funcs[33]?=some Tryz.f33:=by kernel_rfl
@[simp] theorem Tryx.func34:Tryx.prog.funcs[34]?=some Tryz.f34:=by kernel_rfl
@[simp] theorem Tryx.func35:Tryx.prog.funcs[35]?=some Tryz.f35:=by kernel_rfl
@[simp] theorem Tryx.func36:Tryx.prog.funcs[36]?=some Tryz.f36:=by kernel_rfl
@[simp] theorem Tryx.func37:Tryx.prog.funcs[37]?=some Tryz.f37:=by kernel_rfl
@[simp] theorem Tryx.func38:Tryx.prog.funcs[38]?=some Tryz.f38:=by kernel_rfl
@[simp] theorem Tryx.func39:Tryx.prog.funcs[39]?=some Tryz.f39:=by kernel_rfl
@[simp] theorem Tryx.func40:Tryx.prog.funcs[40]?=some Tryz.f40:=by kernel_rfl
@[simp] theorem Tryx.func41:Tryx.prog.funcs[41]?=some Tryz.f41:=by kernel_rfl
@[simp] theorem Tryx.func42:Tryx.prog.funcs[42]?=some Tryz.f42:=by kernel_rfl
@[simp] theorem Tryx.func43:Tryx.prog.funcs[43]?=some Tryz.f43:=by kernel_rfl
@[simp] theorem Tryx.func44:Tryx.prog.funcs[44]?=some Tryz.f44:=by kernel_rfl
@[simp] theorem Tryx.func46:Tryx.prog.funcs[46]?=some Tryz.f46:=by kernel_rfl
@[simp] theorem Tryx.func48:Tryx.prog.funcs[48]?=some Tryz.f48:=by kernel_rfl
@[simp] theorem Tryx.func59:Tryx.prog.funcs[59]?=some Tryz.f59:=by kernel_rfl
@[simp] theorem Tryx.func60:Tryx.prog.funcs[60]?=some Tryz.f60:=by kernel_rfl
@[simp] theorem Tryx.func61:Tryx.prog.funcs[61]?=some Tryz.f61:=by kernel_rfl
@[simp] theorem Tryx.func62:Tryx.prog.funcs[62]?=some Tryz.f62:=by kernel_rfl
@[simp] theorem Tryx.func63:Tryx.prog.funcs[63]?=some Tryz.f63:=by kernel_rfl
@[simp] theorem Tryx.func64:Tryx.prog.funcs[64]?=some Tryz.f64:=by kernel_rfl
@[simp] theorem Tryx.func65:Tryx.prog.funcs[65]?=some Tryz.f65:=by kernel_rfl
@[simp] theorem Tryx.func66:Tryx.prog.funcs[66]?=some Tryz.f66:=by kernel_rfl
@[simp] theorem Tryx.func67:Tryx.prog.funcs[67]?=some Tryz.f67:=by kernel_rfl
@[simp] theorem Tryx.func68:Tryx.prog.funcs[68]?=some Tryz.f68:=by kernel_rfl
@[simp] theorem Tryx.func69:Tryx.prog.funcs[69]?=some Tryz.f69:=by kernel_rfl
@[simp] theorem Tryx.func70:Tryx.prog.funcs[70]?=some Tryz.f70:=by kernel_rfl
@[simp] theorem Tryx.func71:Tryx.prog.funcs[71]?=some Tryz.f71:=by kernel_rfl
@[simp] theorem Tryx.func72:Tryx.prog.funcs[72]?=some Tryz.f72:=by kernel_rfl
@[simp] theorem Tryx.func73:Tryx.prog.funcs[73]?=some Tryz.f73:=by kernel_rfl
@[simp] theorem Tryx.func74:Tryx.prog.funcs[74]?=some Tryz.f74:=by kernel_rfl
@[simp] theorem Tryx.func75:Tryx.prog.funcs[75]?=some Tryz.f75:=by kernel_rfl
@[simp] theorem Tryx.func76:Tryx.prog.funcs[76]?=some Tryz.f76:=by kernel_rfl
@[simp] theorem Tryx.func77:Tryx.prog.funcs[77]?=some Tryz.f77:=by kernel_rfl
@[simp] theorem Tryx.func97:Tryx.prog.funcs[97]?=some Tryz.f97:=by kernel_rfl
@[simp] theorem Tryx.func98:Tryx.prog.funcs[98]?=some Tryz.f98:=by kernel_rfl
@[simp] theorem Tryx.func100:Tryx.prog.funcs[100]?=some Tryz.f100:=by kernel_rfl
@[simp] theorem Tryx.func101:Tryx.prog.funcs[101]?=some Tryz.f101:=by kernel_rfl
@[simp] theorem Tryx.func102:Tryx.prog.funcs[102]?=some Tryz.f102:=by kernel_rfl
@[simp] theorem Tryx.func103:Tryx.prog.funcs[103]?=some Tryz.f103:=by kernel_rfl
@[simp] theorem Tryx.func104:Tryx.prog.funcs[104]?=some Tryz.f104:=by kernel_rfl
@[simp] theorem Tryx.func105:Tryx.prog.funcs[105]?=some Tryz.f105:=by kernel_rfl
@[simp] theorem Tryx.func106:Tryx.prog.funcs[106]?=some Tryz.f106:=by kernel_rfl
@[simp] theorem Tryx.func107:Tryx.prog.funcs[107]?=some Tryz.f107:=by kernel_rfl
@[simp] theorem Tryx.func116:Tryx.prog.funcs[116]?=some Tryz.f116:=by kernel_rfl
@[simp] theorem Tryx.func117:Tryx.prog.funcs[117]?=some Tryz.f117:=by kernel_rfl
@[simp] theorem Tryx.func118:Tryx.prog.funcs[118]?=some Tryz.f118:=by kernel_rfl
@[simp] theorem Tryx.func119:Tryx.prog.funcs[119]?=some Tryz.f119:=by kernel_rfl
@[simp] theorem Tryx.func120:Tryx.prog.funcs[120]?=some Tryz.f120:=by kernel_rfl
@[simp] theorem Tryx.func121:Tryx.prog.funcs[121]?=some Tryz.f121:=by kernel_rfl
@[simp] theorem Tryx.func122:Tryx.prog.funcs[122]?=some Tryz.f122:=by kernel_rfl
@[simp] theorem Tryx.func123:Tryx.prog.funcs[123]?=some Tryz.f123:=by kernel_rfl
@[simp] theorem Tryx.func127:Tryx.prog.funcs[127]?=some Tryz.f127:=by kernel_rfl
@[simp] theorem Tryx.func128:Tryx.prog.funcs[128]?=some Tryz.f128:=by kernel_rfl
@[simp] theorem Tryx.func129:Tryx.prog.funcs[129]?=some Tryz.f129:=by kernel_rfl
@[simp] theorem Tryx.func130:Tryx.prog.funcs[130]?=some Tryz.f130:=by kernel_rfl
@[simp] theorem Tryx.func131:Tryx.prog.funcs[131]?=some Tryz.f131:=by kernel_rfl
@[simp] theorem Tryx.func132:Tryx.prog.funcs[132]?=some Tryz.f132:=by kernel_rfl
@[simp] theorem Tryx.func133:Tryx.prog.funcs[133]?=some Tryz.f133:=by kernel_rfl
@[simp] theorem Tryx.func134:Tryx.prog.funcs[134]?=some Tryz.f134:=by kernel_rfl
@[simp] theorem Tryx.func135:Tryx.prog.funcs[135]?=some Tryz.f135:=by kernel_rfl
@[simp] theorem Tryx.func136:Tryx.prog.funcs[136]?=some Tryz.f136:=by kernel_rfl
@[simp] theorem Tryx.func137:Tryx.prog.funcs[137]?=some Tryz.f137:=by kernel_rfl
@[simp] theorem Tryx.func138:Tryx.prog.funcs[138]?=some Tryz.f138:=by kernel_rfl
@[simp] theorem Tryx.func139:Tryx.prog.funcs[139]?=some Tryz.f139:=by kernel_rfl
@[simp] theorem Tryx.func140:Tryx.prog.funcs[140]?=some Tryz.f140:=by kernel_rfl
@[simp] theorem Tryx.func141:Tryx.prog.funcs[141]?=some Tryz.f141:=by kernel_rfl
@[simp] theorem Tryx.func143:Tryx.prog.funcs[143]?=some Tryz.f143:=by kernel_rfl
@[simp] theorem Tryx.func144:Tryx.prog.funcs[144]?=some Tryz.f144:=by kernel_rfl
@[simp] theorem Tryx.func145:Tryx.prog.funcs[145]?=some Tryz.f145:=by kernel_rfl
@[simp] theorem Tryx.func146:Tryx.prog.funcs[146]?=some Tryz.f146:=by kernel_rfl
@[simp] theorem Tryx.func147:Tryx.prog.funcs[147]?=some Tryz.f147:=by kernel_rfl
@[simp] theorem Tryx.func148:Tryx.prog.funcs[148]?=some Tryz.f148:=by kernel_rfl
@[simp] theorem Tryx.func149:Tryx.prog.funcs[149]?=some Tryz.f149:=by kernel_rfl
@[simp] theorem Tryx.func150:Tryx.prog.funcs[150]?=some Tryz.f150:=by kernel_rfl
@[simp] theorem Tryx.func151:Tryx.prog.funcs[151]?=some Tryz.f151:=by kernel_rfl
@[simp] theorem Tryx.func152:Tryx.prog.funcs[152]?=some Tryz.f152:=by kernel_rfl
@[simp] theorem Tryx.func153:Tryx.prog.funcs[153]?=some Tryz.f153:=by kernel_rfl
@[simp] theorem Tryx.func154:Tryx.prog.funcs[154]?=some Tryz.f154:=by kernel_rfl
@[simp] theorem Tryx.func155:Tryx.prog.funcs[155]?=some Tryz.f155:=by kernel_rfl
@[simp] theorem Tryx.func156:Tryx.prog.funcs[156]?=some Tryz.f156:=by kernel_rfl
@[simp] theorem Tryx.func157:Tryx.prog.funcs[157]?=some Tryz.f157:=by kernel_rfl
@[simp] theorem Tryx.func158:Tryx.prog.funcs[158]?=some Tryz.f158:=by kernel_rfl
@[simp] theorem Tryx.func159:Tryx.prog.funcs[159]?=some Tryz.f159:=by kernel_rfl
@[simp] theorem Tryx.func160:Tryx.prog.funcs[160]?=some Tryz.f160:=by kernel_rfl
@[simp] theorem Tryx.func161:Tryx.prog.funcs[161]?=some Tryz.f161:=by kernel_rfl
@[simp] theorem Tryx.func181:Tryx.prog.funcs[181]?=some Tryz.f181:=by kernel_rfl
theorem Tryx.ntmps26:Tryx.f26.ntmps=84:=rfl
theorem gen_typeInfo(P:Program)(F:Array Func)(t:TypeId)(w:World):(typeInfo t).run (YticobikhndlejaaGreatDoor.ofF P F) w=(typeInfo t).run P w:=by
 show (match (YticobikhndlejaaGreatDoor.ofF P F).info? t with | some i=>(pure i:Sem TypeInfo) | none=>stuck "no such type").run (YticobikhndlejaaGreatDoor.ofF P F) w=(match P.info? t with | some i=>(pure i:Sem TypeInfo) | none=>stuck "no such type").run P w
 rw[YticobikhndlejaaGreatDoor.info_ofF]
 cases P.info? t <;> rfl
theorem gen_underlying(P:Program)(F:Array Func)(t:TypeId)(w:World):(underlying t).run (YticobikhndlejaaGreatDoor.ofF P F) w=(underlying t).run P w:=by
 show (match (YticobikhndlejaaGreatDoor.ofF P F).underlying t with | some i=>(pure i:Sem TypeDesc) | none=>stuck "no such type").run (YticobikhndlejaaGreatDoor.ofF P F) w=(match P.underlying t with | some i=>(pure i:Sem TypeDesc) | none=>stuck "no such type").run P w
 rw[YticobikhndlejaaGreatDoor.underlying_ofF]
 cases P.underlying t <;> rfl
theorem gen_sizeOf(P:Program)(F:Array Func)(t:TypeId)(w:World):(Go.sizeOf t).run (YticobikhndlejaaGreatDoor.ofF P F) w=(Go.sizeOf t).run P w:=by
 unfold Go.sizeOf
 rw[Sem.run_bind,Sem.run_bind,gen_typeInfo]
 congr 1
theorem gen_isAgg(P:Program)(F:Array Func)(t:TypeId)(w:World):(isAgg t).run (YticobikhndlejaaGreatDoor.ofF P F) w=(isAgg t).run P w:=by
 unfold isAgg
 rw[Sem.run_bind,Sem.run_bind,gen_underlying]
 congr 1
 funext a w1
 cases a <;> rfl
theorem gen_zeroValue(P:Program)(F:Array Func)(t:TypeId)(w:World):(zeroValue t).run (YticobikhndlejaaGreatDoor.ofF P F) w=(zeroValue t).run P w:=by
 unfold zeroValue
 rw[Sem.run_bind,Sem.run_bind,gen_typeInfo]
 congr 1
 funext a w1
 cases a.zero <;> rfl
@[simp] theorem Tryx.typeInfo_(t:TypeId)(w:World):(typeInfo t).run Tryx.prog w=(typeInfo t).run Tryz.prog w:=gen_typeInfo _ _ _ _
@[simp] theorem Tryx.sizeOf_(t:TypeId)(w:World):(Go.sizeOf t).run Tryx.prog w=(Go.sizeOf t).run Tryz.prog w:=gen_sizeOf _ _ _ _
@[simp] theorem Tryx.isAgg_(t:TypeId)(w:World):(isAgg t).run Tryx.prog w=(isAgg t).run Tryz.prog w:=gen_isAgg _ _ _ _
@[simp] theorem Tryx.zeroValue_(t:TypeId)(w:World):(zeroValue t).run Tryx.prog w=(zeroValue t).run Tryz.prog w:=gen_zeroValue _ _ _ _
@[simp] theorem Tryx.underlying_(t:TypeId)(w:World):(underlying t).run Tryx.prog w=(underlying t).run Tryz.prog w:=gen_underlying _ _ _ _
theorem gen_tables(P:Program)(F:Array Func):(YticobikhndlejaaGreatDoor.ofF P F).toTables=P.toTables:=rfl
@[simp] theorem Tryx.und(t:TypeId):Tryx.prog.underlying t=Tryz.prog.underlying t:=YticobikhndlejaaGreatDoor.underlying_ofF _
@[simp] theorem Tryx.tables:Tryx.prog.toTables=Tryz.prog.toTables:=gen_tables _ _
@[simp] theorem Tryx.eqg(d:Nat)(t:TypeId):Tryx.prog.eqGuardType d t=Tryz.prog.eqGuardType d t:=YticobikhndlejaaGreatDoor.eqGuardType_ofF _ _
@[simp] theorem Tryx.dep:Tryx.prog.depth=Tryz.prog.depth:=YticobikhndlejaaGreatDoor.depth_ofF
@[simp] theorem Tryx.call12(args:Array Value)(w:World):(callFunc 12 args).run Tryx.prog w=.ok (.enter 12 args) w:=call_of Tryx.func12 (by kernel_rfl) (by kernel_rfl) args w
@[simp] theorem Tryx.call13(args:Array Value)(w:World):(callFunc 13 args).run Tryx.prog w=.ok (.enter 13 args) w:=call_of Tryx.func13 (by kernel_rfl) (by kernel_rfl) args w
@[simp] theorem Tryx.call14(args:Array Value)(w:World):(callFunc 14 args).run Tryx.prog w=.ok (.enter 14 args) w:=call_of Tryx.func14 (by kernel_rfl) (by kernel_rfl) args w
@[simp] theorem Tryx.call15(args:Array Value)(w:World):(callFunc 15 args).run Tryx.prog w=.ok (.enter 15 args) w:=call_of Tryx.func15 (by kernel_rfl) (by kernel_rfl) args w
@[simp] theorem Tryx.call16(args:Array Value)(w:World):(callFunc 16 args).run Tryx.prog w=.ok (.enter 16 args) w:=call_of Tryx.func16 (by kernel_rfl) (by kernel_rfl) args w
@[simp] theorem Tryx.call17(args:Array Value)(w:World):(callFunc 17 args).run Tryx.prog w=.ok (.enter 17 args) w:=call_of Tryx.func17 (by kernel_rfl) (by kernel_rfl) args w
@[simp] theorem Tryx.call18(args:Array Value)(w:World):(callFunc 18 args).run Tryx.prog w=.ok (.enter 18 args) w:=call_of Tryx.func18 (by kernel_rfl) (by kernel_rfl) args w
@[simp] theorem Tryx.call19(args:Array Value)(w:World):(callFunc 19 args).run Tryx.prog w=.ok (.enter 19 args) w:=call_of Tryx.func19 (by kernel_rfl) (by kernel_rfl) args w
@[simp] theorem Tryx.call20(args:Array Value)(w:World):(callFunc 20 args).run Tryx.prog w=.ok (.enter 20 args) w:=call_of Tryx.func20 (by kernel_rfl) (by kernel_rfl) args w
@[simp] theorem Tryx.call21(args:Array Value)(w:World):(callFunc 21 args).run Tryx.prog w=.ok (.enter 21 args) w:=call_of Tryx.func21 (by kernel_rfl) (by kernel_rfl) args w
@[simp] theorem Tryx.call22(args:Array Value)(w:World):(callFunc 22 args).run Tryx.prog w=.ok (.enter 22 args) w:=call_of Tryx.func22 (by kernel_rfl) (by kernel_rfl) args w
@[simp] theorem Tryx.call25(args:Array Value)(w:World):(callFunc 25 args).run Tryx.prog w=.ok (.enter 25 args) w:=call_of Tryx.func25 (by kernel_rfl) (by kernel_rfl) args w
@[simp] theorem Tryx.call26(args:Array Value)(w:World):(callFunc 26 args).run Tryx.prog w=.ok (.enter 26 args) w:=call_of Tryx.func26 (by kernel_rfl) (by kernel_rfl) args w
@[simp] theorem Tryx.call27(args:Array Value)(w:World):(callFunc 27 args).run Tryx.prog w=.ok (.enter 27 args) w:=call_of Tryx.func27 (by kernel_rfl) (by kernel_rfl) args w
@[simp] theorem Tryx.call28(args:Array Value)(w:World):(callFunc 28 args).run Tryx.prog w=.ok (.enter 28 args) w:=call_of Tryx.func28 (by kernel_rfl) (by kernel_rfl) args w
@[simp] theorem Tryx.call32(args:Array Value)(w:World):(callFunc 32 args).run Tryx.prog w=.ok (.enter 32 args) w:=call_of Tryx.func32 (by kernel_rfl) (by kernel_rfl) args w
@[simp] theorem Tryx.call33(args:Array Value)(w:World):(callFunc 33 args).run Tryx.prog w=.ok (.enter 33 args) w:=call_of Tryx.func33 (by kernel_rfl) (by kernel_rfl) args w
@[simp] theorem Tryx.call34(args:Array Value)(w:World):(callFunc 34 args).run Tryx.prog w=.ok (.enter 34 args) w:=call_of Tryx.func34 (by kernel_rfl) (by kernel_rfl) args w
@[simp] theorem Tryx.call35(args:Array Value)(w:World):(callFunc 35 args).run Tryx.prog w=.ok (.enter 35 args) w:=call_of Tryx.func35 (by kernel_rfl) (by kernel_rfl) args w
@[simp] theorem Tryx.call36(args:Array Value)(w:World):(callFunc 36 args).run Tryx.prog w=.ok (.enter 36 args) w:=call_of Tryx.func36 (by kernel_rfl) (by kernel_rfl) args w
@[simp] theorem Tryx.call37(args:Array Value)(w:World):(callFunc 37 args).run Tryx.prog w=.ok (.enter 37 args) w:=call_of Tryx.func37 (by kernel_rfl) (by kernel_rfl) args w
@[simp] theorem Tryx.call38(args:Array Value)(w:World):(callFunc 38 args).run Tryx.prog w=.ok (.enter 38 args) w:=call_of Tryx.func38 (by kernel_rfl) (by kernel_rfl) args w
@[simp] theorem Tryx.call39(args:Array Value)(w:World):(callFunc 39 args).run Tryx.prog w=.ok (.enter 39 args) w:=call_of Tryx.func39 (by kernel_rfl) (by kernel_rfl) args w
@[simp] theorem Tryx.call40(args:Array Value)(w:World):(callFunc 40 args).run Tryx.prog w=.ok (.enter 40 args) w:=call_of Tryx.func40 (by kernel_rfl) (by kernel_rfl) args w
@[simp] theorem Tryx.call41(args:Array Value)(w:World):(callFunc 41 args).run Tryx.prog w=.ok (.enter 41 args) w:=call_of Tryx.func41 (by kernel_rfl) (by kernel_rfl) args w
@[simp] theorem Tryx.call42(args:Array Value)(w:World):(callFunc 42 args).run Tryx.prog w=.ok (.enter 42 args) w:=call_of Tryx.func42 (by kernel_rfl) (by kernel_rfl) args w
@[simp] theorem Tryx.call43(args:Array Value)(w:World):(callFunc 43 args).run Tryx.prog w=.ok (.enter 43 args) w:=call_of Tryx.func43 (by kernel_rfl) (by kernel_rfl) args w
@[simp] theorem Tryx.call44(args:Array Value)(w:World):(callFunc 44 args).run Tryx.prog w=.ok (.enter 44 args) w:=call_of Tryx.func44 (by kernel_rfl) (by kernel_rfl) args w
@[simp] theorem Tryx.call46(args:Array Value)(w:World):(callFunc 46 args).run Tryx.prog w=.ok (.enter 46 args) w:=call_of Tryx.func46 (by kernel_rfl) (by kernel_rfl) args w
@[simp] theorem Tryx.call48(args:Array Value)(w:World):(callFunc 48 args).run Tryx.prog w=.ok (.enter 48 args) w:=call_of Tryx.func48 (by kernel_rfl) (by kernel_rfl) args w
@[simp] theorem Tryx.call59(args:Array Value)(w:World):(callFunc 59 args).run Tryx.prog w=.ok (.enter 59 args) w:=call_of Tryx.func59 (by kernel_rfl) (by kernel_rfl) args w
@[simp] theorem Tryx.call60(args:Array Value)(w:World):(callFunc 60 args).run Tryx.prog w=.ok (.enter 60 args) w:=call_of Tryx.func60 (by kernel_rfl) (by kernel_rfl) args w
@[simp] theorem Tryx.call61(args:Array Value)(w:World):(callFunc 61 args).run Tryx.prog w=.ok (.enter 61 args) w:=call_of Tryx.func61 (by kernel_rfl) (by kernel_rfl) args w
@[simp] theorem Tryx.call62(args:Array Value)(w:World):(callFunc 62 args).run Tryx.prog w=.ok (.enter 62 args) w:=call_of Tryx.func62 (by kernel_rfl) (by kernel_rfl) args w
@[simp] theorem Tryx.call63(args:Array Value)(w:World):(callFunc 63 args).run Tryx.prog w=.ok (.enter 63 args) w:=call_of Tryx.func63 (by kernel_rfl) (by kernel_rfl) args w
@[simp] theorem Tryx.call64(args:Array Value)(w:World):(callFunc 64 args).run Tryx.prog w=.ok (.enter 64 args) w:=call_of Tryx.func64 (by kernel_rfl) (by kernel_rfl) args w
@[simp] theorem Tryx.call65(args:Array Value)(w:World):(callFunc 65 args).run Tryx.prog w=.ok (.enter 65 args) w:=call_of Tryx.func65 (by kernel_rfl) (by kernel_rfl) args w
@[simp] theorem Tryx.call66(args:Array Value)(w:World):(callFunc 66 args).run Tryx.prog w=.ok (.enter 66 args) w:=call_of Tryx.func66 (by kernel_rfl) (by kernel_rfl) args w
@[simp] theorem Tryx.call67(args:Array Value)(w:World):(callFunc 67 args).run Tryx.prog w=.ok (.enter 67 args) w:=call_of Tryx.func67 (by kernel_rfl) (by kernel_rfl) args w
@[simp] theorem Tryx.call68(args:Array Value)(w:World):(callFunc 68 args).run Tryx.prog w=.ok (.enter 68 args) w:=call_of Tryx.func68 (by kernel_rfl) (by kernel_rfl) args w
@[simp] theorem Tryx.call69(args:Array Value)(w:World):(callFunc 69 args).run Tryx.prog w=.ok (.enter 69 args) w:=call_of Tryx.func69 (by kernel_rfl) (by kernel_rfl) args w
@[simp] theorem Tryx.call70(args:Array Value)(w:World):(callFunc 70 args).run Tryx.prog w=.ok (.enter 70 args) w:=call_of Tryx.func70 (by kernel_rfl) (by kernel_rfl) args w
@[simp] theorem Tryx.call71(args:Array Value)(w:World):(callFunc 71 args).run Tryx.prog w=.ok (.enter 71 args) w:=call_of Tryx.func71 (by kernel_rfl) (by kernel_rfl) args w
@[simp] theorem Tryx.call72(args:Array Value)(w:World):(callFunc 72 args).run Tryx.prog w=.ok (.enter 72 args) w:=call_of Tryx.func72 (by kernel_rfl) (by kernel_rfl) args w
@[simp] theorem Tryx.call73(args:Array Value)(w:World):(callFunc 73 args).run Tryx.prog w=.ok (.enter 73 args) w:=call_of Tryx.func73 (by kernel_rfl) (by kernel_rfl) args w
@[simp] theorem Tryx.call74(args:Array Value)(w:World):(callFunc 74 args).run Tryx.prog w=.ok (.enter 74 args) w:=call_of Tryx.func74 (by kernel_rfl) (by kernel_rfl) args w
@[simp] theorem Tryx.call75(args:Array Value)(w:World):(callFunc 75 args).run Tryx.prog w=.ok (.enter 75 args) w:=call_of Tryx.func75 (by kernel_rfl) (by kernel_rfl) args w
@[simp] theorem Tryx.call76(args:Array Value)(w:World):(callFunc 76 args).run Tryx.prog w=.ok (.enter 76 args) w:=call_of Tryx.func76 (by kernel_rfl) (by kernel_rfl) args w
@[simp] theorem Tryx.call77(args:Array Value)(w:World):(callFunc 77 args).run Tryx.prog w=.ok (.enter 77 args) w:=call_of Tryx.func77 (by kernel_rfl) (by kernel_rfl) args w
@[simp] theorem Tryx.call97(args:Array Value)(w:World):(callFunc 97 args).run Tryx.prog w=.ok (.enter 97 args) w:=call_of Tryx.func97 (by kernel_rfl) (by kernel_rfl) args w
@[simp] theorem Tryx.call98(args:Array Value)(w:World):(callFunc 98 args).run Tryx.prog w=.ok (.enter 98 args) w:=call_of Tryx.func98 (by kernel_rfl) (by kernel_rfl) args w
@[simp] theorem Tryx.call100(args:Array Value)(w:World):(callFunc 100 args).run Tryx.prog w=.ok (.enter 100 args) w:=call_of Tryx.func100 (by kernel_rfl) (by kernel_rfl) args w
@[simp] theorem Tryx.call101(args:Array Value)(w:World):(callFunc 101 args).run Tryx.prog w=.ok (.enter 101 args) w:=call_of Tryx.func101 (by kernel_rfl) (by kernel_rfl) args w
@[simp] theorem Tryx.call102(args:Array Value)(w:World):(callFunc 102 args).run Tryx.prog w=.ok (.enter 102 args) w:=call_of Tryx.func102 (by kernel_rfl) (by kernel_rfl) args w
@[simp] theorem Tryx.call103(args:Array Value)(w:World):(callFunc 103 args).run Tryx.prog w=.ok (.enter 103 args) w:=call_of Tryx.func103 (by kernel_rfl) (by kernel_rfl) args w
@[simp] theorem Tryx.call105(args:Array Value)(w:World):(callFunc 105 args).run Tryx.prog w=.ok (.enter 105 args) w:=call_of Tryx.func105 (by kernel_rfl) (by kernel_rfl) args w
@[simp] theorem Tryx.call106(args:Array Value)(w:World):(callFunc 106 args).run Tryx.prog w=.ok (.enter 106 args) w:=call_of Tryx.func106 (by kernel_rfl) (by kernel_rfl) args w
@[simp] theorem Tryx.call117(args:Array Value)(w:World):(callFunc 117 args).run Tryx.prog w=.ok (.enter 117 args) w:=call_of Tryx.func117 (by kernel_rfl) (by kernel_rfl) args w
@[simp] theorem Tryx.call118(args:Array Value)(w:World):(callFunc 118 args).run Tryx.prog w=.ok (.enter 118 args) w:=call_of Tryx.func118 (by kernel_rfl) (by kernel_rfl) args w
@[simp] theorem Tryx.call119(args:Array Value)(w:World):(callFunc 119 args).run Tryx.prog w=.ok (.enter 119 args) w:=call_of Tryx.func119 (by kernel_rfl) (by kernel_rfl) args w
@[simp] theorem Tryx.call121(args:Array Value)(w:World):(callFunc 121 args).run Tryx.prog w=.ok (.enter 121 args) w:=call_of Tryx.func121 (by kernel_rfl) (by kernel_rfl) args w
@[simp] theorem Tryx.call129(args:Array Value)(w:World):(callFunc 129 args).run Tryx.prog w=.ok (.enter 129 args) w:=call_of Tryx.func129 (by kernel_rfl) (by kernel_rfl) args w
@[simp] theorem Tryx.call181(args:Array Value)(w:World):(callFunc 181 args).run Tryx.prog w=.ok (.enter 181 args) w:=call_of Tryx.func181 (by kernel_rfl) (by kernel_rfl) args w
theorem Tryx.underlying0:type_of% ((Tryx.und 0).trans Tryz.underlying0):=(Tryx.und 0).trans Tryz.underlying0
theorem Tryx.underlying3:type_of% ((Tryx.und 3).trans Tryz.underlying3):=(Tryx.und 3).trans Tryz.underlying3
theorem Tryx.underlying4:type_of% ((Tryx.und 4).trans Tryz.underlying4):=(Tryx.und 4).trans Tryz.underlying4
theorem Tryx.underlying5:type_of% ((Tryx.und 5).trans Tryz.underlying5):=(Tryx.und 5).trans Tryz.underlying5
theorem Tryx.underlying9:type_of% ((Tryx.und 9).trans Tryz.underlying9):=(Tryx.und 9).trans Tryz.underlying9
theorem Tryx.underlying24:type_of% ((Tryx.und 24).trans Tryz.underlying24):=(Tryx.und 24).trans Tryz.underlying24
theorem Tryx.underlying34:type_of% ((Tryx.und 34).trans Tryz.underlying34):=(Tryx.und 34).trans Tryz.underlying34
theorem Tryx.underlying37:type_of% ((Tryx.und 37).trans Tryz.underlying37):=(Tryx.und 37).trans Tryz.underlying37
theorem Tryx.underlying41:type_of% ((Tryx.und 41).trans Tryz.underlying41):=(Tryx.und 41).trans Tryz.underlying41
theorem Tryx.underlying55:type_of% ((Tryx.und 55).trans Tryz.underlying55):=(Tryx.und 55).trans Tryz.underlying55
theorem Tryx.underlying59:type_of% ((Tryx.und 59).trans Tryz.underlying59):=(Tryx.und 59).trans Tryz.underlying59
theorem Tryx.underlying90:type_of% ((Tryx.und 90).trans Tryz.underlying90):=(Tryx.und 90).trans Tryz.underlying90
theorem Tryx.underlying103:type_of% ((Tryx.und 103).trans Tryz.underlying103):=(Tryx.und 103).trans Tryz.underlying103
theorem Tryx.underlying104:type_of% ((Tryx.und 104).trans Tryz.underlying104):=(Tryx.und 104).trans Tryz.underlying104
theorem Tryx.underlying107:type_of% ((Tryx.und 107).trans Tryz.underlying107):=(Tryx.und 107).trans Tryz.underlying107
theorem Tryx.underlying108:type_of% ((Tryx.und 108).trans Tryz.underlying108):=(Tryx.und 108).trans Tryz.underlying108
theorem Tryx.underlying146:type_of% ((Tryx.und 146).trans Tryz.underlying146):=(Tryx.und 146).trans Tryz.underlying146
theorem Tryx.underlying172:type_of% ((Tryx.und 172).trans Tryz.underlying172):=(Tryx.und 172).trans Tryz.underlying172
theorem Tryx.underlying174:type_of% ((Tryx.und 174).trans Tryz.underlying174):=(Tryx.und 174).trans Tryz.underlying174
theorem Tryx.underlying177:type_of% ((Tryx.und 177).trans Tryz.underlying177):=(Tryx.und 177).trans Tryz.underlying177
theorem Tryx.underlying188:type_of% ((Tryx.und 188).trans Tryz.underlying188):=(Tryx.und 188).trans Tryz.underlying188
theorem Tryx.underlying207:type_of% ((Tryx.und 207).trans Tryz.underlying207):=(Tryx.und 207).trans Tryz.underlying207
theorem Tryx.underlying210:type_of% ((Tryx.und 210).trans Tryz.underlying210):=(Tryx.und 210).trans Tryz.underlying210
theorem Tryx.underlying212:type_of% ((Tryx.und 212).trans Tryz.underlying212):=(Tryx.und 212).trans Tryz.underlying212
theorem Tryx.underlying220:type_of% ((Tryx.und 220).trans Tryz.underlying220):=(Tryx.und 220).trans Tryz.underlying220
theorem Tryx.underlying224:type_of% ((Tryx.und 224).trans Tryz.underlying224):=(Tryx.und 224).trans Tryz.underlying224
theorem Tryx.underlying230:type_of% ((Tryx.und 230).trans Tryz.underlying230):=(Tryx.und 230).trans Tryz.underlying230
theorem Tryx.underlying231:type_of% ((Tryx.und 231).trans Tryz.underlying231):=(Tryx.und 231).trans Tryz.underlying231
theorem Tryx.underlying236:type_of% ((Tryx.und 236).trans Tryz.underlying236):=(Tryx.und 236).trans Tryz.underlying236
theorem Tryx.underlying239:type_of% ((Tryx.und 239).trans Tryz.underlying239):=(Tryx.und 239).trans Tryz.underlying239
theorem Tryx.underlying241:type_of% ((Tryx.und 241).trans Tryz.underlying241):=(Tryx.und 241).trans Tryz.underlying241
theorem Tryx.underlying247:type_of% ((Tryx.und 247).trans Tryz.underlying247):=(Tryx.und 247).trans Tryz.underlying247
theorem Tryx.underlying251:type_of% ((Tryx.und 251).trans Tryz.underlying251):=(Tryx.und 251).trans Tryz.underlying251
theorem Tryx.underlying255:type_of% ((Tryx.und 255).trans Tryz.underlying255):=(Tryx.und 255).trans Tryz.underlying255
theorem Tryx.underlying256:type_of% ((Tryx.und 256).trans Tryz.underlying256):=(Tryx.und 256).trans Tryz.underlying256
theorem Tryx.isAgg0(w:World):type_of% ((Tryx.isAgg_ 0 w).trans (Tryz.isAgg0 w)):=(Tryx.isAgg_ 0 w).trans (Tryz.isAgg0 w)
theorem Tryx.sizeOf0(w:World):type_of% ((Tryx.sizeOf_ 0 w).trans (Tryz.sizeOf0 w)):=(Tryx.sizeOf_ 0 w).trans (Tryz.sizeOf0 w)
theorem Tryx.zeroValue0(w:World):type_of% ((Tryx.zeroValue_ 0 w).trans (Tryz.zeroValue0 w)):=(Tryx.zeroValue_ 0 w).trans (Tryz.zeroValue0 w)
theorem Tryx.isAgg3(w:World):type_of% ((Tryx.isAgg_ 3 w).trans (Tryz.isAgg3 w)):=(Tryx.isAgg_ 3 w).trans (Tryz.isAgg3 w)
theorem Tryx.sizeOf3(w:World):type_of% ((Tryx.sizeOf_ 3 w).trans (Tryz.sizeOf3 w)):=(Tryx.sizeOf_ 3 w).trans (Tryz.sizeOf3 w)
theorem Tryx.zeroValue3(w:World):type_of% ((Tryx.zeroValue_ 3 w).trans (Tryz.zeroValue3 w)):=(Tryx.zeroValue_ 3 w).trans (Tryz.zeroValue3 w)
theorem Tryx.isAgg4(w:World):type_of% ((Tryx.isAgg_ 4 w).trans (Tryz.isAgg4 w)):=(Tryx.isAgg_ 4 w).trans (Tryz.isAgg4 w)
theorem Tryx.sizeOf4(w:World):type_of% ((Tryx.sizeOf_ 4 w).trans (Tryz.sizeOf4 w)):=(Tryx.sizeOf_ 4 w).trans (Tryz.sizeOf4 w)
theorem Tryx.zeroValue4(w:World):type_of% ((Tryx.zeroValue_ 4 w).trans (Tryz.zeroValue4 w)):=(Tryx.zeroValue_ 4 w).trans (Tryz.zeroValue4 w)
theorem Tryx.isAgg5(w:World):type_of% ((Tryx.isAgg_ 5 w).trans (Tryz.isAgg5 w)):=(Tryx.isAgg_ 5 w).trans (Tryz.isAgg5 w)
theorem Tryx.sizeOf5(w:World):type_of% ((Tryx.sizeOf_ 5 w).trans (Tryz.sizeOf5 w)):=(Tryx.sizeOf_ 5 w).trans (Tryz.sizeOf5 w)
theorem Tryx.zeroValue5(w:World):type_of% ((Tryx.zeroValue_ 5 w).trans (Tryz.zeroValue5 w)):=(Tryx.zeroValue_ 5 w).trans (Tryz.zeroValue5 w)
theorem Tryx.isAgg9(w:World):type_of% ((Tryx.isAgg_ 9 w).trans (Tryz.isAgg9 w)):=(Tryx.isAgg_ 9 w).trans (Tryz.isAgg9 w)
theorem Tryx.sizeOf9(w:World):type_of% ((Tryx.sizeOf_ 9 w).trans (Tryz.sizeOf9 w)):=(Tryx.sizeOf_ 9 w).trans (Tryz.sizeOf9 w)
theorem Tryx.zeroValue9(w:World):type_of% ((Tryx.zeroValue_ 9 w).trans (Tryz.zeroValue9 w)):=(Tryx.zeroValue_ 9 w).trans (Tryz.zeroValue9 w)
theorem Tryx.isAgg24(w:World):type_of% ((Tryx.isAgg_ 24 w).trans (Tryz.isAgg24 w)):=(Tryx.isAgg_ 24 w).trans (Tryz.isAgg24 w)
theorem Tryx.sizeOf24(w:World):type_of% ((Tryx.sizeOf_ 24 w).trans (Tryz.sizeOf24 w)):=(Tryx.sizeOf_ 24 w).trans (Tryz.sizeOf24 w)
theorem Tryx.zeroValue24(w:World):type_of% ((Tryx.zeroValue_ 24 w).trans (Tryz.zeroValue24 w)):=(Tryx.zeroValue_ 24 w).trans (Tryz.zeroValue24 w)
theorem Tryx.isAgg90(w:World):type_of% ((Tryx.isAgg_ 90 w).trans (Tryz.isAgg90 w)):=(Tryx.isAgg_ 90 w).trans (Tryz.isAgg90 w)
theorem Tryx.sizeOf90(w:World):type_of% ((Tryx.sizeOf_ 90 w).trans (Tryz.sizeOf90 w)):=(Tryx.sizeOf_ 90 w).trans (Tryz.sizeOf90 w)
theorem Tryx.zeroValue90(w:World):type_of% ((Tryx.zeroValue_ 90 w).trans (Tryz.zeroValue90 w)):=(Tryx.zeroValue_ 90 w).trans (Tryz.zeroValue90 w)
theorem Tryx.isAgg97(w:World):type_of% ((Tryx.isAgg_ 97 w).trans (Tryz.isAgg97 w)):=(Tryx.isAgg_ 97 w).trans (Tryz.isAgg97 w)
theorem Tryx.sizeOf97(w:World):type_of% ((Tryx.sizeOf_ 97 w).trans (Tryz.sizeOf97 w)):=(Tryx.sizeOf_ 97 w).trans (Tryz.sizeOf97 w)
theorem Tryx.isAgg188(w:World):type_of% ((Tryx.isAgg_ 188 w).trans (Tryz.isAgg188 w)):=(Tryx.isAgg_ 188 w).trans (Tryz.isAgg188 w)
theorem Tryx.sizeOf188(w:World):type_of% ((Tryx.sizeOf_ 188 w).trans (Tryz.sizeOf188 w)):=(Tryx.sizeOf_ 188 w).trans (Tryz.sizeOf188 w)
theorem Tryx.zeroValue188(w:World):type_of% ((Tryx.zeroValue_ 188 w).trans (Tryz.zeroValue188 w)):=(Tryx.zeroValue_ 188 w).trans (Tryz.zeroValue188 w)
theorem Tryx.isAgg220(w:World):type_of% ((Tryx.isAgg_ 220 w).trans (Tryz.isAgg220 w)):=(Tryx.isAgg_ 220 w).trans (Tryz.isAgg220 w)
theorem Tryx.sizeOf220(w:World):type_of% ((Tryx.sizeOf_ 220 w).trans (Tryz.sizeOf220 w)):=(Tryx.sizeOf_ 220 w).trans (Tryz.sizeOf220 w)
theorem Tryx.zeroValue220(w:World):type_of% ((Tryx.zeroValue_ 220 w).trans (Tryz.zeroValue220 w)):=(Tryx.zeroValue_ 220 w).trans (Tryz.zeroValue220 w)
theorem Tryx.isAgg230(w:World):type_of% ((Tryx.isAgg_ 230 w).trans (Tryz.isAgg230 w)):=(Tryx.isAgg_ 230 w).trans (Tryz.isAgg230 w)
theorem Tryx.sizeOf230(w:World):type_of% ((Tryx.sizeOf_ 230 w).trans (Tryz.sizeOf230 w)):=(Tryx.sizeOf_ 230 w).trans (Tryz.sizeOf230 w)
theorem Tryx.zeroValue230(w:World):type_of% ((Tryx.zeroValue_ 230 w).trans (Tryz.zeroValue230 w)):=(Tryx.zeroValue_ 230 w).trans (Tryz.zeroValue230 w)
theorem Tryx.isAgg231(w:World):type_of% ((Tryx.isAgg_ 231 w).trans (Tryz.isAgg231 w)):=(Tryx.isAgg_ 231 w).trans (Tryz.isAgg231 w)
theorem Tryx.sizeOf231(w:World):type_of% ((Tryx.sizeOf_ 231 w).trans (Tryz.sizeOf231 w)):=(Tryx.sizeOf_ 231 w).trans (Tryz.sizeOf231 w)
theorem Tryx.zeroValue231(w:World):type_of% ((Tryx.zeroValue_ 231 w).trans (Tryz.zeroValue231 w)):=(Tryx.zeroValue_ 231 w).trans (Tryz.zeroValue231 w)
theorem Tryx.isAgg236(w:World):type_of% ((Tryx.isAgg_ 236 w).trans (Tryz.isAgg236 w)):=(Tryx.isAgg_ 236 w).trans (Tryz.isAgg236 w)
theorem Tryx.sizeOf236(w:World):type_of% ((Tryx.sizeOf_ 236 w).trans (Tryz.sizeOf236 w)):=(Tryx.sizeOf_ 236 w).trans (Tryz.sizeOf236 w)
theorem Tryx.zeroValue236(w:World):type_of% ((Tryx.zeroValue_ 236 w).trans (Tryz.zeroValue236 w)):=(Tryx.zeroValue_ 236 w).trans (Tryz.zeroValue236 w)
theorem Tryx.isAgg239(w:World):type_of% ((Tryx.isAgg_ 239 w).trans (Tryz.isAgg239 w)):=(Tryx.isAgg_ 239 w).trans (Tryz.isAgg239 w)
theorem Tryx.sizeOf239(w:World):type_of% ((Tryx.sizeOf_ 239 w).trans (Tryz.sizeOf239 w)):=(Tryx.sizeOf_ 239 w).trans (Tryz.sizeOf239 w)
theorem Tryx.zeroValue239(w:World):type_of% ((Tryx.zeroValue_ 239 w).trans (Tryz.zeroValue239 w)):=(Tryx.zeroValue_ 239 w).trans (Tryz.zeroValue239 w)
theorem Tryx.isAgg241(w:World):type_of% ((Tryx.isAgg_ 241 w).trans (Tryz.isAgg241 w)):=(Tryx.isAgg_ 241 w).trans (Tryz.isAgg241 w)
theorem Tryx.sizeOf241(w:World):type_of% ((Tryx.sizeOf_ 241 w).trans (Tryz.sizeOf241 w)):=(Tryx.sizeOf_ 241 w).trans (Tryz.sizeOf241 w)
theorem Tryx.zeroValue241(w:World):type_of% ((Tryx.zeroValue_ 241 w).trans (Tryz.zeroValue241 w)):=(Tryx.zeroValue_ 241 w).trans (Tryz.zeroValue241 w)
theorem Tryx.isAgg247(w:World):type_of% ((Tryx.isAgg_ 247 w).trans (Tryz.isAgg247 w)):=(Tryx.isAgg_ 247 w).trans (Tryz.isAgg247 w)
theorem Tryx.sizeOf247(w:World):type_of% ((Tryx.sizeOf_ 247 w).trans (Tryz.sizeOf247 w)):=(Tryx.sizeOf_ 247 w).trans (Tryz.sizeOf247 w)
theorem Tryx.zeroValue247(w:World):type_of% ((Tryx.zeroValue_ 247 w).trans (Tryz.zeroValue247 w)):=(Tryx.zeroValue_ 247 w).trans (Tryz.zeroValue247 w)
theorem Tryx.isAgg251(w:World):type_of% ((Tryx.isAgg_ 251 w).trans (Tryz.isAgg251 w)):=(Tryx.isAgg_ 251 w).trans (Tryz.isAgg251 w)
theorem Tryx.sizeOf251(w:World):type_of% ((Tryx.sizeOf_ 251 w).trans (Tryz.sizeOf251 w)):=(Tryx.sizeOf_ 251 w).trans (Tryz.sizeOf251 w)
theorem Tryx.zeroValue251(w:World):type_of% ((Tryx.zeroValue_ 251 w).trans (Tryz.zeroValue251 w)):=(Tryx.zeroValue_ 251 w).trans (Tryz.zeroValue251 w)
theorem Tryx.isAgg255(w:World):type_of% ((Tryx.isAgg_ 255 w).trans (Tryz.isAgg255 w)):=(Tryx.isAgg_ 255 w).trans (Tryz.isAgg255 w)
theorem Tryx.sizeOf255(w:World):type_of% ((Tryx.sizeOf_ 255 w).trans (Tryz.sizeOf255 w)):=(Tryx.sizeOf_ 255 w).trans (Tryz.sizeOf255 w)
theorem Tryx.zeroValue255(w:World):type_of% ((Tryx.zeroValue_ 255 w).trans (Tryz.zeroValue255 w)):=(Tryx.zeroValue_ 255 w).trans (Tryz.zeroValue255 w)
theorem Tryx.isAgg256(w:World):type_of% ((Tryx.isAgg_ 256 w).trans (Tryz.isAgg256 w)):=(Tryx.isAgg_ 256 w).trans (Tryz.isAgg256 w)
theorem Tryx.sizeOf256(w:World):type_of% ((Tryx.sizeOf_ 256 w).trans (Tryz.sizeOf256 w)):=(Tryx.sizeOf_ 256 w).trans (Tryz.sizeOf256 w)
theorem Tryx.zeroValue256(w:World):type_of% ((Tryx.zeroValue_ 256 w).trans (Tryz.zeroValue256 w)):=(Tryx.zeroValue_ 256 w).trans (Tryz.zeroValue256 w)
end
end Go.Proofs
namespace Go.Proofs.YticobikhndlejaaGreatDoor
section
open Go.RowKit
structure Chg(S:Nat->Prop)(w w':World):Prop where
 os:w'.os=w.os
 tape:w'.tape=w.tape
 output:w'.output=w.output
 size:w.heap.size<=w'.heap.size
 block:∀ k,k<w.heap.size->¬S k->w'.heap[k]?=w.heap[k]?
theorem Chg.refl(S:Nat->Prop)(w:World):Chg S w w:=⟨rfl,rfl,rfl,Nat.le_refl _,fun _ _ _=>rfl⟩
theorem Chg.mono{S S':Nat->Prop}{w w':World}(h:Chg S w w')(hs:∀ k,k<w.heap.size->S k->S' k):Chg S' w w':=
 ⟨h.os,h.tape,h.output,h.size,fun k hk hn=>h.block k hk (fun hS=>hn (hs k hk hS))⟩
theorem Chg.trans{S:Nat->Prop}{a b c:World}(h:Chg S a b)(k:Chg (fun i=>S i\/a.heap.size<=i) b c):Chg S a c:=
 ⟨k.os.trans h.os,k.tape.trans h.tape,k.output.trans h.output,Nat.le_trans h.size k.size,fun i hi hn=>
   (k.block i (Nat.lt_of_lt_of_le hi h.size) (fun hh=>hh.elim hn (fun hle=>by omega))).trans (h.block i hi hn)⟩
theorem Chg.then{S:Nat->Prop}{a b c:World}(h:Chg S a b)(k:Chg S b c):Chg S a c:=h.trans (k.mono fun _ _ hs=>.inl hs)
theorem Chg.alloc{S:Nat->Prop}{a w:World}(h:Chg S a w)(o:Obj):Chg S a (w.alloc o):=
 h.then ⟨rfl,rfl,rfl,by simp,fun k hk _=>Below.heap_alloc _ _ _ hk⟩
theorem Chg.drew{S:Nat->Prop}{a w:World}(h:Chg S a w):Chg S a w.drew:=⟨h.os,h.tape,h.output,h.size,h.block⟩
theorem Chg.setCell{S:Nat->Prop}{a w:World}(h:Chg S a w){p:Addr}(hp:S p.block\/a.heap.size<=p.block)(u:Value):Chg S a (w.setCell p u):=
 h.trans ⟨rfl,rfl,rfl,by simp[World.setCell],fun k hk hn=>Below.heap_setCell _ _ _ _ (fun e=>hn (e ▸ hp))⟩
theorem Chg.of_below{S:Nat->Prop}{a w w':World}(h:Chg S a w)(k:Below w.heap.size w w'):Chg S a w':=
 h.then ⟨k.os,k.tape,k.output,k.size,fun i hi _=>k.block i hi⟩
theorem Chg.below{w w':World}(h:Chg (fun _=>False) w w'):Below w.heap.size w w':=⟨h.os,h.tape,h.output,h.size,fun k hk=>h.block k hk (fun hf=>hf)⟩
theorem chgB{w w':World}(h:Below w.heap.size w w')(S:Nat->Prop):Chg S w w':=(Chg.refl S w).of_below h
theorem Chg.grown{S:Nat->Prop}{a w w':World}{row:Option Nat}(h:Chg S a w)(hg:w.grownBy w' row)(hr:∀ k,row=some k->S k\/a.heap.size<=k):Chg S a w':=
 h.trans ⟨hg.os,hg.tape,hg.output,hg.size,fun k hk hn=>hg.block k hk (fun e=>hn (hr k e.symm))⟩
theorem Chg.cell{S:Nat->Prop}{w w':World}(h:Chg S w w'){p:Addr}(hp:p.block<w.heap.size)(hn:¬S p.block):w'.cell? p=w.cell? p:=World.cell?_of_block (w:=w) (h.block p.block hp hn)
theorem Chg.frozen{S:Nat->Prop}{w w':World}(h:Chg S w w'){p:Addr}(hp:p.block<w.heap.size)(hn:¬S p.block):w'.frozen? p=w.frozen? p:=World.frozen?_of_block (w:=w) (h.block p.block hp hn)
theorem cell_new{w:World}{c:Array Value}{t:TypeId}{n i:Nat}(h:n=w.heap.size):(w.alloc (.cells c t)).cell? ⟨n,i,none⟩=c[i]?:=by
 subst h;simp
theorem free_new{w:World}{c:Array Value}{t:TypeId}{n i:Nat}(h:n=w.heap.size):(w.alloc (.cells c t)).frozen? ⟨n,i,none⟩=false:=by
 subst h;simp
theorem lt_of_cell{w:World}{a:Addr}{v:Value}(h:w.cell? a=some v):a.block<w.heap.size:=by
 rcases Nat.lt_or_ge a.block w.heap.size with h' | h'
 ·exact h'
 ·simp[World.cell?,Array.getElem?_eq_none h']at h
theorem lt_of_heap{w:World}{b:Nat}{o:Obj}(h:w.heap[b]?=some o):b<w.heap.size:=(Array.getElem?_eq_some_iff.1 h).1
theorem cell_of{w:World}{b i:Nat}{c:Array Value}{t:TypeId}{f:Nat×Nat}{v:Value}(hb:w.heap[b]?=some (.cells c t f))(h:c[i]?=some v):w.cell? ⟨b,i,none⟩=some v:=by
 simp[World.cell?,hb,h]
theorem free_of{w:World}{b i:Nat}{c:Array Value}{t:TypeId}(hb:w.heap[b]?=some (.cells c t (0,0))):w.frozen? ⟨b,i,none⟩=false:=by
 simp[World.frozen?,hb]
theorem heap_setCell{w:World}{b i:Nat}{c:Array Value}{t:TypeId}{f:Nat×Nat}(v:Value)(hb:w.heap[b]?=some (.cells c t f)):
  (w.setCell ⟨b,i,none⟩ v).heap[b]?=some (.cells (c.setIfInBounds i v) t f):=by
 simp[World.setCell,Array.getElem?_modify,hb]
theorem heap_setCell_ne{w:World}{b:Nat}{a:Addr}(v:Value)(h:b≠a.block):(w.setCell a v).heap[b]?=w.heap[b]?:=Below.heap_setCell _ _ _ _ h
end
section
structure B4 where
 (a b c d:Int)
 deriving DecidableEq
structure Req where
 num:Int
 write:Bool
 page:Int
 data:B4
 state:Int
 tries:Int
 after:Int
 alone:Bool
 inAir:Bool
 told:Bool
 deriving DecidableEq
structure Ent where
 r:Req
 p:Nat
 born:Nat
def reqCells(r:Req):Array Value:=
 #[.int .i64 r.num,.bool r.write,.int .i64 r.page,.int .u8 r.data.a,.int .u8 r.data.b,.int .u8 r.data.c,.int .u8 r.data.d,.int .i64 r.state,.int .i64 r.tries,.int .i64 r.after,.bool r.alone,.bool r.inAir,.bool r.told]
def Req.blocks(o r:Req):Bool:=decide (o.num<r.num) && ((o.page == r.page) && ((o.write || r.write) && ((o.state == 0) || o.inAir)))
def Req.cmp(r o:Req):Int:=if r.page≠o.page then r.page - o.page else r.num - o.num
def entLt(x y:Ent):Prop:=x.r.page<y.r.page\/(x.r.page=y.r.page/\x.r.num<y.r.num)
def byPage(l:List Ent):List Ent:=(List.range 16).flatMap fun p:Nat=>l.filter fun e=>e.r.page == (p:Int)
structure EntsOk(es:List Ent):Prop where
 page:∀ e∈es,0<=e.r.page/\e.r.page<16
 num:∀ e∈es,0<=e.r.num/\e.r.num<=2 ^ 60
 nums:es.Pairwise fun x y=>x.r.num<y.r.num
theorem EntsOk.nodup{es:List Ent}(h:EntsOk es):(es.map (·.r.num)).Nodup:=List.pairwise_map.2 (h.nums.imp fun hlt heq=>by omega)
theorem perm_filter_parts(l:List Ent)(q:Ent->Bool):l.Perm (l.filter q ++ l.filter (fun e=>!q e)):=(List.filter_append_perm q l).symm
theorem byPage_aux(l:List Ent):∀ n:Nat,((List.range n).flatMap fun p:Nat=>l.filter fun e=>e.r.page == (p:Int)).Perm (l.filter fun e=>decide (0<=e.r.page/\e.r.page<(n:Int)))
 | 0=>by
   have:(l.filter fun e=>decide (0<=e.r.page/\e.r.page<((0:Nat):Int)))=[]:=List.filter_eq_nil_iff.2 fun e _=>by simp
   rw[this];simp
 | n+1=>by
   rw[List.range_succ,List.flatMap_append]
   simp only[List.flatMap_cons,List.flatMap_nil,List.append_nil]
   refine ((byPage_aux l n).append_right _).trans ?_
   have h1:=perm_filter_parts (l.filter fun e=>decide (0<=e.r.page/\e.r.page<((n+1:Nat):Int))) (fun e=>decide (e.r.page<(n:Int)))
   refine List.Perm.trans ?_ h1.symm
   rw[List.filter_filter,List.filter_filter]
   refine List.Perm.of_eq ?_
   congr 1
   ·refine List.filter_congr fun e _=>?_
    rw[Bool.eq_iff_iff];simp;omega
   ·refine List.filter_congr fun e _=>?_
    rw[Bool.eq_iff_iff];simp;omega
theorem byPage_perm{es:List Ent}(h:EntsOk es):(byPage es).Perm es:=by
 refine (byPage_aux es 16).trans (List.Perm.of_eq (List.filter_eq_self.2 fun e he=>?_))
 have:=h.page e he
 simp;omega
theorem byPage_sorted{es:List Ent}(h:EntsOk es):(byPage es).Pairwise entLt:=by
 unfold byPage
 refine List.pairwise_flatMap.2 ⟨fun p _=>?_,?_⟩
 ·have h1:(es.filter fun e=>e.r.page == (p:Int)).Pairwise fun x y=>x.r.num<y.r.num:=h.nums.filter _
  refine h1.imp_of_mem fun {a b} ha hb hlt=>.inr ⟨?_,hlt⟩
  have h2:=(List.mem_filter.1 ha).2
  have h3:=(List.mem_filter.1 hb).2
  simp at h2 h3;omega
 ·refine (List.pairwise_lt_range (n:=16)).imp fun {p q} hpq x hx y hy=>.inl ?_
  have h2:=(List.mem_filter.1 hx).2
  have h3:=(List.mem_filter.1 hy).2
  simp at h2 h3;omega
theorem sorted_unique{l m:List Ent}(hp:l.Perm m)(hl:l.Pairwise entLt)(hm:m.Pairwise entLt):l=m:=
 List.Perm.eq_of_pairwise (le:=entLt) (fun a b _ _ h1 h2=>by unfold entLt at h1 h2;omega) hl hm hp
def isReady(now:Int)(es:List Ent)(e:Ent):Bool:=(e.r.state == 0) && (decide (e.r.after<=now) && !(es.any fun o=>o.r.blocks e.r))
def readyE(now:Int)(es:List Ent):List Ent:=(byPage es).filter (isReady now es)
end
end Go.Proofs.YticobikhndlejaaGreatDoor
