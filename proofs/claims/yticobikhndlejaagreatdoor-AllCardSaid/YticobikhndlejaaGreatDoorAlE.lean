/- Part 5 of the proof (see the last part). -/
import Derived.Test.YticobikhndlejaaGreatDoorAlD
import Derived.Test.YticobikhndlejaaGreatDoorRows
import Derived.WalkSpells
import Derived.WalkLawsBesides
import Derived.Lib.Hide
import Derived.Handy
namespace Go.Proofs
section
open Go
noncomputable def Tryx.f0:Func:={Tryz.f0 with body:=some (.refuse "")}
noncomputable def Tryx.f1:Func:={Tryz.f1 with body:=some (.refuse "")}
noncomputable def Tryx.f47:Func:={Tryz.f47 with body:=some (.refuse "")}
noncomputable def Tryx.f162:Func:={Tryz.f162 with body:=some (.refuse "")}
noncomputable def Tryx.f163:Func:={Tryz.f163 with body:=some (.refuse "")}
noncomputable def Tryx.f164:Func:={Tryz.f164 with body:=some (.refuse "")}
noncomputable def Tryx.f165:Func:={Tryz.f165 with body:=some (.refuse "")}
noncomputable def Tryx.f166:Func:={Tryz.f166 with body:=some (.refuse "")}
noncomputable def Tryx.f167:Func:={Tryz.f167 with body:=some (.refuse "")}
noncomputable def Tryx.f168:Func:={Tryz.f168 with body:=some (.refuse "")}
noncomputable def Tryx.f169:Func:={Tryz.f169 with body:=some (.refuse "")}
noncomputable def Tryx.f170:Func:={Tryz.f170 with body:=some (.refuse "")}
noncomputable def Tryx.f171:Func:={Tryz.f171 with body:=some (.refuse "")}
noncomputable def Tryx.f172:Func:={Tryz.f172 with body:=some (.refuse "")}
noncomputable def Tryx.f173:Func:={Tryz.f173 with body:=some (.refuse "")}
noncomputable def Tryx.f174:Func:={Tryz.f174 with body:=some (.refuse "")}
noncomputable def Tryx.f175:Func:={Tryz.f175 with body:=some (.refuse "")}
noncomputable def Tryx.f177:Func:={Tryz.f177 with body:=some (.refuse "")}
noncomputable def Tryx.f178:Func:={Tryz.f178 with body:=some (.refuse "")}
noncomputable def Tryx.f179:Func:={Tryz.f179 with body:=some (.refuse "")}
noncomputable def Tryx.f180:Func:={Tryz.f180 with body:=some (.refuse "")}
noncomputable def Tryx.f182:Func:={Tryz.f182 with body:=some (.refuse "")}
noncomputable def Tryx.f183:Func:={Tryz.f183 with body:=some (.refuse "")}
noncomputable def Tryx.f184:Func:={Tryz.f184 with body:=some (.refuse "")}
noncomputable def Tryx.f185:Func:={Tryz.f185 with body:=some (.refuse "")}
noncomputable def Tryx.f190:Func:={Tryz.f190 with body:=some (.refuse "")}
noncomputable def Tryx.f191:Func:={Tryz.f191 with body:=some (.refuse "")}
noncomputable def Tryx.f192:Func:={Tryz.f192 with body:=some (.refuse "")}
noncomputable def Tryx.f193:Func:={Tryz.f193 with body:=some (.refuse "")}
noncomputable def Tryx.f194:Func:={Tryz.f194 with body:=some (.refuse "")}
noncomputable def Tryx.f195:Func:={Tryz.f195 with body:=some (.refuse "")}
noncomputable def Tryx.f196:Func:={Tryz.f196 with body:=some (.refuse "")}
noncomputable def Tryx.f197:Func:={Tryz.f197 with body:=some (.refuse "")}
noncomputable def Tryx.f198:Func:={Tryz.f198 with body:=some (.refuse "")}
noncomputable def Tryx.f199:Func:={Tryz.f199 with body:=some (.refuse "")}
noncomputable def Tryx.f26:Func:=YticobikhndlejaaGreatDoor.gfn
noncomputable def Tryx.funcs:Array Func:=#[Tryx.f0,Tryx.f1,Tryz.f2,Tryz.f3,Tryz.f4,Tryz.f5,Tryz.f6,Tryz.f7,Tryz.f8,Tryz.f9,Tryz.f10,Tryz.f11,Tryz.f12,Tryz.f13,Tryz.f14,Tryz.f15,Tryz.f16,Tryz.f17,Tryz.f18,Tryz.f19,Tryz.f20,Tryz.f21,Tryz.f22,Tryz.f23,Tryz.f24,Tryz.f25,Tryx.f26,Tryz.f27,Tryz.f28,Tryz.f29,Tryz.f30,Tryz.f31,Tryz.f32,Tryz.f33,Tryz.f34,Tryz.f35,Tryz.f36,Tryz.f37,Tryz.f38,Tryz.f39,Tryz.f40,Tryz.f41,Tryz.f42,Tryz.f43,Tryz.f44,Tryz.f45,Tryz.f46,Tryx.f47,Tryz.f48,Tryz.f49,Tryz.f50,Tryz.f51,Tryz.f52,Tryz.f53,Tryz.f54,Tryz.f55,Tryz.f56,Tryz.f57,Tryz.f58,Tryz.f59,Tryz.f60,Tryz.f61,Tryz.f62,Tryz.f63,Tryz.f64,Tryz.f65,Tryz.f66,Tryz.f67,Tryz.f68,Tryz.f69,Tryz.f70,Tryz.f71,Tryz.f72,Tryz.f73,Tryz.f74,Tryz.f75,Tryz.f76,Tryz.f77,Tryz.f78,Tryz.f79,Tryz.f80,Tryz.f81,Tryz.f82,Tryz.f83,Tryz.f84,Tryz.f85,Tryz.f86,Tryz.f87,Tryz.f88,Tryz.f89,Tryz.f90,Tryz.f91,Tryz.f92,Tryz.f93,Tryz.f94,Tryz.f95,Tryz.f96,Tryz.f97,Tryz.f98,Tryz.f99,Tryz.f100,Tryz.f101,Tryz.f102,Tryz.f103,Tryz.f104,Tryz.f105,Tryz.f106,Tryz.f107,Tryz.f108,Tryz.f109,Tryz.f110,Tryz.f111,Tryz.f112,Tryz.f113,Tryz.f114,Tryz.f115,Tryz.f116,Tryz.f117,Tryz.f118,Tryz.f119,Tryz.f120,Tryz.f121,Tryz.f122,Tryz.f123,Tryz.f124,Tryz.f125,Tryz.f126,Tryz.f127,Tryz.f128,Tryz.f129,Tryz.f130,Tryz.f131,Tryz.f132,Tryz.f133,Tryz.f134,Tryz.f135,Tryz.f136,Tryz.f137,Tryz.f138,Tryz.f139,Tryz.f140,Tryz.f141,Tryz.f142,Tryz.f143,Tryz.f144,Tryz.f145,Tryz.f146,Tryz.f147,Tryz.f148,Tryz.f149,Tryz.f150,Tryz.f151,Tryz.f152,Tryz.f153,Tryz.f154,Tryz.f155,Tryz.f156,Tryz.f157,Tryz.f158,Tryz.f159,Tryz.f160,Tryz.f161,Tryx.f162,Tryx.f163,Tryx.f164,Tryx.f165,Tryx.f166,Tryx.f167,Tryx.f168,Tryx.f169,Tryx.f170,Tryx.f171,Tryx.f172,Tryx.f173,Tryx.f174,Tryx.f175,Tryz.f176,Tryx.f177,Tryx.f178,Tryx.f179,Tryx.f180,Tryz.f181,Tryx.f182,Tryx.f183,Tryx.f184,Tryx.f185,Tryz.f186,Tryz.f187,Tryz.f188,Tryz.f189,Tryx.f190,Tryx.f191,Tryx.f192,Tryx.f193,Tryx.f194,Tryx.f195,Tryx.f196,Tryx.f197,Tryx.f198,Tryx.f199,Tryz.f200]
noncomputable def Tryx.prog:Program:=YticobikhndlejaaGreatDoor.ofF Tryz.prog Tryx.funcs
theorem Tryx.mask:YticobikhndlejaaGreatDoor.ofF YticobikhndlejaaGreatDoor.gP (YticobikhndlejaaGreatDoor.maskF YticobikhndlejaaGreatDoor.gP YticobikhndlejaaGreatDoor.gE)=Tryx.prog:=by
 have h:YticobikhndlejaaGreatDoor.maskF YticobikhndlejaaGreatDoor.gP YticobikhndlejaaGreatDoor.gE=Tryx.funcs:=by kernel_rfl
 unfold Tryx.prog
 rw[h]
 unfold YticobikhndlejaaGreatDoor.gP
 rfl
theorem call_of{P:Program}{f:FuncId}{fn:Func}(h:P.funcs[f]?=some fn)(hn:(fn.name == "runtime.NumGoroutine")=false)(hb:fn.body.isNone=false)(args:Array Value)(w:World):(callFunc f args).run P w=.ok (.enter f args) w:=by
 have e:(callFunc f args).run P w=(match P.funcs[f]? with | none=>(stuck "call: no such function":Sem Next) | some fn=>_).run P w:=rfl
 rw[e,h]
 dsimp only
 rw[hn,hb]
 rfl
@[simp] theorem Tryx.func4:Tryx.prog.funcs[4]?=some Tryz.f4:=by kernel_rfl
@[simp] theorem Tryx.func11:Tryx.prog.funcs[11]?=some Tryz.f11:=by kernel_rfl
@[simp] theorem Tryx.func15:Tryx.prog.funcs[15]?=some Tryz.f15:=by kernel_rfl
@[simp] theorem Tryx.func16:Tryx.prog.funcs[16]?=some Tryz.f16:=by kernel_rfl
@[simp] theorem Tryx.func18:Tryx.prog.funcs[18]?=some Tryz.f18:=by kernel_rfl
@[simp] theorem Tryx.func19:Tryx.prog.funcs[19]?=some Tryz.f19:=by kernel_rfl
@[simp] theorem Tryx.func20:Tryx.prog.funcs[20]?=some Tryz.f20:=by kernel_rfl
@[simp] theorem Tryx.func22:Tryx.prog.funcs[22]?=some Tryz.f22:=by kernel_rfl
@[simp] theorem Tryx.func23:Tryx.prog.funcs[23]?=some Tryz.f23:=by kernel_rfl
@[simp] theorem Tryx.func24:Tryx.prog.funcs[24]?=some Tryz.f24:=by kernel_rfl
@[simp] theorem Tryx.func25:Tryx.prog.funcs[25]?=some Tryz.f25:=by kernel_rfl
@[simp] theorem Tryx.func26:Tryx.prog.funcs[26]?=some Tryx.f26:=by kernel_rfl
@[simp] theorem Tryx.func29:Tryx.prog.funcs[29]?=some Tryz.f29:=by kernel_rfl
@[simp] theorem Tryx.func30:Tryx.prog.funcs[30]?=some Tryz.f30:=by kernel_rfl
@[simp] theorem Tryx.func31:Tryx.prog.funcs[31]?=some Tryz.f31:=by kernel_rfl
@[simp] theorem Tryx.func32:Tryx.prog.funcs[32]?=some Tryz.f32:=by kernel_rfl
@[simp] theorem Tryx.func33:Tryx.prog.funcs[33]?=some Tryz.f33:=by kernel_rfl
@[simp] theorem Tryx.func34:Tryx.prog.funcs[34]?=some Tryz.f34:=by kernel_rfl
@[simp] theorem Tryx.func35:Tryx.prog.funcs[35]?=some Tryz.f35:=by kernel_rfl
@[simp] theorem Tryx.func36:Tryx.prog.funcs[36]?=some Tryz.f36:=by kernel_rfl
@[simp] theorem Tryx.func37:Tryx.prog.funcs[37]?=some Tryz.f37:=by kernel_rfl
@[simp] theorem Tryx.func38:Tryx.prog.funcs[38]?=some Tryz.f38:=by kernel_rfl
@[simp] theorem Tryx.func39:Tryx.prog.funcs[39]?=some Tryz.f39:=by kernel_rfl
@[simp] theorem Tryx.func40:Tryx.prog.funcs[40]?=some Tryz.f40:=by kernel_rfl
@[simp] theorem Tryx.func41:Tryx.prog.funcs[41]?=some Tryz.f41:=by kernel_rfl
@[simp] theorem Tryx.func42:Tryx.prog.funcs[42]?=some Tryz.f42:=by kernel_rfl
@[simp] theorem Tryx.func44:Tryx.prog.funcs[44]?=some Tryz.f44:=by kernel_rfl
@[simp] theorem Tryx.func45:Tryx.prog.funcs[45]?=some Tryz.f45:=by kernel_rfl
@[simp] theorem Tryx.func46:Tryx.prog.funcs[46]?=some Tryz.f46:=by kernel_rfl
@[simp] theorem Tryx.func48:Tryx.prog.funcs[48]?=some Tryz.f48:=by kernel_rfl
@[simp] theorem Tryx.func49:Tryx.prog.funcs[49]?=some Tryz.f49:=by kernel_rfl
@[simp] theorem Tryx.func50:Tryx.prog.funcs[50]?=some Tryz.f50:=by kernel_rfl
@[simp] theorem Tryx.func51:Tryx.prog.funcs[51]?=some Tryz.f51:=by kernel_rfl
@[simp] theorem Tryx.func52:Tryx.prog.funcs[52]?=some Tryz.f52:=by kernel_rfl
@[simp] theorem Tryx.func53:Tryx.prog.funcs[53]?=some Tryz.f53:=by kernel_rfl
@[simp] theorem Tryx.func54:Tryx.prog.funcs[54]?=some Tryz.f54:=by kernel_rfl
@[simp] theorem Tryx.func55:Tryx.prog.funcs[55]?=some Tryz.f55:=by kernel_rfl
@[simp] theorem Tryx.func56:Tryx.prog.funcs[56]?=some Tryz.f56:=by kernel_rfl
@[simp] theorem Tryx.func57:Tryx.prog.funcs[57]?=some Tryz.f57:=by kernel_rfl
@[simp] theorem Tryx.func58:Tryx.prog.funcs[58]?=some Tryz.f58:=by kernel_rfl
@[simp] theorem Tryx.func59:Tryx.prog.funcs[59]?=some Tryz.f59:=by kernel_rfl
@[simp] theorem Tryx.func60:Tryx.prog.funcs[60]?=some Tryz.f60:=by kernel_rfl
@[simp] theorem Tryx.func61:Tryx.prog.funcs[61]?=some Tryz.f61:=by kernel_rfl
@[simp] theorem Tryx.func62:Tryx.prog.funcs[62]?=some Tryz.f62:=by kernel_rfl
@[simp] theorem Tryx.func63:Tryx.prog.funcs[63]?=some Tryz.f63:=by kernel_rfl
@[simp] theorem Tryx.func64:Tryx.prog.funcs[64]?=some Tryz.f64:=by kernel_rfl
@[simp] theorem Tryx.func65:Tryx.prog.funcs[65]?=some Tryz.f65:=by kernel_rfl
@[simp] theorem Tryx.func66:Tryx.prog.funcs[66]?=some Tryz.f66:=by kernel_rfl
@[simp] theorem Tryx.func67:Tryx.prog.funcs[67]?=some Tryz.f67:=by kernel_rfl
@[simp] theorem Tryx.func68:Tryx.prog.funcs[68]?=some Tryz.f68:=by kernel_rfl
@[simp] theorem Tryx.func69:Tryx.prog.funcs[69]?=some Tryz.f69:=by kernel_rfl
@[simp] theorem Tryx.func70:Tryx.prog.funcs[70]?=some Tryz.f70:=by kernel_rfl
@[simp] theorem Tryx.func71:Tryx.prog.funcs[71]?=some Tryz.f71:=by kernel_rfl
@[simp] theorem Tryx.func72:Tryx.prog.funcs[72]?=some Tryz.f72:=by kernel_rfl
@[simp] theorem Tryx.func73:Tryx.prog.funcs[73]?=some Tryz.f73:=by kernel_rfl
@[simp] theorem Tryx.func74:Tryx.prog.funcs[74]?=some Tryz.f74:=by kernel_rfl
@[simp] theorem Tryx.func76:Tryx.prog.funcs[76]?=some Tryz.f76:=by kernel_rfl
@[simp] theorem Tryx.func77:Tryx.prog.funcs[77]?=some Tryz.f77:=by kernel_rfl
@[simp] theorem Tryx.func78:Tryx.prog.funcs[78]?=some Tryz.f78:=by kernel_rfl
@[simp] theorem Tryx.func79:Tryx.prog.funcs[79]?=some Tryz.f79:=by kernel_rfl
@[simp] theorem Tryx.func80:Tryx.prog.funcs[80]?=some Tryz.f80:=by kernel_rfl
@[simp] theorem Tryx.func81:Tryx.prog.funcs[81]?=some Tryz.f81:=by kernel_rfl
@[simp] theorem Tryx.func82:Tryx.prog.funcs[82]?=some Tryz.f82:=by kernel_rfl
@[simp] theorem Tryx.func83:Tryx.prog.funcs[83]?=some Tryz.f83:=by kernel_rfl
@[simp] theorem Tryx.func84:Tryx.prog.funcs[84]?=some Tryz.f84:=by kernel_rfl
@[simp] theorem Tryx.func85:Tryx.prog.funcs[85]?=some Tryz.f85:=by kernel_rfl
@[simp] theorem Tryx.func86:Tryx.prog.funcs[86]?=some Tryz.f86:=by kernel_rfl
@[simp] theorem Tryx.func87:Tryx.prog.funcs[87]?=some Tryz.f87:=by kernel_rfl
@[simp] theorem Tryx.func88:Tryx.prog.funcs[88]?=some Tryz.f88:=by kernel_rfl
@[simp] theorem Tryx.func89:Tryx.prog.funcs[89]?=some Tryz.f89:=by kernel_rfl
@[simp] theorem Tryx.func90:Tryx.prog.funcs[90]?=some Tryz.f90:=by kernel_rfl
@[simp] theorem Tryx.func91:Tryx.prog.funcs[91]?=some Tryz.f91:=by kernel_rfl
@[simp] theorem Tryx.func92:Tryx.prog.funcs[92]?=some Tryz.f92:=by kernel_rfl
@[simp] theorem Tryx.func93:Tryx.prog.funcs[93]?=some Tryz.f93:=by kernel_rfl
@[simp] theorem Tryx.func94:Tryx.prog.funcs[94]?=some Tryz.f94:=by kernel_rfl
@[simp] theorem Tryx.func95:Tryx.prog.funcs[95]?=some Tryz.f95:=by kernel_rfl
@[simp] theorem Tryx.func96:Tryx.prog.funcs[96]?=some Tryz.f96:=by kernel_rfl
@[simp] theorem Tryx.func97:Tryx.prog.funcs[97]?=some Tryz.f97:=by kernel_rfl
@[simp] theorem Tryx.func98:Tryx.prog.funcs[98]?=some Tryz.f98:=by kernel_rfl
@[simp] theorem Tryx.func100:Tryx.prog.funcs[100]?=some Tryz.f100:=by kernel_rfl
@[simp] theorem Tryx.func101:Tryx.prog.funcs[101]?=some Tryz.f101:=by kernel_rfl
@[simp] theorem Tryx.func102:Tryx.prog.funcs[102]?=some Tryz.f102:=by kernel_rfl
@[simp] theorem Tryx.func103:Tryx.prog.funcs[103]?=some Tryz.f103:=by kernel_rfl
@[simp] theorem Tryx.func104:Tryx.prog.funcs[104]?=some Tryz.f104:=by kernel_rfl
@[simp] theorem Tryx.func105:Tryx.prog.funcs[105]?=some Tryz.f105:=by kernel_rfl
@[simp] theorem Tryx.func106:Tryx.prog.funcs[106]?=some Tryz.f106:=by kernel_rfl
@[simp] theorem Tryx.func107:Tryx.prog.funcs[107]?=some Tryz.f107:=by kernel_rfl
@[simp] theorem Tryx.func108:Tryx.prog.funcs[108]?=some Tryz.f108:=by kernel_rfl
@[simp] theorem Tryx.func109:Tryx.prog.funcs[109]?=some Tryz.f109:=by kernel_rfl
@[simp] theorem Tryx.func110:Tryx.prog.funcs[110]?=some Tryz.f110:=by kernel_rfl
@[simp] theorem Tryx.func111:Tryx.prog.funcs[111]?=some Tryz.f111:=by kernel_rfl
@[simp] theorem Tryx.func112:Tryx.prog.funcs[112]?=some Tryz.f112:=by kernel_rfl
@[simp] theorem Tryx.func113:Tryx.prog.funcs[113]?=some Tryz.f113:=by kernel_rfl
@[simp] theorem Tryx.func116:Tryx.prog.funcs[116]?=some Tryz.f116:=by kernel_rfl
@[simp] theorem Tryx.func117:Tryx.prog.funcs[117]?=some Tryz.f117:=by kernel_rfl
@[simp] theorem Tryx.func118:Tryx.prog.funcs[118]?=some Tryz.f118:=by kernel_rfl
@[simp] theorem Tryx.func119:Tryx.prog.funcs[119]?=some Tryz.f119:=by kernel_rfl
@[simp] theorem Tryx.func120:Tryx.prog.funcs[120]?=some Tryz.f120:=by kernel_rfl
@[simp] theorem Tryx.func121:Tryx.prog.funcs[121]?=some Tryz.f121:=by kernel_rfl
@[simp] theorem Tryx.func122:Tryx.prog.funcs[122]?=some Tryz.f122:=by kernel_rfl
@[simp] theorem Tryx.func123:Tryx.prog.funcs[123]?=some Tryz.f123:=by kernel_rfl
@[simp] theorem Tryx.func124:Tryx.prog.funcs[124]?=some Tryz.f124:=by kernel_rfl
@[simp] theorem Tryx.func125:Tryx.prog.funcs[125]?=some Tryz.f125:=by kernel_rfl
@[simp] theorem Tryx.func126:Tryx.prog.funcs[126]?=some Tryz.f126:=by kernel_rfl
@[simp] theorem Tryx.func127:Tryx.prog.funcs[127]?=some Tryz.f127:=by kernel_rfl
@[simp] theorem Tryx.func128:Tryx.prog.funcs[128]?=some Tryz.f128:=by kernel_rfl
@[simp] theorem Tryx.func129:Tryx.prog.funcs[129]?=some Tryz.f129:=by kernel_rfl
@[simp] theorem Tryx.func130:Tryx.prog.funcs[130]?=some Tryz.f130:=by kernel_rfl
@[simp] theorem Tryx.func131:Tryx.prog.funcs[131]?=some Tryz.f131:=by kernel_rfl
@[simp] theorem Tryx.func132:Tryx.prog.funcs[132]?=some Tryz.f132:=by kernel_rfl
@[simp] theorem Tryx.func133:Tryx.prog.funcs[133]?=some Tryz.f133:=by kernel_rfl
@[simp] theorem Tryx.func134:Tryx.prog.funcs[134]?=some Tryz.f134:=by kernel_rfl
@[simp] theorem Tryx.func135:Tryx.prog.funcs[135]?=some Tryz.f135:=by kernel_rfl
@[simp] theorem Tryx.func136:Tryx.prog.funcs[136]?=some Tryz.f136:=by kernel_rfl
@[simp] theorem Tryx.func137:Tryx.prog.funcs[137]?=some Tryz.f137:=by kernel_rfl
@[simp] theorem Tryx.func138:Tryx.prog.funcs[138]?=some Tryz.f138:=by kernel_rfl
@[simp] theorem Tryx.func139:Tryx.prog.funcs[139]?=some Tryz.f139:=by kernel_rfl
@[simp] theorem Tryx.func140:Tryx.prog.funcs[140]?=some Tryz.f140:=by kernel_rfl
@[simp] theorem Tryx.func141:Tryx.prog.funcs[141]?=some Tryz.f141:=by kernel_rfl
@[simp] theorem Tryx.func142:Tryx.prog.funcs[142]?=some Tryz.f142:=by kernel_rfl
@[simp] theorem Tryx.func143:Tryx.prog.funcs[143]?=some Tryz.f143:=by kernel_rfl
@[simp] theorem Tryx.func144:Tryx.prog.funcs[144]?=some Tryz.f144:=by kernel_rfl
@[simp] theorem Tryx.func145:Tryx.prog.funcs[145]?=some Tryz.f145:=by kernel_rfl
@[simp] theorem Tryx.func146:Tryx.prog.funcs[146]?=some Tryz.f146:=by kernel_rfl
@[simp] theorem Tryx.func147:Tryx.prog.funcs[147]?=some Tryz.f147:=by kernel_rfl
@[simp] theorem Tryx.func148:Tryx.prog.funcs[148]?=some Tryz.f148:=by kernel_rfl
@[simp] theorem Tryx.func149:Tryx.prog.funcs[149]?=some Tryz.f149:=by kernel_rfl
@[simp] theorem Tryx.func150:Tryx.prog.funcs[150]?=some Tryz.f150:=by kernel_rfl
@[simp] theorem Tryx.func151:Tryx.prog.funcs[151]?=some Tryz.f151:=by kernel_rfl
@[simp] theorem Tryx.func152:Tryx.prog.funcs[152]?=some Tryz.f152:=by kernel_rfl
@[simp] theorem Tryx.func153:Tryx.prog.funcs[153]?=some Tryz.f153:=by kernel_rfl
@[simp] theorem Tryx.func154:Tryx.prog.funcs[154]?=some Tryz.f154:=by kernel_rfl
@[simp] theorem Tryx.func155:Tryx.prog.funcs[155]?=some Tryz.f155:=by kernel_rfl
@[simp] theorem Tryx.func156:Tryx.prog.funcs[156]?=some Tryz.f156:=by kernel_rfl
@[simp] theorem Tryx.func157:Tryx.prog.funcs[157]?=some Tryz.f157:=by kernel_rfl
@[simp] theorem Tryx.func158:Tryx.prog.funcs[158]?=some Tryz.f158:=by kernel_rfl
@[simp] theorem Tryx.func159:Tryx.prog.funcs[159]?=some Tryz.f159:=by kernel_rfl
@[simp] theorem Tryx.func160:Tryx.prog.funcs[160]?=some Tryz.f160:=by kernel_rfl
@[simp] theorem Tryx.func161:Tryx.prog.funcs[161]?=some Tryz.f161:=by kernel_rfl
@[simp] theorem Tryx.func181:Tryx.prog.funcs[181]?=some Tryz.f181:=by kernel_rfl
theorem Tryx.ntmps26:Tryx.f26.ntmps=84:=rfl
theorem gen_typeInfo(P:Program)(F:Array Func)(t:TypeId)(w:World):(typeInfo t).run (YticobikhndlejaaGreatDoor.ofF P F) w=(typeInfo t).run P w:=by
 show (match (YticobikhndlejaaGreatDoor.ofF P F).info? t with | some i=>(pure i:Sem TypeInfo) | none=>stuck "no such type").run (YticobikhndlejaaGreatDoor.ofF P F) w=(match P.info? t with | some i=>(pure i:Sem TypeInfo) | none=>stuck "no such type").run P w
 rw[YticobikhndlejaaGreatDoor.info_ofF]
 cases P.info? t <;> rfl
theorem gen_underlying(P:Program)(F:Array Func)(t:TypeId)(w:World):(underlying t).run (YticobikhndlejaaGreatDoor.ofF P F) w=(underlying t).run P w:=by
 show (match (YticobikhndlejaaGreatDoor.ofF P F).underlying t with | some i=>(pure i:Sem TypeDesc) | none=>stuck "no such type").run (YticobikhndlejaaGreatDoor.ofF P F) w=(match P.underlying t with | some i=>(pure i:Sem TypeDesc) | none=>stuck "no such type").run P w
 rw[YticobikhndlejaaGreatDoor.underlying_ofF]
 cases P.underlying t <;> rfl
theorem gen_sizeOf(P:Program)(F:Array Func)(t:TypeId)(w:World):(Go.sizeOf t).run (YticobikhndlejaaGreatDoor.ofF P F) w=(Go.sizeOf t).run P w:=by
 unfold Go.sizeOf
 rw[Sem.run_bind,Sem.run_bind,gen_typeInfo]
 congr 1
theorem gen_isAgg(P:Program)(F:Array Func)(t:TypeId)(w:World):(isAgg t).run (YticobikhndlejaaGreatDoor.ofF P F) w=(isAgg t).run P w:=by
 unfold isAgg
 rw[Sem.run_bind,Sem.run_bind,gen_underlying]
 congr 1
 funext a w1
 cases a <;> rfl
theorem gen_zeroValue(P:Program)(F:Array Func)(t:TypeId)(w:World):(zeroValue t).run (YticobikhndlejaaGreatDoor.ofF P F) w=(zeroValue t).run P w:=by
 unfold zeroValue
 rw[Sem.run_bind,Sem.run_bind,gen_typeInfo]
 congr 1
 funext a w1
 cases a.zero <;> rfl
@[simp] theorem Tryx.typeInfo_(t:TypeId)(w:World):(typeInfo t).run Tryx.prog w=(typeInfo t).run Tryz.prog w:=gen_typeInfo _ _ _ _
@[simp] theorem Tryx.sizeOf_(t:TypeId)(w:World):(Go.sizeOf t).run Tryx.prog w=(Go.sizeOf t).run Tryz.prog w:=gen_sizeOf _ _ _ _
@[simp] theorem Tryx.isAgg_(t:TypeId)(w:World):(isAgg t).run Tryx.prog w=(isAgg t).run Tryz.prog w:=gen_isAgg _ _ _ _
@[simp] theorem Tryx.zeroValue_(t:TypeId)(w:World):(zeroValue t).run Tryx.prog w=(zeroValue t).run Tryz.prog w:=gen_zeroValue _ _ _ _
@[simp] theorem Tryx.underlying_(t:TypeId)(w:World):(underlying t).run Tryx.prog w=(underlying t).run Tryz.prog w:=gen_underlying _ _ _ _
theorem gen_tables(P:Program)(F:Array Func):(YticobikhndlejaaGreatDoor.ofF P F).toTables=P.toTables:=rfl
@[simp] theorem Tryx.und(t:TypeId):Tryx.prog.underlying t=Tryz.prog.underlying t:=YticobikhndlejaaGreatDoor.underlying_ofF _
@[simp] theorem Tryx.info_(t:TypeId):Tryx.prog.info? t=Tryz.prog.info? t:=YticobikhndlejaaGreatDoor.info_ofF _
@[simp] theorem Tryx.tables:Tryx.prog.toTables=Tryz.prog.toTables:=gen_tables _ _
@[simp] theorem Tryx.eqg(d:Nat)(t:TypeId):Tryx.prog.eqGuardType d t=Tryz.prog.eqGuardType d t:=YticobikhndlejaaGreatDoor.eqGuardType_ofF _ _
@[simp] theorem Tryx.dep:Tryx.prog.depth=Tryz.prog.depth:=YticobikhndlejaaGreatDoor.depth_ofF
@[simp] theorem Tryx.call11(args:Array Value)(w:World):(callFunc 11 args).run Tryx.prog w=.ok (.enter 11 args) w:=call_of Tryx.func11 (by kernel_rfl) (by kernel_rfl) args w
@[simp] theorem Tryx.call15(args:Array Value)(w:World):(callFunc 15 args).run Tryx.prog w=.ok (.enter 15 args) w:=call_of Tryx.func15 (by kernel_rfl) (by kernel_rfl) args w
@[simp] theorem Tryx.call16(args:Array Value)(w:World):(callFunc 16 args).run Tryx.prog w=.ok (.enter 16 args) w:=call_of Tryx.func16 (by kernel_rfl) (by kernel_rfl) args w
@[simp] theorem Tryx.call18(args:Array Value)(w:World):(callFunc 18 args).run Tryx.prog w=.ok (.enter 18 args) w:=call_of Tryx.func18 (by kernel_rfl) (by kernel_rfl) args w
@[simp] theorem Tryx.call19(args:Array Value)(w:World):(callFunc 19 args).run Tryx.prog w=.ok (.enter 19 args) w:=call_of Tryx.func19 (by kernel_rfl) (by kernel_rfl) args w
@[simp] theorem Tryx.call20(args:Array Value)(w:World):(callFunc 20 args).run Tryx.prog w=.ok (.enter 20 args) w:=call_of Tryx.func20 (by kernel_rfl) (by kernel_rfl) args w
@[simp] theorem Tryx.call22(args:Array Value)(w:World):(callFunc 22 args).run Tryx.prog w=.ok (.enter 22 args) w:=call_of Tryx.func22 (by kernel_rfl) (by kernel_rfl) args w
@[simp] theorem Tryx.call23(args:Array Value)(w:World):(callFunc 23 args).run Tryx.prog w=.ok (.enter 23 args) w:=call_of Tryx.func23 (by kernel_rfl) (by kernel_rfl) args w
@[simp] theorem Tryx.call24(args:Array Value)(w:World):(callFunc 24 args).run Tryx.prog w=.ok (.enter 24 args) w:=call_of Tryx.func24 (by kernel_rfl) (by kernel_rfl) args w
@[simp] theorem Tryx.call25(args:Array Value)(w:World):(callFunc 25 args).run Tryx.prog w=.ok (.enter 25 args) w:=call_of Tryx.func25 (by kernel_rfl) (by kernel_rfl) args w
@[simp] theorem Tryx.call26(args:Array Value)(w:World):(callFunc 26 args).run Tryx.prog w=.ok (.enter 26 args) w:=call_of Tryx.func26 (by kernel_rfl) (by kernel_rfl) args w
@[simp] theorem Tryx.call29(args:Array Value)(w:World):(callFunc 29 args).run Tryx.prog w=.ok (.enter 29 args) w:=call_of Tryx.func29 (by kernel_rfl) (by kernel_rfl) args w
@[simp] theorem Tryx.call30(args:Array Value)(w:World):(callFunc 30 args).run Tryx.prog w=.ok (.enter 30 args) w:=call_of Tryx.func30 (by kernel_rfl) (by kernel_rfl) args w
@[simp] theorem Tryx.call31(args:Array Value)(w:World):(callFunc 31 args).run Tryx.prog w=.ok (.enter 31 args) w:=call_of Tryx.func31 (by kernel_rfl) (by kernel_rfl) args w
@[simp] theorem Tryx.call32(args:Array Value)(w:World):(callFunc 32 args).run Tryx.prog w=.ok (.enter 32 args) w:=call_of Tryx.func32 (by kernel_rfl) (by kernel_rfl) args w
@[simp] theorem Tryx.call33(args:Array Value)(w:World):(callFunc 33 args).run Tryx.prog w=.ok (.enter 33 args) w:=call_of Tryx.func33 (by kernel_rfl) (by kernel_rfl) args w
@[simp] theorem Tryx.call34(args:Array Value)(w:World):(callFunc 34 args).run Tryx.prog w=.ok (.enter 34 args) w:=call_of Tryx.func34 (by kernel_rfl) (by kernel_rfl) args w
@[simp] theorem Tryx.call35(args:Array Value)(w:World):(callFunc 35 args).run Tryx.prog w=.ok (.enter 35 args) w:=call_of Tryx.func35 (by kernel_rfl) (by kernel_rfl) args w
@[simp] theorem Tryx.call36(args:Array Value)(w:World):(callFunc 36 args).run Tryx.prog w=.ok (.enter 36 args) w:=call_of Tryx.func36 (by kernel_rfl) (by kernel_rfl) args w
@[simp] theorem Tryx.call37(args:Array Value)(w:World):(callFunc 37 args).run Tryx.prog w=.ok (.enter 37 args) w:=call_of Tryx.func37 (by kernel_rfl) (by kernel_rfl) args w
@[simp] theorem Tryx.call38(args:Array Value)(w:World):(callFunc 38 args).run Tryx.prog w=.ok (.enter 38 args) w:=call_of Tryx.func38 (by kernel_rfl) (by kernel_rfl) args w
@[simp] theorem Tryx.call39(args:Array Value)(w:World):(callFunc 39 args).run Tryx.prog w=.ok (.enter 39 args) w:=call_of Tryx.func39 (by kernel_rfl) (by kernel_rfl) args w
@[simp] theorem Tryx.call40(args:Array Value)(w:World):(callFunc 40 args).run Tryx.prog w=.ok (.enter 40 args) w:=call_of Tryx.func40 (by kernel_rfl) (by kernel_rfl) args w
@[simp] theorem Tryx.call41(args:Array Value)(w:World):(callFunc 41 args).run Tryx.prog w=.ok (.enter 41 args) w:=call_of Tryx.func41 (by kernel_rfl) (by kernel_rfl) args w
@[simp] theorem Tryx.call42(args:Array Value)(w:World):(callFunc 42 args).run Tryx.prog w=.ok (.enter 42 args) w:=call_of Tryx.func42 (by kernel_rfl) (by kernel_rfl) args w
@[simp] theorem Tryx.call44(args:Array Value)(w:World):(callFunc 44 args).run Tryx.prog w=.ok (.enter 44 args) w:=call_of Tryx.func44 (by kernel_rfl) (by kernel_rfl) args w
@[simp] theorem Tryx.call45(args:Array Value)(w:World):(callFunc 45 args).run Tryx.prog w=.ok (.enter 45 args) w:=call_of Tryx.func45 (by kernel_rfl) (by kernel_rfl) args w
@[simp] theorem Tryx.call46(args:Array Value)(w:World):(callFunc 46 args).run Tryx.prog w=.ok (.enter 46 args) w:=call_of Tryx.func46 (by kernel_rfl) (by kernel_rfl) args w
@[simp] theorem Tryx.call48(args:Array Value)(w:World):(callFunc 48 args).run Tryx.prog w=.ok (.enter 48 args) w:=call_of Tryx.func48 (by kernel_rfl) (by kernel_rfl) args w
@[simp] theorem Tryx.call49(args:Array Value)(w:World):(callFunc 49 args).run Tryx.prog w=.ok (.enter 49 args) w:=call_of Tryx.func49 (by kernel_rfl) (by kernel_rfl) args w
@[simp] theorem Tryx.call50(args:Array Value)(w:World):(callFunc 50 args).run Tryx.prog w=.ok (.enter 50 args) w:=call_of Tryx.func50 (by kernel_rfl) (by kernel_rfl) args w
@[simp] theorem Tryx.call51(args:Array Value)(w:World):(callFunc 51 args).run Tryx.prog w=.ok (.enter 51 args) w:=call_of Tryx.func51 (by kernel_rfl) (by kernel_rfl) args w
@[simp] theorem Tryx.call52(args:Array Value)(w:World):(callFunc 52 args).run Tryx.prog w=.ok (.enter 52 args) w:=call_of Tryx.func52 (by kernel_rfl) (by kernel_rfl) args w
@[simp] theorem Tryx.call53(args:Array Value)(w:World):(callFunc 53 args).run Tryx.prog w=.ok (.enter 53 args) w:=call_of Tryx.func53 (by kernel_rfl) (by kernel_rfl) args w
@[simp] theorem Tryx.call54(args:Array Value)(w:World):(callFunc 54 args).run Tryx.prog w=.ok (.enter 54 args) w:=call_of Tryx.func54 (by kernel_rfl) (by kernel_rfl) args w
@[simp] theorem Tryx.call55(args:Array Value)(w:World):(callFunc 55 args).run Tryx.prog w=.ok (.enter 55 args) w:=call_of Tryx.func55 (by kernel_rfl) (by kernel_rfl) args w
@[simp] theorem Tryx.call56(args:Array Value)(w:World):(callFunc 56 args).run Tryx.prog w=.ok (.enter 56 args) w:=call_of Tryx.func56 (by kernel_rfl) (by kernel_rfl) args w
@[simp] theorem Tryx.call57(args:Array Value)(w:World):(callFunc 57 args).run Tryx.prog w=.ok (.enter 57 args) w:=call_of Tryx.func57 (by kernel_rfl) (by kernel_rfl) args w
@[simp] theorem Tryx.call58(args:Array Value)(w:World):(callFunc 58 args).run Tryx.prog w=.ok (.enter 58 args) w:=call_of Tryx.func58 (by kernel_rfl) (by kernel_rfl) args w
@[simp] theorem Tryx.call59(args:Array Value)(w:World):(callFunc 59 args).run Tryx.prog w=.ok (.enter 59 args) w:=call_of Tryx.func59 (by kernel_rfl) (by kernel_rfl) args w
@[simp] theorem Tryx.call60(args:Array Value)(w:World):(callFunc 60 args).run Tryx.prog w=.ok (.enter 60 args) w:=call_of Tryx.func60 (by kernel_rfl) (by kernel_rfl) args w
@[simp] theorem Tryx.call61(args:Array Value)(w:World):(callFunc 61 args).run Tryx.prog w=.ok (.enter 61 args) w:=call_of Tryx.func61 (by kernel_rfl) (by kernel_rfl) args w
@[simp] theorem Tryx.call62(args:Array Value)(w:World):(callFunc 62 args).run Tryx.prog w=.ok (.enter 62 args) w:=call_of Tryx.func62 (by kernel_rfl) (by kernel_rfl) args w
@[simp] theorem Tryx.call63(args:Array Value)(w:World):(callFunc 63 args).run Tryx.prog w=.ok (.enter 63 args) w:=call_of Tryx.func63 (by kernel_rfl) (by kernel_rfl) args w
@[simp] theorem Tryx.call64(args:Array Value)(w:World):(callFunc 64 args).run Tryx.prog w=.ok (.enter 64 args) w:=call_of Tryx.func64 (by kernel_rfl) (by kernel_rfl) args w
@[simp] theorem Tryx.call65(args:Array Value)(w:World):(callFunc 65 args).run Tryx.prog w=.ok (.enter 65 args) w:=call_of Tryx.func65 (by kernel_rfl) (by kernel_rfl) args w
@[simp] theorem Tryx.call66(args:Array Value)(w:World):(callFunc 66 args).run Tryx.prog w=.ok (.enter 66 args) w:=call_of Tryx.func66 (by kernel_rfl) (by kernel_rfl) args w
@[simp] theorem Tryx.call67(args:Array Value)(w:World):(callFunc 67 args).run Tryx.prog w=.ok (.enter 67 args) w:=call_of Tryx.func67 (by kernel_rfl) (by kernel_rfl) args w
@[simp] theorem Tryx.call68(args:Array Value)(w:World):(callFunc 68 args).run Tryx.prog w=.ok (.enter 68 args) w:=call_of Tryx.func68 (by kernel_rfl) (by kernel_rfl) args w
@[simp] theorem Tryx.call69(args:Array Value)(w:World):(callFunc 69 args).run Tryx.prog w=.ok (.enter 69 args) w:=call_of Tryx.func69 (by kernel_rfl) (by kernel_rfl) args w
@[simp] theorem Tryx.call70(args:Array Value)(w:World):(callFunc 70 args).run Tryx.prog w=.ok (.enter 70 args) w:=call_of Tryx.func70 (by kernel_rfl) (by kernel_rfl) args w
@[simp] theorem Tryx.call71(args:Array Value)(w:World):(callFunc 71 args).run Tryx.prog w=.ok (.enter 71 args) w:=call_of Tryx.func71 (by kernel_rfl) (by kernel_rfl) args w
@[simp] theorem Tryx.call72(args:Array Value)(w:World):(callFunc 72 args).run Tryx.prog w=.ok (.enter 72 args) w:=call_of Tryx.func72 (by kernel_rfl) (by kernel_rfl) args w
@[simp] theorem Tryx.call73(args:Array Value)(w:World):(callFunc 73 args).run Tryx.prog w=.ok (.enter 73 args) w:=call_of Tryx.func73 (by kernel_rfl) (by kernel_rfl) args w
@[simp] theorem Tryx.call74(args:Array Value)(w:World):(callFunc 74 args).run Tryx.prog w=.ok (.enter 74 args) w:=call_of Tryx.func74 (by kernel_rfl) (by kernel_rfl) args w
@[simp] theorem Tryx.call76(args:Array Value)(w:World):(callFunc 76 args).run Tryx.prog w=.ok (.enter 76 args) w:=call_of Tryx.func76 (by kernel_rfl) (by kernel_rfl) args w
@[simp] theorem Tryx.call77(args:Array Value)(w:World):(callFunc 77 args).run Tryx.prog w=.ok (.enter 77 args) w:=call_of Tryx.func77 (by kernel_rfl) (by kernel_rfl) args w
@[simp] theorem Tryx.call78(args:Array Value)(w:World):(callFunc 78 args).run Tryx.prog w=.ok (.enter 78 args) w:=call_of Tryx.func78 (by kernel_rfl) (by kernel_rfl) args w
@[simp] theorem Tryx.call79(args:Array Value)(w:World):(callFunc 79 args).run Tryx.prog w=.ok (.enter 79 args) w:=call_of Tryx.func79 (by kernel_rfl) (by kernel_rfl) args w
@[simp] theorem Tryx.call80(args:Array Value)(w:World):(callFunc 80 args).run Tryx.prog w=.ok (.enter 80 args) w:=call_of Tryx.func80 (by kernel_rfl) (by kernel_rfl) args w
@[simp] theorem Tryx.call81(args:Array Value)(w:World):(callFunc 81 args).run Tryx.prog w=.ok (.enter 81 args) w:=call_of Tryx.func81 (by kernel_rfl) (by kernel_rfl) args w
@[simp] theorem Tryx.call82(args:Array Value)(w:World):(callFunc 82 args).run Tryx.prog w=.ok (.enter 82 args) w:=call_of Tryx.func82 (by kernel_rfl) (by kernel_rfl) args w
@[simp] theorem Tryx.call83(args:Array Value)(w:World):(callFunc 83 args).run Tryx.prog w=.ok (.enter 83 args) w:=call_of Tryx.func83 (by kernel_rfl) (by kernel_rfl) args w
@[simp] theorem Tryx.call84(args:Array Value)(w:World):(callFunc 84 args).run Tryx.prog w=.ok (.enter 84 args) w:=call_of Tryx.func84 (by kernel_rfl) (by kernel_rfl) args w
@[simp] theorem Tryx.call85(args:Array Value)(w:World):(callFunc 85 args).run Tryx.prog w=.ok (.enter 85 args) w:=call_of Tryx.func85 (by kernel_rfl) (by kernel_rfl) args w
@[simp] theorem Tryx.call86(args:Array Value)(w:World):(callFunc 86 args).run Tryx.prog w=.ok (.enter 86 args) w:=call_of Tryx.func86 (by kernel_rfl) (by kernel_rfl) args w
@[simp] theorem Tryx.call87(args:Array Value)(w:World):(callFunc 87 args).run Tryx.prog w=.ok (.enter 87 args) w:=call_of Tryx.func87 (by kernel_rfl) (by kernel_rfl) args w
@[simp] theorem Tryx.call88(args:Array Value)(w:World):(callFunc 88 args).run Tryx.prog w=.ok (.enter 88 args) w:=call_of Tryx.func88 (by kernel_rfl) (by kernel_rfl) args w
@[simp] theorem Tryx.call89(args:Array Value)(w:World):(callFunc 89 args).run Tryx.prog w=.ok (.enter 89 args) w:=call_of Tryx.func89 (by kernel_rfl) (by kernel_rfl) args w
@[simp] theorem Tryx.call90(args:Array Value)(w:World):(callFunc 90 args).run Tryx.prog w=.ok (.enter 90 args) w:=call_of Tryx.func90 (by kernel_rfl) (by kernel_rfl) args w
@[simp] theorem Tryx.call91(args:Array Value)(w:World):(callFunc 91 args).run Tryx.prog w=.ok (.enter 91 args) w:=call_of Tryx.func91 (by kernel_rfl) (by kernel_rfl) args w
@[simp] theorem Tryx.call92(args:Array Value)(w:World):(callFunc 92 args).run Tryx.prog w=.ok (.enter 92 args) w:=call_of Tryx.func92 (by kernel_rfl) (by kernel_rfl) args w
@[simp] theorem Tryx.call93(args:Array Value)(w:World):(callFunc 93 args).run Tryx.prog w=.ok (.enter 93 args) w:=call_of Tryx.func93 (by kernel_rfl) (by kernel_rfl) args w
@[simp] theorem Tryx.call94(args:Array Value)(w:World):(callFunc 94 args).run Tryx.prog w=.ok (.enter 94 args) w:=call_of Tryx.func94 (by kernel_rfl) (by kernel_rfl) args w
@[simp] theorem Tryx.call95(args:Array Value)(w:World):(callFunc 95 args).run Tryx.prog w=.ok (.enter 95 args) w:=call_of Tryx.func95 (by kernel_rfl) (by kernel_rfl) args w
@[simp] theorem Tryx.call96(args:Array Value)(w:World):(callFunc 96 args).run Tryx.prog w=.ok (.enter 96 args) w:=call_of Tryx.func96 (by kernel_rfl) (by kernel_rfl) args w
@[simp] theorem Tryx.call97(args:Array Value)(w:World):(callFunc 97 args).run Tryx.prog w=.ok (.enter 97 args) w:=call_of Tryx.func97 (by kernel_rfl) (by kernel_rfl) args w
@[simp] theorem Tryx.call98(args:Array Value)(w:World):(callFunc 98 args).run Tryx.prog w=.ok (.enter 98 args) w:=call_of Tryx.func98 (by kernel_rfl) (by kernel_rfl) args w
@[simp] theorem Tryx.call100(args:Array Value)(w:World):(callFunc 100 args).run Tryx.prog w=.ok (.enter 100 args) w:=call_of Tryx.func100 (by kernel_rfl) (by kernel_rfl) args w
@[simp] theorem Tryx.call101(args:Array Value)(w:World):(callFunc 101 args).run Tryx.prog w=.ok (.enter 101 args) w:=call_of Tryx.func101 (by kernel_rfl) (by kernel_rfl) args w
@[simp] theorem Tryx.call102(args:Array Value)(w:World):(callFunc 102 args).run Tryx.prog w=.ok (.enter 102 args) w:=call_of Tryx.func102 (by kernel_rfl) (by kernel_rfl) args w
@[simp] theorem Tryx.call103(args:Array Value)(w:World):(callFunc 103 args).run Tryx.prog w=.ok (.enter 103 args) w:=call_of Tryx.func103 (by kernel_rfl) (by kernel_rfl) args w
@[simp] theorem Tryx.call105(args:Array Value)(w:World):(callFunc 105 args).run Tryx.prog w=.ok (.enter 105 args) w:=call_of Tryx.func105 (by kernel_rfl) (by kernel_rfl) args w
@[simp] theorem Tryx.call106(args:Array Value)(w:World):(callFunc 106 args).run Tryx.prog w=.ok (.enter 106 args) w:=call_of Tryx.func106 (by kernel_rfl) (by kernel_rfl) args w
@[simp] theorem Tryx.call108(args:Array Value)(w:World):(callFunc 108 args).run Tryx.prog w=.ok (.enter 108 args) w:=call_of Tryx.func108 (by kernel_rfl) (by kernel_rfl) args w
@[simp] theorem Tryx.call109(args:Array Value)(w:World):(callFunc 109 args).run Tryx.prog w=.ok (.enter 109 args) w:=call_of Tryx.func109 (by kernel_rfl) (by kernel_rfl) args w
@[simp] theorem Tryx.call110(args:Array Value)(w:World):(callFunc 110 args).run Tryx.prog w=.ok (.enter 110 args) w:=call_of Tryx.func110 (by kernel_rfl) (by kernel_rfl) args w
@[simp] theorem Tryx.call111(args:Array Value)(w:World):(callFunc 111 args).run Tryx.prog w=.ok (.enter 111 args) w:=call_of Tryx.func111 (by kernel_rfl) (by kernel_rfl) args w
@[simp] theorem Tryx.call112(args:Array Value)(w:World):(callFunc 112 args).run Tryx.prog w=.ok (.enter 112 args) w:=call_of Tryx.func112 (by kernel_rfl) (by kernel_rfl) args w
@[simp] theorem Tryx.call113(args:Array Value)(w:World):(callFunc 113 args).run Tryx.prog w=.ok (.enter 113 args) w:=call_of Tryx.func113 (by kernel_rfl) (by kernel_rfl) args w
@[simp] theorem Tryx.call117(args:Array Value)(w:World):(callFunc 117 args).run Tryx.prog w=.ok (.enter 117 args) w:=call_of Tryx.func117 (by kernel_rfl) (by kernel_rfl) args w
@[simp] theorem Tryx.call118(args:Array Value)(w:World):(callFunc 118 args).run Tryx.prog w=.ok (.enter 118 args) w:=call_of Tryx.func118 (by kernel_rfl) (by kernel_rfl) args w
@[simp] theorem Tryx.call119(args:Array Value)(w:World):(callFunc 119 args).run Tryx.prog w=.ok (.enter 119 args) w:=call_of Tryx.func119 (by kernel_rfl) (by kernel_rfl) args w
@[simp] theorem Tryx.call121(args:Array Value)(w:World):(callFunc 121 args).run Tryx.prog w=.ok (.enter 121 args) w:=call_of Tryx.func121 (by kernel_rfl) (by kernel_rfl) args w
@[simp] theorem Tryx.call124(args:Array Value)(w:World):(callFunc 124 args).run Tryx.prog w=.ok (.enter 124 args) w:=call_of Tryx.func124 (by kernel_rfl) (by kernel_rfl) args w
@[simp] theorem Tryx.call125(args:Array Value)(w:World):(callFunc 125 args).run Tryx.prog w=.ok (.enter 125 args) w:=call_of Tryx.func125 (by kernel_rfl) (by kernel_rfl) args w
@[simp] theorem Tryx.call126(args:Array Value)(w:World):(callFunc 126 args).run Tryx.prog w=.ok (.enter 126 args) w:=call_of Tryx.func126 (by kernel_rfl) (by kernel_rfl) args w
@[simp] theorem Tryx.call129(args:Array Value)(w:World):(callFunc 129 args).run Tryx.prog w=.ok (.enter 129 args) w:=call_of Tryx.func129 (by kernel_rfl) (by kernel_rfl) args w
@[simp] theorem Tryx.call142(args:Array Value)(w:World):(callFunc 142 args).run Tryx.prog w=.ok (.enter 142 args) w:=call_of Tryx.func142 (by kernel_rfl) (by kernel_rfl) args w
@[simp] theorem Tryx.call181(args:Array Value)(w:World):(callFunc 181 args).run Tryx.prog w=.ok (.enter 181 args) w:=call_of Tryx.func181 (by kernel_rfl) (by kernel_rfl) args w
theorem Tryx.underlying0:type_of% ((Tryx.und 0).trans Tryz.underlying0):=(Tryx.und 0).trans Tryz.underlying0
theorem Tryx.underlying3:type_of% ((Tryx.und 3).trans Tryz.underlying3):=(Tryx.und 3).trans Tryz.underlying3
theorem Tryx.underlying4:type_of% ((Tryx.und 4).trans Tryz.underlying4):=(Tryx.und 4).trans Tryz.underlying4
theorem Tryx.underlying5:type_of% ((Tryx.und 5).trans Tryz.underlying5):=(Tryx.und 5).trans Tryz.underlying5
theorem Tryx.underlying9:type_of% ((Tryx.und 9).trans Tryz.underlying9):=(Tryx.und 9).trans Tryz.underlying9
theorem Tryx.underlying24:type_of% ((Tryx.und 24).trans Tryz.underlying24):=(Tryx.und 24).trans Tryz.underlying24
theorem Tryx.underlying37:type_of% ((Tryx.und 37).trans Tryz.underlying37):=(Tryx.und 37).trans Tryz.underlying37
theorem Tryx.underlying39:type_of% ((Tryx.und 39).trans Tryz.underlying39):=(Tryx.und 39).trans Tryz.underlying39
theorem Tryx.underlying41:type_of% ((Tryx.und 41).trans Tryz.underlying41):=(Tryx.und 41).trans Tryz.underlying41
theorem Tryx.underlying55:type_of% ((Tryx.und 55).trans Tryz.underlying55):=(Tryx.und 55).trans Tryz.underlying55
theorem Tryx.underlying59:type_of% ((Tryx.und 59).trans Tryz.underlying59):=(Tryx.und 59).trans Tryz.underlying59
theorem Tryx.underlying67:type_of% ((Tryx.und 67).trans Tryz.underlying67):=(Tryx.und 67).trans Tryz.underlying67
theorem Tryx.underlying68:type_of% ((Tryx.und 68).trans Tryz.underlying68):=(Tryx.und 68).trans Tryz.underlying68
theorem Tryx.underlying69:type_of% ((Tryx.und 69).trans Tryz.underlying69):=(Tryx.und 69).trans Tryz.underlying69
theorem Tryx.underlying87:type_of% ((Tryx.und 87).trans Tryz.underlying87):=(Tryx.und 87).trans Tryz.underlying87
theorem Tryx.underlying90:type_of% ((Tryx.und 90).trans Tryz.underlying90):=(Tryx.und 90).trans Tryz.underlying90
theorem Tryx.underlying103:type_of% ((Tryx.und 103).trans Tryz.underlying103):=(Tryx.und 103).trans Tryz.underlying103
theorem Tryx.underlying104:type_of% ((Tryx.und 104).trans Tryz.underlying104):=(Tryx.und 104).trans Tryz.underlying104
theorem Tryx.underlying107:type_of% ((Tryx.und 107).trans Tryz.underlying107):=(Tryx.und 107).trans Tryz.underlying107
theorem Tryx.underlying108:type_of% ((Tryx.und 108).trans Tryz.underlying108):=(Tryx.und 108).trans Tryz.underlying108
theorem Tryx.underlying117:type_of% ((Tryx.und 117).trans Tryz.underlying117):=(Tryx.und 117).trans Tryz.underlying117
theorem Tryx.underlying146:type_of% ((Tryx.und 146).trans Tryz.underlying146):=(Tryx.und 146).trans Tryz.underlying146
theorem Tryx.underlying172:type_of% ((Tryx.und 172).trans Tryz.underlying172):=(Tryx.und 172).trans Tryz.underlying172
theorem Tryx.underlying174:type_of% ((Tryx.und 174).trans Tryz.underlying174):=(Tryx.und 174).trans Tryz.underlying174
theorem Tryx.underlying177:type_of% ((Tryx.und 177).trans Tryz.underlying177):=(Tryx.und 177).trans Tryz.underlying177
theorem Tryx.underlying188:type_of% ((Tryx.und 188).trans Tryz.underlying188):=(Tryx.und 188).trans Tryz.underlying188
theorem Tryx.underlying207:type_of% ((Tryx.und 207).trans Tryz.underlying207):=(Tryx.und 207).trans Tryz.underlying207
theorem Tryx.underlying210:type_of% ((Tryx.und 210).trans Tryz.underlying210):=(Tryx.und 210).trans Tryz.underlying210
theorem Tryx.underlying212:type_of% ((Tryx.und 212).trans Tryz.underlying212):=(Tryx.und 212).trans Tryz.underlying212
theorem Tryx.underlying220:type_of% ((Tryx.und 220).trans Tryz.underlying220):=(Tryx.und 220).trans Tryz.underlying220
theorem Tryx.underlying224:type_of% ((Tryx.und 224).trans Tryz.underlying224):=(Tryx.und 224).trans Tryz.underlying224
theorem Tryx.underlying230:type_of% ((Tryx.und 230).trans Tryz.underlying230):=(Tryx.und 230).trans Tryz.underlying230
theorem Tryx.underlying231:type_of% ((Tryx.und 231).trans Tryz.underlying231):=(Tryx.und 231).trans Tryz.underlying231
theorem Tryx.underlying236:type_of% ((Tryx.und 236).trans Tryz.underlying236):=(Tryx.und 236).trans Tryz.underlying236
theorem Tryx.underlying239:type_of% ((Tryx.und 239).trans Tryz.underlying239):=(Tryx.und 239).trans Tryz.underlying239
theorem Tryx.underlying241:type_of% ((Tryx.und 241).trans Tryz.underlying241):=(Tryx.und 241).trans Tryz.underlying241
theorem Tryx.underlying247:type_of% ((Tryx.und 247).trans Tryz.underlying247):=(Tryx.und 247).trans Tryz.underlying247
theorem Tryx.underlying251:type_of% ((Tryx.und 251).trans Tryz.underlying251):=(Tryx.und 251).trans Tryz.underlying251
theorem Tryx.underlying255:type_of% ((Tryx.und 255).trans Tryz.underlying255):=(Tryx.und 255).trans Tryz.underlying255
theorem Tryx.underlying256:type_of% ((Tryx.und 256).trans Tryz.underlying256):=(Tryx.und 256).trans Tryz.underlying256
theorem Tryx.isAgg0(w:World):type_of% ((Tryx.isAgg_ 0 w).trans (Tryz.isAgg0 w)):=(Tryx.isAgg_ 0 w).trans (Tryz.isAgg0 w)
theorem Tryx.sizeOf0(w:World):type_of% ((Tryx.sizeOf_ 0 w).trans (Tryz.sizeOf0 w)):=(Tryx.sizeOf_ 0 w).trans (Tryz.sizeOf0 w)
theorem Tryx.zeroValue0(w:World):type_of% ((Tryx.zeroValue_ 0 w).trans (Tryz.zeroValue0 w)):=(Tryx.zeroValue_ 0 w).trans (Tryz.zeroValue0 w)
theorem Tryx.isAgg3(w:World):type_of% ((Tryx.isAgg_ 3 w).trans (Tryz.isAgg3 w)):=(Tryx.isAgg_ 3 w).trans (Tryz.isAgg3 w)
theorem Tryx.sizeOf3(w:World):type_of% ((Tryx.sizeOf_ 3 w).trans (Tryz.sizeOf3 w)):=(Tryx.sizeOf_ 3 w).trans (Tryz.sizeOf3 w)
theorem Tryx.zeroValue3(w:World):type_of% ((Tryx.zeroValue_ 3 w).trans (Tryz.zeroValue3 w)):=(Tryx.zeroValue_ 3 w).trans (Tryz.zeroValue3 w)
theorem Tryx.isAgg4(w:World):type_of% ((Tryx.isAgg_ 4 w).trans (Tryz.isAgg4 w)):=(Tryx.isAgg_ 4 w).trans (Tryz.isAgg4 w)
theorem Tryx.sizeOf4(w:World):type_of% ((Tryx.sizeOf_ 4 w).trans (Tryz.sizeOf4 w)):=(Tryx.sizeOf_ 4 w).trans (Tryz.sizeOf4 w)
theorem Tryx.zeroValue4(w:World):type_of% ((Tryx.zeroValue_ 4 w).trans (Tryz.zeroValue4 w)):=(Tryx.zeroValue_ 4 w).trans (Tryz.zeroValue4 w)
theorem Tryx.isAgg5(w:World):type_of% ((Tryx.isAgg_ 5 w).trans (Tryz.isAgg5 w)):=(Tryx.isAgg_ 5 w).trans (Tryz.isAgg5 w)
theorem Tryx.sizeOf5(w:World):type_of% ((Tryx.sizeOf_ 5 w).trans (Tryz.sizeOf5 w)):=(Tryx.sizeOf_ 5 w).trans (Tryz.sizeOf5 w)
theorem Tryx.zeroValue5(w:World):type_of% ((Tryx.zeroValue_ 5 w).trans (Tryz.zeroValue5 w)):=(Tryx.zeroValue_ 5 w).trans (Tryz.zeroValue5 w)
theorem Tryx.isAgg9(w:World):type_of% ((Tryx.isAgg_ 9 w).trans (Tryz.isAgg9 w)):=(Tryx.isAgg_ 9 w).trans (Tryz.isAgg9 w)
theorem Tryx.sizeOf9(w:World):type_of% ((Tryx.sizeOf_ 9 w).trans (Tryz.sizeOf9 w)):=(Tryx.sizeOf_ 9 w).trans (Tryz.sizeOf9 w)
theorem Tryx.zeroValue9(w:World):type_of% ((Tryx.zeroValue_ 9 w).trans (Tryz.zeroValue9 w)):=(Tryx.zeroValue_ 9 w).trans (Tryz.zeroValue9 w)
theorem Tryx.isAgg24(w:World):type_of% ((Tryx.isAgg_ 24 w).trans (Tryz.isAgg24 w)):=(Tryx.isAgg_ 24 w).trans (Tryz.isAgg24 w)
theorem Tryx.sizeOf24(w:World):type_of% ((Tryx.sizeOf_ 24 w).trans (Tryz.sizeOf24 w)):=(Tryx.sizeOf_ 24 w).trans (Tryz.sizeOf24 w)
theorem Tryx.zeroValue24(w:World):type_of% ((Tryx.zeroValue_ 24 w).trans (Tryz.zeroValue24 w)):=(Tryx.zeroValue_ 24 w).trans (Tryz.zeroValue24 w)
theorem Tryx.zeroValue48(w:World):type_of% ((Tryx.zeroValue_ 48 w).trans (Tryz.zeroValue48 w)):=(Tryx.zeroValue_ 48 w).trans (Tryz.zeroValue48 w)
theorem Tryx.isAgg90(w:World):type_of% ((Tryx.isAgg_ 90 w).trans (Tryz.isAgg90 w)):=(Tryx.isAgg_ 90 w).trans (Tryz.isAgg90 w)
theorem Tryx.sizeOf90(w:World):type_of% ((Tryx.sizeOf_ 90 w).trans (Tryz.sizeOf90 w)):=(Tryx.sizeOf_ 90 w).trans (Tryz.sizeOf90 w)
theorem Tryx.zeroValue90(w:World):type_of% ((Tryx.zeroValue_ 90 w).trans (Tryz.zeroValue90 w)):=(Tryx.zeroValue_ 90 w).trans (Tryz.zeroValue90 w)
theorem Tryx.isAgg97(w:World):type_of% ((Tryx.isAgg_ 97 w).trans (Tryz.isAgg97 w)):=(Tryx.isAgg_ 97 w).trans (Tryz.isAgg97 w)
theorem Tryx.sizeOf97(w:World):type_of% ((Tryx.sizeOf_ 97 w).trans (Tryz.sizeOf97 w)):=(Tryx.sizeOf_ 97 w).trans (Tryz.sizeOf97 w)
theorem Tryx.isAgg188(w:World):type_of% ((Tryx.isAgg_ 188 w).trans (Tryz.isAgg188 w)):=(Tryx.isAgg_ 188 w).trans (Tryz.isAgg188 w)
theorem Tryx.sizeOf188(w:World):type_of% ((Tryx.sizeOf_ 188 w).trans (Tryz.sizeOf188 w)):=(Tryx.sizeOf_ 188 w).trans (Tryz.sizeOf188 w)
theorem Tryx.zeroValue188(w:World):type_of% ((Tryx.zeroValue_ 188 w).trans (Tryz.zeroValue188 w)):=(Tryx.zeroValue_ 188 w).trans (Tryz.zeroValue188 w)
theorem Tryx.isAgg220(w:World):type_of% ((Tryx.isAgg_ 220 w).trans (Tryz.isAgg220 w)):=(Tryx.isAgg_ 220 w).trans (Tryz.isAgg220 w)
theorem Tryx.sizeOf220(w:World):type_of% ((Tryx.sizeOf_ 220 w).trans (Tryz.sizeOf220 w)):=(Tryx.sizeOf_ 220 w).trans (Tryz.sizeOf220 w)
theorem Tryx.zeroValue220(w:World):type_of% ((Tryx.zeroValue_ 220 w).trans (Tryz.zeroValue220 w)):=(Tryx.zeroValue_ 220 w).trans (Tryz.zeroValue220 w)
theorem Tryx.isAgg230(w:World):type_of% ((Tryx.isAgg_ 230 w).trans (Tryz.isAgg230 w)):=(Tryx.isAgg_ 230 w).trans (Tryz.isAgg230 w)
theorem Tryx.sizeOf230(w:World):type_of% ((Tryx.sizeOf_ 230 w).trans (Tryz.sizeOf230 w)):=(Tryx.sizeOf_ 230 w).trans (Tryz.sizeOf230 w)
theorem Tryx.zeroValue230(w:World):type_of% ((Tryx.zeroValue_ 230 w).trans (Tryz.zeroValue230 w)):=(Tryx.zeroValue_ 230 w).trans (Tryz.zeroValue230 w)
theorem Tryx.isAgg231(w:World):type_of% ((Tryx.isAgg_ 231 w).trans (Tryz.isAgg231 w)):=(Tryx.isAgg_ 231 w).trans (Tryz.isAgg231 w)
theorem Tryx.sizeOf231(w:World):type_of% ((Tryx.sizeOf_ 231 w).trans (Tryz.sizeOf231 w)):=(Tryx.sizeOf_ 231 w).trans (Tryz.sizeOf231 w)
theorem Tryx.zeroValue231(w:World):type_of% ((Tryx.zeroValue_ 231 w).trans (Tryz.zeroValue231 w)):=(Tryx.zeroValue_ 231 w).trans (Tryz.zeroValue231 w)
theorem Tryx.isAgg236(w:World):type_of% ((Tryx.isAgg_ 236 w).trans (Tryz.isAgg236 w)):=(Tryx.isAgg_ 236 w).trans (Tryz.isAgg236 w)
theorem Tryx.sizeOf236(w:World):type_of% ((Tryx.sizeOf_ 236 w).trans (Tryz.sizeOf236 w)):=(Tryx.sizeOf_ 236 w).trans (Tryz.sizeOf236 w)
theorem Tryx.zeroValue236(w:World):type_of% ((Tryx.zeroValue_ 236 w).trans (Tryz.zeroValue236 w)):=(Tryx.zeroValue_ 236 w).trans (Tryz.zeroValue236 w)
theorem Tryx.isAgg239(w:World):type_of% ((Tryx.isAgg_ 239 w).trans (Tryz.isAgg239 w)):=(Tryx.isAgg_ 239 w).trans (Tryz.isAgg239 w)
theorem Tryx.sizeOf239(w:World):type_of% ((Tryx.sizeOf_ 239 w).trans (Tryz.sizeOf239 w)):=(Tryx.sizeOf_ 239 w).trans (Tryz.sizeOf239 w)
theorem Tryx.zeroValue239(w:World):type_of% ((Tryx.zeroValue_ 239 w).trans (Tryz.zeroValue239 w)):=(Tryx.zeroValue_ 239 w).trans (Tryz.zeroValue239 w)
theorem Tryx.isAgg241(w:World):type_of% ((Tryx.isAgg_ 241 w).trans (Tryz.isAgg241 w)):=(Tryx.isAgg_ 241 w).trans (Tryz.isAgg241 w)
theorem Tryx.sizeOf241(w:World):type_of% ((Tryx.sizeOf_ 241 w).trans (Tryz.sizeOf241 w)):=(Tryx.sizeOf_ 241 w).trans (Tryz.sizeOf241 w)
theorem Tryx.zeroValue241(w:World):type_of% ((Tryx.zeroValue_ 241 w).trans (Tryz.zeroValue241 w)):=(Tryx.zeroValue_ 241 w).trans (Tryz.zeroValue241 w)
theorem Tryx.isAgg247(w:World):type_of% ((Tryx.isAgg_ 247 w).trans (Tryz.isAgg247 w)):=(Tryx.isAgg_ 247 w).trans (Tryz.isAgg247 w)
theorem Tryx.sizeOf247(w:World):type_of% ((Tryx.sizeOf_ 247 w).trans (Tryz.sizeOf247 w)):=(Tryx.sizeOf_ 247 w).trans (Tryz.sizeOf247 w)
theorem Tryx.zeroValue247(w:World):type_of% ((Tryx.zeroValue_ 247 w).trans (Tryz.zeroValue247 w)):=(Tryx.zeroValue_ 247 w).trans (Tryz.zeroValue247 w)
theorem Tryx.isAgg251(w:World):type_of% ((Tryx.isAgg_ 251 w).trans (Tryz.isAgg251 w)):=(Tryx.isAgg_ 251 w).trans (Tryz.isAgg251 w)
theorem Tryx.sizeOf251(w:World):type_of% ((Tryx.sizeOf_ 251 w).trans (Tryz.sizeOf251 w)):=(Tryx.sizeOf_ 251 w).trans (Tryz.sizeOf251 w)
theorem Tryx.zeroValue251(w:World):type_of% ((Tryx.zeroValue_ 251 w).trans (Tryz.zeroValue251 w)):=(Tryx.zeroValue_ 251 w).trans (Tryz.zeroValue251 w)
theorem Tryx.isAgg255(w:World):type_of% ((Tryx.isAgg_ 255 w).trans (Tryz.isAgg255 w)):=(Tryx.isAgg_ 255 w).trans (Tryz.isAgg255 w)
theorem Tryx.sizeOf255(w:World):type_of% ((Tryx.sizeOf_ 255 w).trans (Tryz.sizeOf255 w)):=(Tryx.sizeOf_ 255 w).trans (Tryz.sizeOf255 w)
theorem Tryx.zeroValue255(w:World):type_of% ((Tryx.zeroValue_ 255 w).trans (Tryz.zeroValue255 w)):=(Tryx.zeroValue_ 255 w).trans (Tryz.zeroValue255 w)
theorem Tryx.isAgg256(w:World):type_of% ((Tryx.isAgg_ 256 w).trans (Tryz.isAgg256 w)):=(Tryx.isAgg_ 256 w).trans (Tryz.isAgg256 w)
theorem Tryx.sizeOf256(w:World):type_of% ((Tryx.sizeOf_ 256 w).trans (Tryz.sizeOf256 w)):=(Tryx.sizeOf_ 256 w).trans (Tryz.sizeOf256 w)
theorem Tryx.zeroValue256(w:World):type_of% ((Tryx.zeroValue_ 256 w).trans (Tryz.zeroValue256 w)):=(Tryx.zeroValue_ 256 w).trans (Tryz.zeroValue256 w)
end
end Go.Proofs
namespace Go.Proofs.YticobikhndlejaaGreatDoor
section
open Go.RowKit
structure Chg(S:Nat->Prop)(w w':World):Prop where
 os:w'.os=w.os
 tape:w'.tape=w.tape
 output:w'.output=w.output
 size:w.heap.size<=w'.heap.size
 block:∀ k,k<w.heap.size->¬S k->w'.heap[k]?=w.heap[k]?
theorem Chg.refl(S:Nat->Prop)(w:World):Chg S w w:=⟨rfl,rfl,rfl,Nat.le_refl _,fun _ _ _=>rfl⟩
theorem Chg.mono{S S':Nat->Prop}{w w':World}(h:Chg S w w')(hs:∀ k,k<w.heap.size->S k->S' k):Chg S' w w':=
 ⟨h.os,h.tape,h.output,h.size,fun k hk hn=>h.block k hk (fun hS=>hn (hs k hk hS))⟩
theorem Chg.trans{S:Nat->Prop}{a b c:World}(h:Chg S a b)(k:Chg (fun i=>S i\/a.heap.size<=i) b c):Chg S a c:=
 ⟨k.os.trans h.os,k.tape.trans h.tape,k.output.trans h.output,Nat.le_trans h.size k.size,fun i hi hn=>
   (k.block i (Nat.lt_of_lt_of_le hi h.size) (fun hh=>hh.elim hn (fun hle=>by omega))).trans (h.block i hi hn)⟩
theorem Chg.then{S:Nat->Prop}{a b c:World}(h:Chg S a b)(k:Chg S b c):Chg S a c:=h.trans (k.mono fun _ _ hs=>.inl hs)
theorem Chg.alloc{S:Nat->Prop}{a w:World}(h:Chg S a w)(o:Obj):Chg S a (w.alloc o):=
 h.then ⟨rfl,rfl,rfl,by simp,fun k hk _=>Below.heap_alloc _ _ _ hk⟩
theorem Chg.drew{S:Nat->Prop}{a w:World}(h:Chg S a w):Chg S a w.drew:=⟨h.os,h.tape,h.output,h.size,h.block⟩
theorem Chg.setCell{S:Nat->Prop}{a w:World}(h:Chg S a w){p:Addr}(hp:S p.block\/a.heap.size<=p.block)(u:Value):Chg S a (w.setCell p u):=
 h.trans ⟨rfl,rfl,rfl,by simp[World.setCell],fun k hk hn=>Below.heap_setCell _ _ _ _ (fun e=>hn (e ▸ hp))⟩
theorem Chg.of_below{S:Nat->Prop}{a w w':World}(h:Chg S a w)(k:Below w.heap.size w w'):Chg S a w':=
 h.then ⟨k.os,k.tape,k.output,k.size,fun i hi _=>k.block i hi⟩
theorem Chg.below{w w':World}(h:Chg (fun _=>False) w w'):Below w.heap.size w w':=⟨h.os,h.tape,h.output,h.size,fun k hk=>h.block k hk (fun hf=>hf)⟩
theorem chgB{w w':World}(h:Below w.heap.size w w')(S:Nat->Prop):Chg S w w':=(Chg.refl S w).of_below h
theorem Chg.grown{S:Nat->Prop}{a w w':World}{row:Option Nat}(h:Chg S a w)(hg:w.grownBy w' row)(hr:∀ k,row=some k->S k\/a.heap.size<=k):Chg S a w':=
 h.trans ⟨hg.os,hg.tape,hg.output,hg.size,fun k hk hn=>hg.block k hk (fun e=>hn (hr k e.symm))⟩
theorem Chg.cell{S:Nat->Prop}{w w':World}(h:Chg S w w'){p:Addr}(hp:p.block<w.heap.size)(hn:¬S p.block):w'.cell? p=w.cell? p:=World.cell?_of_block (w:=w) (h.block p.block hp hn)
theorem cell_new{w:World}{c:Array Value}{t:TypeId}{n i:Nat}(h:n=w.heap.size):(w.alloc (.cells c t)).cell? ⟨n,i,none⟩=c[i]?:=by
 subst h;simp
theorem free_new{w:World}{c:Array Value}{t:TypeId}{n i:Nat}(h:n=w.heap.size):(w.alloc (.cells c t)).frozen? ⟨n,i,none⟩=false:=by
 subst h;simp
theorem lt_of_cell{w:World}{a:Addr}{v:Value}(h:w.cell? a=some v):a.block<w.heap.size:=by
 rcases Nat.lt_or_ge a.block w.heap.size with h' | h'
 ·exact h'
 ·simp[World.cell?,Array.getElem?_eq_none h']at h
theorem lt_of_heap{w:World}{b:Nat}{o:Obj}(h:w.heap[b]?=some o):b<w.heap.size:=(Array.getElem?_eq_some_iff.1 h).1
theorem cell_of{w:World}{b i:Nat}{c:Array Value}{t:TypeId}{f:Nat×Nat}{v:Value}(hb:w.heap[b]?=some (.cells c t f))(h:c[i]?=some v):w.cell? ⟨b,i,none⟩=some v:=by
 simp[World.cell?,hb,h]
theorem free_of{w:World}{b i:Nat}{c:Array Value}{t:TypeId}(hb:w.heap[b]?=some (.cells c t (0,0))):w.frozen? ⟨b,i,none⟩=false:=by
 simp[World.frozen?,hb]
theorem heap_setCell{w:World}{b i:Nat}{c:Array Value}{t:TypeId}{f:Nat×Nat}(v:Value)(hb:w.heap[b]?=some (.cells c t f)):
  (w.setCell ⟨b,i,none⟩ v).heap[b]?=some (.cells (c.setIfInBounds i v) t f):=by
 simp[World.setCell,Array.getElem?_modify,hb]
theorem heap_setCell_ne{w:World}{b:Nat}{a:Addr}(v:Value)(h:b≠a.block):(w.setCell a v).heap[b]?=w.heap[b]?:=Below.heap_setCell _ _ _ _ h
end
section
structure B4 where
 (a b c d:Int)
 deriving DecidableEq
structure Req where
 num:Int
 write:Bool
 page:Int
 data:B4
 state:Int
 tries:Int
 after:Int
 alone:Bool
 inAir:Bool
 told:Bool
 deriving DecidableEq
structure Ent where
 r:Req
 p:Nat
 born:Nat
def reqCells(r:Req):Array Value:=
 #[.int .i64 r.num,.bool r.write,.int .i64 r.page,.int .u8 r.data.a,.int .u8 r.data.b,.int .u8 r.data.c,.int .u8 r.data.d,.int .i64 r.state,.int .i64 r.tries,.int .i64 r.after,.bool r.alone,.bool r.inAir,.bool r.told]
def Req.blocks(o r:Req):Bool:=decide (o.num<r.num) && ((o.page == r.page) && ((o.write || r.write) && ((o.state == 0) || o.inAir)))
def Req.cmp(r o:Req):Int:=if r.page≠o.page then r.page - o.page else r.num - o.num
def entLt(x y:Ent):Prop:=x.r.page<y.r.page\/(x.r.page=y.r.page/\x.r.num<y.r.num)
def byPage(l:List Ent):List Ent:=(List.range 16).flatMap fun p:Nat=>l.filter fun e=>e.r.page == (p:Int)
structure EntsOk(es:List Ent):Prop where
 page:∀ e∈es,0<=e.r.page/\e.r.page<16
 num:∀ e∈es,0<=e.r.num/\e.r.num<=2 ^ 60
 nums:es.Pairwise fun x y=>x.r.num<y.r.num
theorem EntsOk.nodup{es:List Ent}(h:EntsOk es):(es.map (·.r.num)).Nodup:=List.pairwise_map.2 (h.nums.imp fun hlt heq=>by omega)
theorem perm_filter_parts(l:List Ent)(q:Ent->Bool):l.Perm (l.filter q ++ l.filter (fun e=>!q e)):=(List.filter_append_perm q l).symm
theorem byPage_aux(l:List Ent):∀ n:Nat,((List.range n).flatMap fun p:Nat=>l.filter fun e=>e.r.page == (p:Int)).Perm (l.filter fun e=>decide (0<=e.r.page/\e.r.page<(n:Int)))
 | 0=>by
   have:(l.filter fun e=>decide (0<=e.r.page/\e.r.page<((0:Nat):Int)))=[]:=List.filter_eq_nil_iff.2 fun e _=>by simp
   rw[this];simp
 | n+1=>by
   rw[List.range_succ,List.flatMap_append]
   simp only[List.flatMap_cons,List.flatMap_nil,List.append_nil]
   refine ((byPage_aux l n).append_right _).trans ?_
   have h1:=perm_filter_parts (l.filter fun e=>decide (0<=e.r.page/\e.r.page<((n+1:Nat):Int))) (fun e=>decide (e.r.page<(n:Int)))
   refine List.Perm.trans ?_ h1.symm
   rw[List.filter_filter,List.filter_filter]
   refine List.Perm.of_eq ?_
   congr 1
   ·refine List.filter_congr fun e _=>?_
    rw[Bool.eq_iff_iff];simp;omega
   ·refine List.filter_congr fun e _=>?_
    rw[Bool.eq_iff_iff];simp;omega
theorem byPage_perm{es:List Ent}(h:EntsOk es):(byPage es).Perm es:=by
 refine (byPage_aux es 16).trans (List.Perm.of_eq (List.filter_eq_self.2 fun e he=>?_))
 have:=h.page e he
 simp;omega
theorem byPage_sorted{es:List Ent}(h:EntsOk es):(byPage es).Pairwise entLt:=by
 unfold byPage
 refine List.pairwise_flatMap.2 ⟨fun p _=>?_,?_⟩
 ·have h1:(es.filter fun e=>e.r.page == (p:Int)).Pairwise fun x y=>x.r.num<y.r.num:=h.nums.filter _
  refine h1.imp_of_mem fun {a b} ha hb hlt=>.inr ⟨?_,hlt⟩
  have h2:=(List.mem_filter.1 ha).2
  have h3:=(List.mem_filter.1 hb).2
  simp at h2 h3;omega
 ·refine (List.pairwise_lt_range (n:=16)).imp fun {p q} hpq x hx y hy=>.inl ?_
  have h2:=(List.mem_filter.1 hx).2
  have h3:=(List.mem_filter.1 hy).2
  simp at h2 h3;omega
theorem sorted_unique{l m:List Ent}(hp:l.Perm m)(hl:l.Pairwise entLt)(hm:m.Pairwise entLt):l=m:=
 List.Perm.eq_of_pairwise (le:=entLt) (fun a b _ _ h1 h2=>by unfold entLt at h1 h2;omega) hl hm hp
def isReady(now:Int)(es:List Ent)(e:Ent):Bool:=(e.r.state == 0) && (decide (e.r.after<=now) && !(es.any fun o=>o.r.blocks e.r))
def readyE(now:Int)(es:List Ent):List Ent:=(byPage es).filter (isReady now es)
structure Cmd where
 write:Bool
 page:Nat
 count:Nat
 nums:List Int
 deriving DecidableEq
structure St where
 depth:Nat
 rs:List Req
 last:Int
 held:Int
 cs:List Cmd
 now:Int
 head:Nat
 disk:List Int
 deriving DecidableEq
def wrapAt(head i:Nat):Nat:=if 16<=head+i then head+i - 16 else head+i
def beginE(ne:Nat->Bool)(head:Nat):Option Nat:=((List.range 16).map (wrapAt head)).find? ne
def byPageR(l:List Req):List Req:=(List.range 16).flatMap fun p:Nat=>l.filter fun r=>r.page == (p:Int)
def isReadyR(now:Int)(l:List Req)(r:Req):Bool:=(r.state == 0) && (decide (r.after<=now) && !(l.any fun o=>o.blocks r))
def readyR(now:Int)(l:List Req):List Req:=(byPageR l).filter (isReadyR now l)
def pageR(L:List Req)(k:Nat):List Req:=L.filter fun r=>r.page == (k:Int)
def isKindR(write:Bool)(r:Req):Bool:=(r.write == write) && !r.alone
def kindR(L:List Req)(write:Bool)(k:Nat):List Req:=(pageR L k).filter (isKindR write)
def runLenR(K:Nat->List Req)(at_ most:Nat):Nat:=((List.range most).takeWhile fun i=>!(K (at_+i)).isEmpty).length
def gatherR(K:Nat->List Req)(at_ n:Nat):List Req:=(List.range n).flatMap fun i=>K (at_+i)
def nextR(L:List Req)(head:Nat):Nat×Nat×List Req:=
 match beginE (fun k=>decide (0<(pageR L k).length)) head with
 | none=>(0,0,[])
 | some p=>
   match pageR L p with
   | []=>(0,0,[])
   | f :: _=>
     if f.alone then (p,1,[f])
     else (p,runLenR (kindR L f.write) p (min 4 (16 - p)),gatherR (kindR L f.write) p (runLenR (kindR L f.write) p (min 4 (16 - p))))
def newReq(n:Int)(write:Bool)(page:Int)(d:B4):Req:=⟨n,write,page,d,0,0,0,false,false,false⟩
def sentR(r:Req):Req:={r with state:=1,inAir:=true}
def tellR(r:Req):Req:={r with told:=true}
def dget(disk:List Int)(p:Int):B4:=⟨disk.getD (4*p.toNat) 0,disk.getD (4*p.toNat+1) 0,disk.getD (4*p.toNat+2) 0,disk.getD (4*p.toNat+3) 0⟩
def dput(disk:List Int)(p:Int)(d:B4):List Int:=(((disk.set (4*p.toNat) d.a).set (4*p.toNat+1) d.b).set (4*p.toNat+2) d.c).set (4*p.toNat+3) d.d
namespace St
def new(depth:Nat):St:=⟨depth,[],0,0,[],0,0,List.replicate 64 0⟩
def add(t:St)(write:Bool)(page:Int)(d:B4):St:={t with rs:=t.rs ++ [newReq (t.last+1) write page d],last:=t.last+1,held:=t.held+1}
def tick(t:St):St:={t with now:=t.now+1}
def find(t:St)(n:Int):Option Req:=t.rs.find? fun r=>r.num == n && !r.told
def tellRs(rs:List Req)(n:Int):List Req:=(rs.map fun r=>if r.num=n then tellR r else r).filter fun r=>!(r.num == n && (r.told && !r.inAir))
def tell(t:St)(n:Int):St:={t with rs:=tellRs t.rs n,held:=t.held - 1}
def giveR(r:Req):Req:={r with state:=4}
def give(t:St)(n:Int):St:={t with rs:=t.rs.map fun r=>if r.num=n then giveR r else r}
def cmd(t:St):Option Cmd:=
 if t.depth<=t.cs.length then none else
  match (nextR (readyR t.now t.rs) t.head).2.2 with
  | []=>none
  | f :: l=>some ⟨f.write,(nextR (readyR t.now t.rs) t.head).1,(nextR (readyR t.now t.rs) t.head).2.1,(f :: l).map (·.num)⟩
def sent(t:St)(c:Cmd):St:={t with rs:=t.rs.map fun r=>if r.num∈c.nums then sentR r else r,cs:=t.cs ++ [c],head:=c.page+c.count}
def landR(now:Int)(disk:List Int)(fault:Bool)(r:Req):Req:=
 let r1:Req:={r with tries:=r.tries+1,inAir:=false,data:=if !fault && !r.write then dget disk r.page else r.data}
 if r.state=1 then
  if !fault then {r1 with state:=2}
  else if 4<=r.tries+1 then {r1 with state:=3}
  else {r1 with state:=0,alone:=true,after:=now+min 8 (2 ^ r.tries.toNat)}
 else r1
def landD(disk:List Int)(fault:Bool)(r:Req):List Int:=if !fault && r.write then dput disk r.page r.data else disk
def land(fault:Bool)(t:St)(n:Int):St:=
 match t.rs.find? fun r=>r.num == n with
 | none=>t
 | some r=>{t with rs:=(t.rs.map fun x=>if x.num=n then landR t.now t.disk fault x else x).filter fun x=>!(x.num == n && (x.told && !x.inAir)),disk:=landD t.disk fault r}
def complete(t:St)(k:Nat)(fault:Bool):Option St:=
 match t.cs[k]? with
 | none=>none
 | some c=>some (c.nums.foldl (land fault) {t with cs:=t.cs.eraseIdx k})
def waiting(t:St):List Int:=(t.rs.filter fun r=>r.state == 0).map (·.num)
def kept(rs:List Req):List Int->(Nat->Bool)->Nat->List Int->List Int
 | [],_,_,d=>d
 | n :: l,f,i,d=>kept rs l f (i+1) (if f i then (match rs.find? fun r=>r.num == n with | none=>d | some r=>dput d r.page r.data)else d)
def crash(t:St)(f:Nat->Bool):St:=
 {t with rs:=[],held:=0,cs:=[],head:=0,disk:=kept t.rs ((t.cs.filter (·.write)).flatMap (·.nums)) f 0 t.disk}
end St
def pageL(L:List Ent)(k:Nat):List Ent:=L.filter fun e=>e.r.page == (k:Int)
def isKind(write:Bool)(e:Ent):Bool:=(e.r.write == write) && !e.r.alone
def nextK(L:List Ent)(write:Bool)(k:Nat):List Ent:=(pageL L k).filter (isKind write)
def runLen(K:Nat->List Ent)(at_ most:Nat):Nat:=((List.range most).takeWhile fun i=>!(K (at_+i)).isEmpty).length
def gather(K:Nat->List Ent)(at_ n:Nat):List Ent:=(List.range n).flatMap fun i=>K (at_+i)
def nextE(L:List Ent)(head:Nat):Nat×Nat×List Ent:=
 match beginE (fun k=>decide (0<(pageL L k).length)) head with
 | none=>(0,0,[])
 | some p=>
   match pageL L p with
   | []=>(0,0,[])
   | f :: _=>if f.r.alone then (p,1,[f])else
     let n:=runLen (nextK L f.r.write) p (min 4 (16 - p))
     (p,n,gather (nextK L f.r.write) p n)
theorem byPage_map(es:List Ent):(byPage es).map (·.r)=byPageR (es.map (·.r)):=by
 unfold byPage byPageR
 rw[List.map_flatMap]
 congr 1
 funext p
 rw[List.filter_map];rfl
theorem isReady_map(now:Int)(es:List Ent)(e:Ent):isReady now es e=isReadyR now (es.map (·.r)) e.r:=by
 unfold isReady isReadyR
 rw[List.any_map];rfl
theorem readyE_map(now:Int)(es:List Ent):(readyE now es).map (·.r)=readyR now (es.map (·.r)):=by
 unfold readyE readyR
 rw[<-byPage_map,List.filter_map]
 congr 1
 refine List.filter_congr fun e _=>isReady_map now es e
theorem pageL_map(L:List Ent)(k:Nat):(pageL L k).map (·.r)=pageR (L.map (·.r)) k:=by
 unfold pageL pageR
 rw[List.filter_map];rfl
theorem nextK_map(L:List Ent)(w:Bool)(k:Nat):(nextK L w k).map (·.r)=kindR (L.map (·.r)) w k:=by
 unfold nextK kindR
 rw[<-pageL_map,List.filter_map];rfl
theorem runLen_map(L:List Ent)(w:Bool)(p m:Nat):runLen (nextK L w) p m=runLenR (kindR (L.map (·.r)) w) p m:=by
 unfold runLen runLenR
 congr 2
 funext i
 rw[<-nextK_map];simp
theorem gather_map(L:List Ent)(w:Bool)(p n:Nat):(gather (nextK L w) p n).map (·.r)=gatherR (kindR (L.map (·.r)) w) p n:=by
 unfold gather gatherR
 rw[List.map_flatMap]
 congr 1
 funext i
 exact nextK_map L w (p+i)
theorem nextE_map(L:List Ent)(head:Nat):((nextE L head).1,(nextE L head).2.1,(nextE L head).2.2.map (·.r))=nextR (L.map (·.r)) head:=by
 unfold nextE nextR
 have h1:(fun k=>decide (0<(pageL L k).length))=fun k=>decide (0<(pageR (L.map (·.r)) k).length):=by
  funext k;rw[<-pageL_map,List.length_map]
 rw[h1]
 cases beginE (fun k=>decide (0<(pageR (L.map (·.r)) k).length)) head with
 | none=>rfl
 | some p=>
   simp only
   rw[<-pageL_map]
   cases pageL L p with
   | nil=>rfl
   | cons f t=>
     simp only[List.map_cons]
     cases f.r.alone
     ·simp only[Bool.false_eq_true,if_false]
      rw[gather_map,runLen_map]
     ·rfl
def St.Soon(t:St):Prop:=∀ r∈t.rs,r.after<=t.now+8
theorem sent_soon{t:St}(h:t.Soon)(c:Cmd):(t.sent c).Soon:=fun r hr=>by
 obtain⟨x,hx,rfl⟩:=List.mem_map.1 hr
 have:=h x hx
 show (if x.num∈c.nums then sentR x else x).after<=t.now+8
 split
 ·exact this
 ·exact this
theorem landR_soon{r:Req}(now:Int)(h:r.after<=now+8)(disk:List Int)(fault:Bool):(St.landR now disk fault r).after<=now+8:=by
 unfold St.landR
 simp only
 split
 ·split
  ·exact h
  ·split
   ·exact h
   ·simp only;omega
 ·exact h
theorem land_soon{t:St}(h:t.Soon)(fault:Bool)(n:Int):(t.land fault n).Soon:=by
 unfold St.land
 split
 ·exact h
 ·intro r hr
  obtain⟨h1,_⟩:=List.mem_filter.1 hr
  obtain⟨x,hx,rfl⟩:=List.mem_map.1 h1
  have:=h x hx
  show (if _ then _ else _:Req).after<=t.now+8
  split
  ·exact landR_soon t.now this t.disk fault
  ·exact this
theorem lands_soon(fault:Bool):∀ (ns:List Int) (t:St),t.Soon->(ns.foldl (St.land fault) t).Soon
 | [],_,h=>h
 | n :: ns,t,h=>lands_soon fault ns (t.land fault n) (land_soon h fault n)
theorem complete_soon{t t':St}(h:t.Soon){k:Nat}{fault:Bool}(hc:t.complete k fault=some t'):t'.Soon:=by
 unfold St.complete at hc
 split at hc
 ·cases hc
 ·simp only[Option.some.injEq]at hc
  subst hc
  exact lands_soon fault _ _ h
theorem tick_soon{t:St}(h:t.Soon):t.tick.Soon:=fun r hr=>by
 have:=h r hr
 show r.after<=t.now+1+8
 omega
theorem soon_new(d:Nat):(St.new d).Soon:=fun _ h=>by cases h
theorem soon_add{t:St}(h:t.Soon)(hn:0<=t.now)(w:Bool)(p:Int)(d:B4):(t.add w p d).Soon:=fun r hr=>by
 rcases List.mem_append.1 hr with hr | hr
 ·exact h r hr
 ·obtain rfl:=List.mem_singleton.1 hr
  show (0:Int)<=t.now+8
  omega
theorem soon_tell{t:St}(h:t.Soon)(n:Int):(t.tell n).Soon:=fun r hr=>by
 obtain⟨h1,_⟩:=List.mem_filter.1 (show r∈St.tellRs t.rs n from hr)
 obtain⟨x,hx,rfl⟩:=List.mem_map.1 h1
 have:=h x hx
 show (if _ then _ else _:Req).after<=t.now+8
 split
 ·exact this
 ·exact this
theorem soon_give{t:St}(h:t.Soon)(n:Int):(t.give n).Soon:=fun r hr=>by
 obtain⟨x,hx,rfl⟩:=List.mem_map.1 (show r∈t.rs.map _ from hr)
 have:=h x hx
 show (if _ then _ else _:Req).after<=t.now+8
 split
 ·exact this
 ·exact this
theorem soon_crash(t:St)(f:Nat->Bool):(t.crash f).Soon:=fun _ h=>by cases h
def BOk(d:B4):Prop:=(0<=d.a/\d.a<=255)/\(0<=d.b/\d.b<=255)/\(0<=d.c/\d.c<=255)/\(0<=d.d/\d.d<=255)
def Req.live(r:Req):Bool:=(r.state == 0) || r.inAir
structure ROk(r:Req):Prop where
 page:0<=r.page/\r.page<16
 st:0<=r.state/\r.state<=4
 tries:0<=r.tries/\r.tries<=4
 try3:r.live=true->r.tries<=3
 air:r.inAir=true->r.state=1\/r.state=4
 uair:r.state=1->r.inAir=true
 told:r.told=true->r.state=4/\r.inAir=true
 byte:BOk r.data
structure RsOk(last:Int)(rs:List Req)(air:List Int):Prop where
 nums:rs.Pairwise (·.num < ·.num)
 num:∀ r∈rs,1<=r.num/\r.num<=last
 ok:∀ r∈rs,ROk r
 nodup:air.Nodup
 fly:∀ n∈air,∃ r∈rs,r.num=n/\r.inAir=true
 airs:∀ r∈rs,r.inAir=true->r.num∈air
 free:∀ r∈rs,r.inAir=true->∀ o∈rs,o.blocks r=false
structure St.OkA(t:St)(air:List Int):Prop where
 depth:1<=t.depth/\t.depth<=4
 head:t.head<=16
 dlen:t.disk.length=64
 dbyte:∀ b∈t.disk,0<=b/\b<=255
 last:0<=t.last
 now:0<=t.now
 rs:RsOk t.last t.rs air
 held:t.held=((t.rs.filter fun r=>!r.told).length:Int)
 h40:t.held<=40
 soon:t.Soon
structure CmdOk(rs:List Req)(c:Cmd):Prop where
 count:1<=c.count/\c.count<=4
 page:c.page+c.count<=16
 len:c.count<=c.nums.length
 wlen:c.write=true->c.nums.length=c.count
 ins:∀ n∈c.nums,∃ r∈rs,r.num=n/\r.write=c.write/\(c.page:Int)<=r.page/\r.page<c.page+c.count
 all:∀ p:Int,(c.page:Int)<=p->p<c.page+c.count->∃ r∈rs,r.num∈c.nums/\r.page=p
structure St.Ok(t:St):Prop where
 a:t.OkA (t.cs.flatMap (·.nums))
 len:t.cs.length<=t.depth
 cmds:∀ c∈t.cs,CmdOk t.rs c
theorem blocks_live{o r:Req}(h:o.blocks r=true):o.live=true:=by
 simp[Req.blocks]at h;simp[Req.live];exact h.2.2.2
theorem blocks_eq{o r o' r':Req}(h1:o'.num=o.num)(h2:o'.page=o.page)(h3:o'.write=o.write)(h4:r'.num=r.num)(h5:r'.page=r.page)(h6:r'.write=r.write)(hl:o'.live=true->o.live=true)(h:o.blocks r=false):o'.blocks r'=false:=by
 cases hb:o'.blocks r' with
 | false=>rfl
 | true=>
   have hl':=hl (blocks_live hb)
   have:o.blocks r=true:=by
    simp[Req.blocks,h1,h2,h3,h4,h5,h6]at hb
    simp[Req.live]at hl'
    simp[Req.blocks,hb,hl']
   rw[this]at h;exact h
theorem rnum_inj{rs:List Req}(h:rs.Pairwise (·.num < ·.num)){a b:Req}(ha:a∈rs)(hb:b∈rs)(he:a.num=b.num):a=b:=by
 induction rs with
 | nil=>cases ha
 | cons x l ih=>
   rw[List.pairwise_cons]at h
   rcases List.mem_cons.1 ha with e | ha' <;> rcases List.mem_cons.1 hb with e' | hb'
   ·rw[e,e']
   ·have:=h.1 b hb';rw[e]at he;omega
   ·have:=h.1 a ha';rw[e']at he;omega
   ·exact ih h.2 ha' hb'
theorem find_num{rs:List Req}(h:rs.Pairwise (·.num < ·.num)){r:Req}(hr:r∈rs):(rs.find? fun x=>x.num == r.num)=some r:=by
 cases hf:rs.find? fun x=>x.num == r.num with
 | none=>exact absurd (List.find?_eq_none.1 hf r hr) (by simp)
 | some x=>
   have h1:=List.find?_some hf
   have h2:=List.mem_of_find?_eq_some hf
   simp at h1
   rw[rnum_inj h h2 hr h1]
theorem RsOk.map{last:Int}{rs:List Req}{air air':List Int}(h:RsOk last rs air)(f:Req->Req)(hn:∀ r,(f r).num=r.num)(hp:∀ r,(f r).page=r.page)(hw:∀ r,(f r).write=r.write)
  (hok:∀ r∈rs,ROk (f r)) (hl:∀ r∈rs,(f r).live=true->r.live=true) (hnd:air'.Nodup) (hfly:∀ n∈air',∃ r∈rs,r.num=n/\(f r).inAir=true) (hairs:∀ r∈rs,(f r).inAir=true->r.num∈air')
  (hfree:∀ r∈rs,(f r).inAir=true->r.inAir=true\/∀ o∈rs,o.blocks r=false):RsOk last (rs.map f) air':=by
 refine⟨List.pairwise_map.2 (h.nums.imp fun {a b} hab=>by rw[hn,hn];exact hab),fun r hr=>?_,fun r hr=>?_,hnd,fun n hn'=>?_,fun r hr ha=>?_,fun r hr ha o ho=>?_⟩
 ·obtain⟨x,hx,rfl⟩:=List.mem_map.1 hr
  rw[hn];exact h.num x hx
 ·obtain⟨x,hx,rfl⟩:=List.mem_map.1 hr
  exact hok x hx
 ·obtain⟨r,hr,h1,h2⟩:=hfly n hn'
  exact⟨f r,List.mem_map_of_mem hr,by rw[hn];exact h1,h2⟩
 ·obtain⟨x,hx,rfl⟩:=List.mem_map.1 hr
  rw[hn];exact hairs x hx ha
 ·obtain⟨x,hx,rfl⟩:=List.mem_map.1 hr
  obtain⟨y,hy,rfl⟩:=List.mem_map.1 ho
  refine blocks_eq (hn y) (hp y) (hw y) (hn x) (hp x) (hw x) (hl y hy) ?_
  rcases hfree x hx ha with h1 | h1
  ·exact h.free x hx h1 y hy
  ·exact h1 y hy
theorem RsOk.filter{last:Int}{rs:List Req}{air:List Int}(h:RsOk last rs air)(p:Req->Bool)(hp:∀ r∈rs,r.inAir=true->p r=true):RsOk last (rs.filter p) air:=
 ⟨h.nums.filter _,fun r hr=>h.num r (List.mem_filter.1 hr).1,fun r hr=>h.ok r (List.mem_filter.1 hr).1,h.nodup,fun n hn=>by
   obtain⟨r,hr,h1,h2⟩:=h.fly n hn
   exact⟨r,List.mem_filter.2 ⟨hr,hp r hr h2⟩,h1,h2⟩,fun r hr=>h.airs r (List.mem_filter.1 hr).1,fun r hr ha o ho=>h.free r (List.mem_filter.1 hr).1 ha o (List.mem_filter.1 ho).1⟩
theorem RsOk.add{last:Int}{rs:List Req}{air:List Int}(h:RsOk last rs air)(hl:0<=last)(w:Bool)(p:Int)(hp:0<=p/\p<16)(d:B4)(hd:BOk d):RsOk (last+1) (rs ++ [newReq (last+1) w p d]) air:=by
 refine⟨?_,fun r hr=>?_,fun r hr=>?_,h.nodup,fun n hn=>?_,fun r hr ha=>?_,fun r hr ha o ho=>?_⟩
 ·rw[List.pairwise_append]
  refine⟨h.nums,by simp,fun a ha b hb=>?_⟩
  have:=h.num a ha
  rw[List.mem_singleton.1 hb];show a.num<last+1;omega
 ·rcases List.mem_append.1 hr with hr | hr
  ·have:=h.num r hr;omega
  ·rw[List.mem_singleton.1 hr];show 1<=last+1/\last+1<=last+1;omega
 ·rcases List.mem_append.1 hr with hr | hr
  ·exact h.ok r hr
  ·rw[List.mem_singleton.1 hr]
   exact⟨hp,by simp[newReq],by simp[newReq],by simp[newReq],by simp[newReq],by simp[newReq],by simp[newReq],hd⟩
 ·obtain⟨r,hr,h1,h2⟩:=h.fly n hn
  exact⟨r,List.mem_append_left _ hr,h1,h2⟩
 ·rcases List.mem_append.1 hr with hr | hr
  ·exact h.airs r hr ha
  ·rw[List.mem_singleton.1 hr]at ha;simp[newReq]at ha
 ·rcases List.mem_append.1 hr with hr | hr
  ·rcases List.mem_append.1 ho with ho | ho
   ·exact h.free r hr ha o ho
   ·rw[List.mem_singleton.1 ho]
    have:=h.num r hr
    have h2:¬(last+1<r.num):=by omega
    simp[Req.blocks,newReq,h2]
  ·rw[List.mem_singleton.1 hr]at ha;simp[newReq]at ha
theorem ok_new{d:Nat}(h:1<=d/\d<=4):(St.new d).Ok:=
 ⟨⟨h,by simp[St.new],by simp[St.new],fun b hb=>by simp[St.new]at hb;omega,by simp[St.new],by simp[St.new],⟨by simp[St.new],by simp[St.new],by simp[St.new],by simp[St.new],by simp[St.new],by simp[St.new],by simp[St.new]⟩,by simp[St.new],by simp[St.new],soon_new d⟩,by simp[St.new],by simp[St.new]⟩
theorem CmdOk.mono{rs rs':List Req}{c:Cmd}(h:CmdOk rs c)(hr:∀ r∈rs,r.num∈c.nums->∃ r'∈rs',r'.num=r.num/\r'.write=r.write/\r'.page=r.page):CmdOk rs' c:=by
 refine⟨h.count,h.page,h.len,h.wlen,fun n hn=>?_,fun p h1 h2=>?_⟩
 ·obtain⟨r,hm,e1,e2,e3,e4⟩:=h.ins n hn
  obtain⟨r',hm',f1,f2,f3⟩:=hr r hm (e1 ▸ hn)
  exact⟨r',hm',by omega,f2.trans e2,by omega,by omega⟩
 ·obtain⟨r,hm,e1,e2⟩:=h.all p h1 h2
  obtain⟨r',hm',f1,f2,f3⟩:=hr r hm e1
  exact⟨r',hm',f1 ▸ e1,by omega⟩
theorem CmdOk.air{t:St}(h:t.Ok){c:Cmd}(hc:c∈t.cs){n:Int}(hn:n∈c.nums):∃ r∈t.rs,r.num=n/\r.inAir=true:=
 h.a.rs.fly n (List.mem_flatMap.2 ⟨c,hc,hn⟩)
theorem ok_add{t:St}(h:t.Ok)(hh:t.held<40)(w:Bool)(p:Int)(hp:0<=p/\p<16)(d:B4)(hd:BOk d):(t.add w p d).Ok:=by
 refine⟨⟨h.a.depth,h.a.head,h.a.dlen,h.a.dbyte,?_,h.a.now,h.a.rs.add h.a.last w p hp d hd,?_,?_,soon_add h.a.soon h.a.now w p d⟩,h.len,fun c hc=>(h.cmds c hc).mono fun r hr _=>⟨r,List.mem_append_left _ hr,rfl,rfl,rfl⟩⟩
 ·have:=h.a.last;simp only[St.add];omega
 ·have:=h.a.held
  simp only[St.add,List.filter_append,List.length_append]
  simp[newReq];omega
 ·simp only[St.add];omega
theorem ok_tick{t:St}(h:t.Ok):t.tick.Ok:=
 ⟨⟨h.a.depth,h.a.head,h.a.dlen,h.a.dbyte,h.a.last,by have:=h.a.now;simp only[St.tick];omega,h.a.rs,h.a.held,h.a.h40,tick_soon h.a.soon⟩,h.len,h.cmds⟩
theorem find_some{t:St}{n:Int}{r:Req}(h:t.find n=some r):r∈t.rs/\r.num=n/\r.told=false:=by
 have h1:=List.find?_some h
 have h2:=List.mem_of_find?_eq_some h
 simp at h1
 exact⟨h2,h1.1,h1.2⟩
theorem filter_len_map{rs:List Req}(f:Req->Req)(p:Req->Bool)(hp:∀ r∈rs,p (f r)=p r):((rs.map f).filter p).length=(rs.filter p).length:=by
 rw[List.filter_map,List.length_map]
 congr 1
 exact List.filter_congr fun r hr=>hp r hr
theorem ok_give{t:St}(h:t.Ok){n:Int}{r:Req}(hf:t.find n=some r):(t.give n).Ok:=by
 obtain⟨hr,hn,ht⟩:=find_some hf
 have key:∀ x∈t.rs,x.num=n->x=r:=fun x hx hxn=>rnum_inj h.a.rs.nums hx hr (by omega)
 have hair:∀ x:Req,(if x.num=n then St.giveR x else x).inAir=x.inAir:=fun x=>by split <;> rfl
 refine⟨⟨h.a.depth,h.a.head,h.a.dlen,h.a.dbyte,h.a.last,h.a.now,h.a.rs.map _ (fun x=>by split <;> rfl) (fun x=>by split <;> rfl) (fun x=>by split <;> rfl) (fun x hx=>?_) (fun x hx=>?_) h.a.rs.nodup (fun m hm=>?_) (fun x hx ha=>?_) (fun x hx ha=>?_),?_,h.a.h40,soon_give h.a.soon n⟩,h.len,fun c hc=>(h.cmds c hc).mono fun x hx _=>⟨_,List.mem_map_of_mem hx,?_⟩⟩
 ·have ho:=h.a.rs.ok x hx
  split
  ·rename_i hxn
   have hxr:=key x hx hxn
   exact⟨ho.page,by simp[St.giveR],ho.tries,fun hl=>ho.try3 (by simp[Req.live,St.giveR]at hl;simp[Req.live,hl]),fun _=>.inr rfl,by simp[St.giveR],fun h=>by rw[hxr]at h;simp[St.giveR,ht]at h,ho.byte⟩
  ·exact ho
 ·split
  ·intro hl
   simp[Req.live,St.giveR]at hl
   simp[Req.live,hl]
  ·exact id
 ·obtain⟨x,hx,h1,h2⟩:=h.a.rs.fly m hm
  exact⟨x,hx,h1,by rw[hair];exact h2⟩
 ·rw[hair]at ha;exact h.a.rs.airs x hx ha
 ·rw[hair]at ha;exact .inl ha
 ·show t.held=_
  rw[h.a.held]
  simp only[St.give]
  rw[filter_len_map]
  intro x _
  split <;> rfl
 ·refine⟨?_,?_,?_⟩ <;> (split <;> rfl)
theorem filter_split{rs:List Req}(h:rs.Pairwise (·.num < ·.num)){r:Req}(hr:r∈rs):∃ l1 l2,rs=l1 ++ r :: l2/\(∀ x∈l1,x.num≠r.num)/\(∀ x∈l2,x.num≠r.num):=by
 obtain⟨l1,l2,rfl⟩:=List.append_of_mem hr
 rw[List.pairwise_append,List.pairwise_cons]at h
 exact⟨l1,l2,rfl,fun x hx=>by have:=h.2.2 x hx r (by simp);omega,fun x hx=>by have:=h.2.1.1 x hx;omega⟩
theorem map_split{l1 l2:List Req}{r:Req}(f:Req->Req)(h1:∀ x∈l1,x.num≠r.num)(h2:∀ x∈l2,x.num≠r.num):((l1 ++ r :: l2).map fun x=>if x.num=r.num then f x else x)=l1 ++ f r :: l2:=by
 have g:∀ l:List Req,(∀ x∈l,x.num≠r.num)->(l.map fun x=>if x.num=r.num then f x else x)=l:=fun l hl=>by
  conv=>rhs;rw[<-List.map_id l]
  exact List.map_congr_left fun x hx=>if_neg (hl x hx)
 rw[List.map_append,List.map_cons,g l1 h1,g l2 h2,if_pos rfl]
theorem drop_split{l1 l2:List Req}{r:Req}(hn:∀ x∈l1,x.num≠r.num)(hn2:∀ x∈l2,x.num≠r.num)(y:Req)(hy:y.num=r.num):((l1 ++ y :: l2).filter fun x=>!(x.num == r.num && (x.told && !x.inAir)))=if y.told && !y.inAir then l1 ++ l2 else l1 ++ y :: l2:=by
 have g:∀ l:List Req,(∀ x∈l,x.num≠r.num)->(l.filter fun x=>!(x.num == r.num && (x.told && !x.inAir)))=l:=fun l hl=>List.filter_eq_self.2 fun x hx=>by simp[hl x hx]
 rw[List.filter_append,g l1 hn]
 cases hc:y.told && !y.inAir with
 | true=>rw [List.filter_cons_of_neg (by simp[hy,hc]),g l2 hn2];rfl
 | false=>rw [List.filter_cons_of_pos (by simp[hy,hc]),g l2 hn2];rfl
theorem ok_tell{t:St}(h:t.Ok){n:Int}{r:Req}(hf:t.find n=some r)(hs:2<=r.state):(t.tell n).Ok:=by
 obtain⟨hr,hn,ht⟩:=find_some hf
 have key:∀ x∈t.rs,x.num=n->x=r:=fun x hx hxn=>rnum_inj h.a.rs.nums hx hr (by omega)
 have hair:∀ x:Req,(if x.num=n then tellR x else x).inAir=x.inAir:=fun x=>by split <;> rfl
 have hro:=h.a.rs.ok r hr
 have hcm:∀ c∈t.cs,CmdOk (St.tellRs t.rs n) c:=fun c hc=>(h.cmds c hc).mono fun x hx hxc=>by
  obtain⟨y,hy,hyn,hya⟩:=CmdOk.air h hc hxc
  have hxy:=rnum_inj h.a.rs.nums hy hx hyn
  refine⟨if x.num=n then tellR x else x,List.mem_filter.2 ⟨List.mem_map_of_mem hx,?_⟩,?_⟩
  ·have:=hair x
   rw[this,<-hxy,hya];simp
  ·refine⟨?_,?_,?_⟩ <;> (split <;> rfl)
 have hheld:t.held - 1=(((St.tellRs t.rs n).filter fun r=>!r.told).length:Int):=by
  rw[h.a.held]
  obtain⟨l1,l2,e,h1,h2⟩:=filter_split h.a.rs.nums hr
  unfold St.tellRs
  subst hn
  rw[e,map_split tellR h1 h2,drop_split h1 h2 (tellR r) rfl]
  have ha:(tellR r).told=true:=rfl
  rw[List.filter_append,List.filter_cons_of_pos (by simp[ht])]
  split
  ·simp[List.filter_append];omega
  ·rw[List.filter_append,List.filter_cons_of_neg (by simp[ha])];simp;omega
 refine⟨⟨h.a.depth,h.a.head,h.a.dlen,h.a.dbyte,h.a.last,h.a.now,?_,hheld,by have:=h.a.h40;simp only[St.tell];omega,soon_tell h.a.soon n⟩,h.len,hcm⟩
 show RsOk t.last (St.tellRs t.rs n) _
 by_cases ha:r.inAir=true
 ·have hst:r.state=4:=by rcases hro.air ha with h1 | h1 <;> omega
  refine RsOk.filter (h.a.rs.map _ (fun x=>by split <;> rfl) (fun x=>by split <;> rfl) (fun x=>by split <;> rfl) (fun x hx=>?_) (fun x hx=>?_) h.a.rs.nodup (fun m hm=>?_) (fun x hx ha=>?_) (fun x hx ha=>?_)) _ ?_
  ·have ho:=h.a.rs.ok x hx
   split
   ·rename_i hxn
    have hxr:=key x hx hxn
    subst hxr
    exact⟨ho.page,ho.st,ho.tries,ho.try3,ho.air,ho.uair,fun _=>⟨hst,ha⟩,ho.byte⟩
   ·exact ho
  ·split <;> exact id
  ·obtain⟨x,hx,h1,h2⟩:=h.a.rs.fly m hm
   exact⟨x,hx,h1,by rw[hair];exact h2⟩
  ·rw[hair]at ha;exact h.a.rs.airs x hx ha
  ·rw[hair]at ha;exact .inl ha
  ·intro x _ hxa
   simp[hxa]
 ·have ha':r.inAir=false:=by simpa using ha
  have he:St.tellRs t.rs n=t.rs.filter fun x=>x.num != n:=by
   obtain⟨l1,l2,e,h1,h2⟩:=filter_split h.a.rs.nums hr
   unfold St.tellRs
   subst hn
   have g:∀ l:List Req,(∀ x∈l,x.num≠r.num)->(l.filter fun x=>x.num != r.num)=l:=fun l hl=>List.filter_eq_self.2 fun x hx=>by simpa using hl x hx
   rw[e,map_split tellR h1 h2,drop_split h1 h2 (tellR r) rfl,List.filter_append,g l1 h1,List.filter_cons_of_neg (by simp),g l2 h2]
   simp[tellR,ha']
  rw[he]
  refine h.a.rs.filter _ fun x hx hxa=>?_
  simp only[bne_iff_ne,ne_eq]
  intro hxn
  have:=key x hx hxn
  subst this
  exact ha hxa
end
end Go.Proofs.YticobikhndlejaaGreatDoor
