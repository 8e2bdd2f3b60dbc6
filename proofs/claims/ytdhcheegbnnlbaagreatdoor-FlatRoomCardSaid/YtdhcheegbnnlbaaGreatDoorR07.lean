/- Part. -/
import Derived.Test.YtdhcheegbnnlbaaGreatDoorR06
import Derived.Test.YtdhcheegbnnlbaaGreatDoorProg
set_option linter.all false
open Go.Ab.Mem renaming next_bump → bN, next_put → nP, get_bump → gB, get_put → gP
open List renaming getD_eq_getElem?_getD → gD', getElem?_eq_getElem → gE', length_set → sL
open Nat renaming le_refl → lR'
open Bool renaming false_eq_true → bF
namespace Go.Ab
open Go.Proofs
noncomputable section
noncomputable def EE:Env:={P:=Tryz.prog,eqv:=zgZ 8,prim:=λ_=>none}
theorem zDF:∀o r,EE.sym o r=none:=λ_ _=>rfl
theorem zai:zkh EE:=⟨λv u h=>zy8 _ _ _ h,λ_ _ _ h=>(by cases h),kr⟩
instance:zaM EE:=⟨zDF⟩
def f4:zal:=⟨141,[.tmp 6],cO Tryz.f4.body⟩
def f5:zal:=⟨147,[.tmp 4],cO Tryz.f5.body⟩
theorem fn5:zaG EE.P 5=some f5:=kr
def f7:zal:=⟨27,[.tmp 6],cO Tryz.f7.body⟩
theorem fn7:zaG EE.P 7=some f7:=kr
def f8:zal:=⟨112,[.tmp 2, .tmp 3],cO Tryz.f8.body⟩
theorem fn8:zaG EE.P 8=some f8:=kr
def f14:zal:=⟨5,[.tmp 2],cO Tryz.f14.body⟩
theorem zH7:zaG EE.P 14=some f14:=kr
def f15:zal:=⟨17,[.cell 4 47, .tmp 5],cO Tryz.f15.body⟩
theorem zIJ:zaG EE.P 15=some f15:=kr
def f19:zal:=⟨38,[.cell 2 58],cO Tryz.f19.body⟩
theorem zI7:zaG EE.P 19=some f19:=kr
def f20:zal:=⟨46,[],cO Tryz.f20.body⟩
theorem zIo:zaG EE.P 20=some f20:=kr
def f21:zal:=⟨12,[.tmp 2],cO Tryz.f21.body⟩
theorem zIa:zaG EE.P 21=some f21:=kr
def f22:zal:=⟨5,[.tmp 2],cO Tryz.f22.body⟩
theorem zID:zaG EE.P 22=some f22:=kr
def f23:zal:=⟨20,[.tmp 4, .tmp 5],cO Tryz.f23.body⟩
theorem zIP:zaG EE.P 23=some f23:=kr
def f24:zal:=⟨32,[.tmp 6, .tmp 7],cO Tryz.f24.body⟩
theorem zIO:zaG EE.P 24=some f24:=kr
def f26:zal:=⟨73,[.tmp 8],cO Tryz.f26.body⟩
theorem zJh:zaG EE.P 26=some f26:=kr
def f27:zal:=⟨14,[.tmp 6],cO Tryz.f27.body⟩
theorem zIR:zaG EE.P 27=some f27:=kr
def f31:zal:=⟨27,[.tmp 4],cO Tryz.f31.body⟩
theorem zJf:zaG EE.P 31=some f31:=kr
def f34:zal:=⟨32,[.tmp 2, .tmp 3],cO Tryz.f34.body⟩
theorem zIH:zaG EE.P 34=some f34:=kr
def f42:zal:=⟨21,[.tmp 4],cO Tryz.f42.body⟩
theorem zIc:zaG EE.P 42=some f42:=kr
def f43:zal:=⟨15,[.tmp 2],cO Tryz.f43.body⟩
theorem zIt:zaG EE.P 43=some f43:=kr
def f44:zal:=⟨19,[.tmp 4],cO Tryz.f44.body⟩
theorem zIY:zaG EE.P 44=some f44:=kr
def f45:zal:=⟨11,[.tmp 2],cO Tryz.f45.body⟩
theorem zII:zaG EE.P 45=some f45:=kr
def f46:zal:=⟨83,[],cO Tryz.f46.body⟩
theorem zJr:zaG EE.P 46=some f46:=kr
def f47:zal:=⟨12,[.tmp 2],cO Tryz.f47.body⟩
theorem zIL:zaG EE.P 47=some f47:=kr
def f48:zal:=⟨12,[.tmp 2],cO Tryz.f48.body⟩
theorem zI0:zaG EE.P 48=some f48:=kr
def f49:zal:=⟨3,[.tmp 2],cO Tryz.f49.body⟩
theorem zIi:zaG EE.P 49=some f49:=kr
def f50:zal:=⟨23,[.tmp 4],cO Tryz.f50.body⟩
theorem zIz:zaG EE.P 50=some f50:=kr
def f51:zal:=⟨40,[],cO Tryz.f51.body⟩
theorem zIE:zaG EE.P 51=some f51:=kr
def f52:zal:=⟨43,[.tmp 8],cO Tryz.f52.body⟩
theorem zIK:zaG EE.P 52=some f52:=kr
def f53:zal:=⟨158,[.tmp 6],cO Tryz.f53.body⟩
theorem zJe:zaG EE.P 53=some f53:=kr
def f54:zal:=⟨28,[.tmp 2],cO Tryz.f54.body⟩
theorem zIl:zaG EE.P 54=some f54:=kr
def f64:zal:=⟨22,[.tmp 4, .tmp 5],cO Tryz.f64.body⟩
theorem zIv:zaG EE.P 64=some f64:=kr
def f68:zal:=⟨6,[.tmp 4],cO Tryz.f68.body⟩
theorem zIA:zaG EE.P 68=some f68:=kr
def f69:zal:=⟨8,[.tmp 2],cO Tryz.f69.body⟩
theorem zI5:zaG EE.P 69=some f69:=kr
def f70:zal:=⟨35,[],cO Tryz.f70.body⟩
theorem zHz:zaG EE.P 70=some f70:=kr
def f71:zal:=⟨31,[],cO Tryz.f71.body⟩
theorem zHC:zaG EE.P 71=some f71:=kr
def f78:zal:=⟨46,[.cell 2 3, .cell 3 3, .cell 4 73],cO Tryz.f78.body⟩
theorem zIg:zaG EE.P 78=some f78:=kr
def f79:zal:=⟨84,[],cO Tryz.f79.body⟩
theorem zJd:zaG EE.P 79=some f79:=kr
def f80:zal:=⟨31,[],cO Tryz.f80.body⟩
theorem zHX:zaG EE.P 80=some f80:=kr
def f81:zal:=⟨86,[.cell 4 47, .tmp 5],cO Tryz.f81.body⟩
theorem ztl:zaG EE.P 81=some f81:=kr
def f82:zal:=⟨68,[],cO Tryz.f82.body⟩
theorem zI4:zaG EE.P 82=some f82:=kr
def f83:zal:=⟨19,[.tmp 4],cO Tryz.f83.body⟩
theorem zIr:zaG EE.P 83=some f83:=kr
def f84:zal:=⟨10,[.tmp 3],cO Tryz.f84.body⟩
theorem zJg:zaG EE.P 84=some f84:=kr
def f85:zal:=⟨22,[.cell 4 73, .tmp 5],cO Tryz.f85.body⟩
theorem zIp:zaG EE.P 85=some f85:=kr
def f86:zal:=⟨19,[.tmp 2],cO Tryz.f86.body⟩
theorem zH9:zaG EE.P 86=some f86:=kr
def f87:zal:=⟨8,[],cO Tryz.f87.body⟩
theorem zIM:zaG EE.P 87=some f87:=kr
def f88:zal:=⟨14,[.tmp 4],cO Tryz.f88.body⟩
theorem zIx:zaG EE.P 88=some f88:=kr
def f101:zal:=⟨25,[],cO Tryz.f101.body⟩
theorem zEF:zaG EE.P 101=some f101:=kr
def f102:zal:=⟨8,[.tmp 2],cO Tryz.f102.body⟩
theorem zGK:zaG EE.P 102=some f102:=kr
def f103:zal:=⟨23,[.cell 2 216, .tmp 3],cO Tryz.f103.body⟩
theorem zE2:zaG EE.P 103=some f103:=kr
def f104:zal:=⟨42,[.tmp 4],cO Tryz.f104.body⟩
theorem zCf:zaG EE.P 104=some f104:=kr
def f105:zal:=⟨7,[.tmp 3],cO Tryz.f105.body⟩
theorem zEK:zaG EE.P 105=some f105:=kr
def f118:zal:=⟨29,[.tmp 2],cO Tryz.f118.body⟩
theorem zER:zaG EE.P 118=some f118:=kr
def f119:zal:=⟨4,[.tmp 2],cO Tryz.f119.body⟩
theorem zEt:zaG EE.P 119=some f119:=kr
def f120:zal:=⟨28,[.tmp 4],cO Tryz.f120.body⟩
theorem zFu:zaG EE.P 120=some f120:=kr
def f121:zal:=⟨10,[],cO Tryz.f121.body⟩
theorem zFr:zaG EE.P 121=some f121:=kr
def f122:zal:=⟨80,[],cO Tryz.f122.body⟩
theorem zF8:zaG EE.P 122=some f122:=kr
def f123:zal:=⟨13,[.tmp 3],cO Tryz.f123.body⟩
theorem zFK:zaG EE.P 123=some f123:=kr
def f124:zal:=⟨19,[],cO Tryz.f124.body⟩
theorem zE1:zaG EE.P 124=some f124:=kr
def f125:zal:=⟨38,[.cell 4 237, .tmp 5],cO Tryz.f125.body⟩
theorem zGe:zaG EE.P 125=some f125:=kr
def f126:zal:=⟨97,[.tmp 6],cO Tryz.f126.body⟩
theorem zpK:zaG EE.P 126=some f126:=kr
def f127:zal:=⟨63,[.tmp 4],cO Tryz.f127.body⟩
theorem zGF:zaG EE.P 127=some f127:=kr
def f128:zal:=⟨118,[],cO Tryz.f128.body⟩
theorem zsn:zaG EE.P 128=some f128:=kr
def f129:zal:=⟨91,[.tmp 6, .tmp 7],cO Tryz.f129.body⟩
theorem ze0:zaG EE.P 129=some f129:=kr
def f130:zal:=⟨126,[],cO Tryz.f130.body⟩
theorem zFj:zaG EE.P 130=some f130:=kr
def f131:zal:=⟨91,[],cO Tryz.f131.body⟩
theorem zFW:zaG EE.P 131=some f131:=kr
def f132:zal:=⟨100,[],cO Tryz.f132.body⟩
theorem zFk:zaG EE.P 132=some f132:=kr
def f133:zal:=⟨133,[],cO Tryz.f133.body⟩
theorem zGC:zaG EE.P 133=some f133:=kr
def f134:zal:=⟨9,[.tmp 2],cO Tryz.f134.body⟩
theorem zGb:zaG EE.P 134=some f134:=kr
def f135:zal:=⟨9,[.tmp 2],cO Tryz.f135.body⟩
theorem zHb:zaG EE.P 135=some f135:=kr
def f150:zal:=⟨6,[.tmp 2],cO Tryz.f150.body⟩
theorem zF5:zaG EE.P 150=some f150:=kr
def f151:zal:=⟨18,[.cell 2 216],cO Tryz.f151.body⟩
theorem zE0:zaG EE.P 151=some f151:=kr
def f166:zal:=⟨61,[.tmp 2],cO Tryz.f166.body⟩
theorem zFw:zaG EE.P 166=some f166:=kr
def f167:zal:=⟨19,[],cO Tryz.f167.body⟩
theorem zFX:zaG EE.P 167=some f167:=kr
def f168:zal:=⟨46,[],cO Tryz.f168.body⟩
theorem zFA:zaG EE.P 168=some f168:=kr
def f169:zal:=⟨13,[],cO Tryz.f169.body⟩
theorem zHm:zaG EE.P 169=some f169:=kr
def f170:zal:=⟨28,[.cell 2 237, .tmp 3],cO Tryz.f170.body⟩
theorem zHl:zaG EE.P 170=some f170:=kr
def f171:zal:=⟨12,[.tmp 4],cO Tryz.f171.body⟩
theorem zGI:zaG EE.P 171=some f171:=kr
def f172:zal:=⟨15,[.tmp 2, .tmp 3],cO Tryz.f172.body⟩
theorem zGr:zaG EE.P 172=some f172:=kr
def f173:zal:=⟨11,[.tmp 4],cO Tryz.f173.body⟩
theorem zEr:zaG EE.P 173=some f173:=kr
def f174:zal:=⟨11,[.tmp 4],cO Tryz.f174.body⟩
theorem zFx:zaG EE.P 174=some f174:=kr
def f175:zal:=⟨14,[.tmp 2],cO Tryz.f175.body⟩
theorem zHn:zaG EE.P 175=some f175:=kr
def f176:zal:=⟨4,[.tmp 2],cO Tryz.f176.body⟩
theorem zEB:zaG EE.P 176=some f176:=kr
def f177:zal:=⟨13,[.tmp 4],cO Tryz.f177.body⟩
theorem zEI:zaG EE.P 177=some f177:=kr
def f178:zal:=⟨22,[.tmp 2],cO Tryz.f178.body⟩
theorem zFc:zaG EE.P 178=some f178:=kr
def f179:zal:=⟨90,[],cO Tryz.f179.body⟩
theorem zGg:zaG EE.P 179=some f179:=kr
def f180:zal:=⟨87,[],cO Tryz.f180.body⟩
theorem zES:zaG EE.P 180=some f180:=kr
def f181:zal:=⟨91,[],cO Tryz.f181.body⟩
theorem zFs:zaG EE.P 181=some f181:=kr
def f182:zal:=⟨33,[],cO Tryz.f182.body⟩
theorem zGH:zaG EE.P 182=some f182:=kr
def f183:zal:=⟨23,[.tmp 4, .cell 5 73, .tmp 6],cO Tryz.f183.body⟩
theorem zGV:zaG EE.P 183=some f183:=kr
def f184:zal:=⟨19,[],cO Tryz.f184.body⟩
theorem zGW:zaG EE.P 184=some f184:=kr
def f185:zal:=⟨32,[.tmp 6, .cell 7 73, .tmp 8],cO Tryz.f185.body⟩
theorem zGi:zaG EE.P 185=some f185:=kr
def f186:zal:=⟨15,[.cell 2 73, .tmp 3],cO Tryz.f186.body⟩
theorem zHi:zaG EE.P 186=some f186:=kr
def f187:zal:=⟨42,[.cell 4 77, .tmp 5],cO Tryz.f187.body⟩
theorem zFl:zaG EE.P 187=some f187:=kr
def f188:zal:=⟨38,[.tmp 4, .tmp 5],cO Tryz.f188.body⟩
theorem zGo:zaG EE.P 188=some f188:=kr
def f189:zal:=⟨120,[],cO Tryz.f189.body⟩
theorem zGG:zaG EE.P 189=some f189:=kr
def f190:zal:=⟨82,[],cO Tryz.f190.body⟩
theorem zFV:zaG EE.P 190=some f190:=kr
def f191:zal:=⟨25,[.tmp 6],cO Tryz.f191.body⟩
theorem zFn:zaG EE.P 191=some f191:=kr
def f192:zal:=⟨16,[.tmp 2],cO Tryz.f192.body⟩
theorem zEN:zaG EE.P 192=some f192:=kr
def f213:zal:=⟨14,[.cell 2 335],cO Tryz.f213.body⟩
theorem zB8:zaG EE.P 213=some f213:=kr
def f214:zal:=⟨4,[.tmp 2],cO Tryz.f214.body⟩
theorem zFz:zaG EE.P 214=some f214:=kr
def f223:zal:=⟨14,[.cell 2 343, .tmp 3],cO Tryz.f223.body⟩
theorem zAH:zaG EE.P 223=some f223:=kr
def f226:zal:=⟨19,[.tmp 4],cO Tryz.f226.body⟩
theorem zGd:zaG EE.P 226=some f226:=kr
def f227:zal:=⟨10,[.tmp 4],cO Tryz.f227.body⟩
theorem zFD:zaG EE.P 227=some f227:=kr
def f228:zal:=⟨13,[.tmp 2, .tmp 3],cO Tryz.f228.body⟩
theorem zHf:zaG EE.P 228=some f228:=kr
def f229:zal:=⟨10,[.tmp 2],cO Tryz.f229.body⟩
theorem zEU:zaG EE.P 229=some f229:=kr
def f230:zal:=⟨7,[.tmp 2],cO Tryz.f230.body⟩
theorem zGP:zaG EE.P 230=some f230:=kr
def f231:zal:=⟨8,[.tmp 2],cO Tryz.f231.body⟩
theorem zFi:zaG EE.P 231=some f231:=kr
def f232:zal:=⟨37,[.tmp 6, .tmp 7],cO Tryz.f232.body⟩
theorem zEO:zaG EE.P 232=some f232:=kr
def f233:zal:=⟨36,[.tmp 2],cO Tryz.f233.body⟩
theorem zFt:zaG EE.P 233=some f233:=kr
def f234:zal:=⟨5,[.cell 2 73],cO Tryz.f234.body⟩
theorem zGw:zaG EE.P 234=some f234:=kr
def f235:zal:=⟨56,[],cO Tryz.f235.body⟩
theorem zF2:zaG EE.P 235=some f235:=kr
def f236:zal:=⟨20,[.tmp 3],cO Tryz.f236.body⟩
theorem zHc:zaG EE.P 236=some f236:=kr
def f237:zal:=⟨9,[.tmp 4],cO Tryz.f237.body⟩
theorem zFa:zaG EE.P 237=some f237:=kr
def f238:zal:=⟨13,[.tmp 3],cO Tryz.f238.body⟩
theorem zFO:zaG EE.P 238=some f238:=kr
def f239:zal:=⟨36,[.tmp 2],cO Tryz.f239.body⟩
theorem zGS:zaG EE.P 239=some f239:=kr
def f284:zal:=⟨24,[],cO Tryz.f284.body⟩
theorem zGj:zaG EE.P 284=some f284:=kr
def f293:zal:=⟨17,[.tmp 2],cO Tryz.f293.body⟩
theorem zEw:zaG EE.P 293=some f293:=kr
def f294:zal:=⟨23,[.tmp 2],cO Tryz.f294.body⟩
theorem zHr:zaG EE.P 294=some f294:=kr
def f318:zal:=⟨4,[.tmp 2],cO Tryz.f318.body⟩
theorem zF1:zaG EE.P 318=some f318:=kr
def f319:zal:=⟨7,[.tmp 2],cO Tryz.f319.body⟩
theorem zEA:zaG EE.P 319=some f319:=kr
def f333:zal:=⟨11,[],cO Tryz.f333.body⟩
theorem zEs:zaG EE.P 333=some f333:=kr
def f370:zal:=⟨13,[.tmp 6],cO Tryz.f370.body⟩
theorem zFY:zaG EE.P 370=some f370:=kr
theorem zwe:lay EE.P 24=some (some 5):=kr
theorem za0:lay EE.P 3=some none:=kr
theorem ziH:lay EE.P 47=some (some 11):=kr
theorem zbe:lay EE.P 36=some none:=kr
theorem zwk:lay EE.P 58=some (some 4):=kr
theorem zwQ:lay EE.P 22=some none:=kr
theorem zfw:lay EE.P 67=some none:=kr
theorem zBF:lay EE.P 38=some (some 7):=kr
theorem zgr:lay EE.P 4=some none:=kr
theorem zcL:lay EE.P 27=some none:=kr
theorem zin:lay EE.P 80=some none:=kr
theorem zCb:lay EE.P 41=some none:=kr
theorem zee:lay EE.P 73=some (some 19):=kr
theorem zwN:lay EE.P 53=some none:=kr
theorem zeb:lay EE.P 70=some none:=kr
theorem zll:lay EE.P 75=some none:=kr
theorem zyW:lay EE.P 5=some none:=kr
theorem zxj:lay EE.P 121=some (some 64):=kr
theorem zwv:lay EE.P 43=some (some 8):=kr
theorem zjG:lay EE.P 216=some (some 4):=kr
theorem zir:lay EE.P 74=some none:=kr
theorem zrh:lay EE.P 77=some (some 3):=kr
theorem zrg:lay EE.P 79=some (some 8):=kr
theorem zfm:lay EE.P 78=some none:=kr
theorem zmn:lay EE.P 237=some (some 4):=kr
theorem zsF:lay EE.P 214=some (some 3):=kr
theorem zzd:lay EE.P 115=some none:=kr
theorem zwg:lay EE.P 44=some none:=kr
theorem zsv:lay EE.P 343=some (some 4):=kr
theorem zlw:lay EE.P 127=some none:=kr
theorem zyS:lay EE.P 361=some (some 30):=kr
theorem zqE:lay EE.P 360=some (some 2):=kr
theorem zEP:lay EE.P 9=some none:=kr
theorem zxm:lay EE.P 335=some (some 2):=kr
theorem zDr:lay EE.P 81=some (some 64):=kr
theorem zzj:lay EE.P 125=some (some 4):=kr
theorem zAL:zbc EE.P 24=some 5:=kr
theorem zcN:zbc EE.P 3=some 1:=kr
theorem zpu:zbc EE.P 47=some 11:=kr
theorem zbR:zbc EE.P 36=some 1:=kr
theorem zBJ:zbc EE.P 58=some 4:=kr
theorem zAo:zbc EE.P 22=some 1:=kr
theorem zji:zbc EE.P 67=some 1:=kr
theorem zCj:zbc EE.P 113=some 4:=kr
theorem zyy:zbc EE.P 38=some 7:=kr
theorem zpI:zbc EE.P 4=some 1:=kr
theorem zeQ:zbc EE.P 27=some 1:=kr
theorem zow:zbc EE.P 80=some 1:=kr
theorem zF9:zbc EE.P 41=some 1:=kr
theorem zgv:zbc EE.P 73=some 19:=kr
theorem zB9:zbc EE.P 53=some 1:=kr
theorem zc3:zbc EE.P 70=some 1:=kr
theorem zsX:zbc EE.P 75=some 1:=kr
theorem zpH:zbc EE.P 5=some 1:=kr
theorem zAt:zbc EE.P 121=some 64:=kr
theorem zBA:zbc EE.P 43=some 8:=kr
theorem zni:zbc EE.P 216=some 4:=kr
theorem zoi:zbc EE.P 74=some 1:=kr
theorem zxp:zbc EE.P 77=some 3:=kr
theorem zy7:zbc EE.P 79=some 8:=kr
theorem zjJ:zbc EE.P 78=some 1:=kr
theorem zp4:zbc EE.P 237=some 4:=kr
theorem zwu:zbc EE.P 214=some 3:=kr
theorem zCL:zbc EE.P 115=some 1:=kr
theorem zCq:zbc EE.P 44=some 1:=kr
theorem zvF:zbc EE.P 343=some 4:=kr
theorem zsC:zbc EE.P 127=some 1:=kr
theorem zBg:zbc EE.P 361=some 30:=kr
theorem zwh:zbc EE.P 360=some 2:=kr
theorem zIB:zbc EE.P 9=some 1:=kr
theorem zAM:zbc EE.P 335=some 2:=kr
theorem zEp:zbc EE.P 81=some 64:=kr
theorem zAl:zbc EE.P 125=some 4:=kr
theorem zjv:zdy EE.P 47=some [(.int .u32 0),(.int .u32 0),(.int .u32 0),(.int .u32 0),(.int .u32 0),(.int .u32 0),(.int .u32 0),(.int .u32 0),(.complex .f64 0 0),(.complex .f64 0 0),(.int .u32 0)]:=kr
theorem zqv:zdy EE.P 58=some [(.int .i64 0),(.int .i64 0),(.int .i64 0),(.int .i64 0)]:=kr
theorem zx4:zdy EE.P 41=some [(.slice none 0 0)]:=kr
theorem zdU:zdy EE.P 73=some [(.int .u32 0),(.int .u32 0),(.int .u32 0),(.int .u32 0),(.int .u32 0),(.int .u32 0),(.int .u32 0),(.int .u32 0),(.int .u32 0),(.int .u32 0),(.int .u32 0),(.int .u32 0),(.int .u32 0),(.int .u32 0),(.int .u32 0),(.int .u32 0),(.int .u32 0),(.int .u32 0),(.bool false)]:=kr
theorem zgF:zdy EE.P 216=some [(.int .i64 0),(.int .u32 0),(.int .u32 0),(.int .u32 0)]:=kr
theorem zBi:zdy EE.P 3=some [(.int .i64 0)]:=kr
theorem zwr:zdy EE.P 4=some [(.bool false)]:=kr
theorem zjQ:zdy EE.P 237=some [(.int .i64 0),(.int .i64 0),(.int .i64 0),(.int .i64 0)]:=kr
theorem ztK:zdy EE.P 214=some [(.int .u32 0),(.int .u32 0),(.int .u32 0)]:=kr
theorem zqV:zdy EE.P 77=some [(.pointer none),(.pointer none),(.int .u32 0)]:=kr
theorem znA:zdy EE.P 343=some [(.string (ByteArray.mk #[])),(.int .i64 0),(.int .i64 0),(.bool false)]:=kr
theorem zuq:zdy EE.P 360=some [(.int .i64 0),(.string (ByteArray.mk #[]))]:=kr
theorem zug:zdy EE.P 335=some [(.string (ByteArray.mk #[])),(.int .i64 0)]:=kr
theorem zuE:zdy EE.P 125=some [(.pointer none),(.bool false),(.bool false),(.bool false)]:=kr
theorem zsO:zaf EE.P 24 0=some 0:=kr
theorem zyx:zaf EE.P 38 2=some 2:=kr
theorem zeV:zaf EE.P 47 2=some 10:=kr
theorem zdT:zaf EE.P 47 0=some 0:=kr
theorem zyj:zaf EE.P 58 1=some 1:=kr
theorem zg1:zaf EE.P 24 2=some 2:=kr
theorem zy0:zaf EE.P 58 0=some 0:=kr
theorem zgb:zaf EE.P 24 1=some 1:=kr
theorem zym:zaf EE.P 58 2=some 2:=kr
theorem zxv:zaf EE.P 58 3=some 3:=kr
theorem zqm:zaf EE.P 24 4=some 4:=kr
theorem zp2:zaf EE.P 24 3=some 3:=kr
theorem ze5:zaf EE.P 69 0=some 0:=kr
theorem zfZ:zaf EE.P 69 1=some 5:=kr
theorem ze1:zaf EE.P 83 5=some 5:=kr
theorem zjN:zaf EE.P 69 3=some 7:=kr
theorem zlB:zaf EE.P 69 4=some 8:=kr
theorem zmh:zaf EE.P 69 5=some 9:=kr
theorem zsD:zaf EE.P 38 0=some 0:=kr
theorem zqi:zaf EE.P 38 3=some 3:=kr
theorem zyE:zaf EE.P 38 4=some 4:=kr
theorem zmo:zaf EE.P 69 7=some 11:=kr
theorem zhs:zaf EE.P 83 3=some 3:=kr
theorem zcv:zaf EE.P 83 8=some 46:=kr
theorem zb2:zaf EE.P 83 0=some 0:=kr
theorem zfj:zaf EE.P 83 14=some 61:=kr
theorem zjH:zaf EE.P 83 11=some 51:=kr
theorem zds:zaf EE.P 83 1=some 1:=kr
theorem zgU:zaf EE.P 83 7=some 27:=kr
theorem zmv:zaf EE.P 83 6=some 16:=kr
theorem zi8:zaf EE.P 73 2=some 2:=kr
theorem zqI:zaf EE.P 69 8=some 12:=kr
theorem zrt:zaf EE.P 69 6=some 10:=kr
theorem znc:zaf EE.P 125 1=some 1:=kr
theorem zm8:zaf EE.P 125 3=some 3:=kr
theorem zfk:zaf EE.P 125 0=some 0:=kr
theorem zjo:zaf EE.P 123 1=some 64:=kr
theorem znE:zaf EE.P 123 0=some 0:=kr
theorem zfo:zaf EE.P 216 0=some 0:=kr
theorem zjc:zaf EE.P 83 9=some 47:=kr
theorem znl:zaf EE.P 83 10=some 48:=kr
theorem zrX:zaf EE.P 69 2=some 6:=kr
theorem zjw:zaf EE.P 73 0=some 0:=kr
theorem zmH:zaf EE.P 73 1=some 1:=kr
theorem zpT:zaf EE.P 73 3=some 18:=kr
theorem zq5:zaf EE.P 83 4=some 4:=kr
theorem zeL:zaf EE.P 83 12=some 52:=kr
theorem zhx:zaf EE.P 83 2=some 2:=kr
theorem zeH:zaf EE.P 237 0=some 0:=kr
theorem zfM:zaf EE.P 237 1=some 1:=kr
theorem zgH:zaf EE.P 237 2=some 2:=kr
theorem ziR:zaf EE.P 216 1=some 1:=kr
theorem zjp:zaf EE.P 294 2=some 2:=kr
theorem znB:zaf EE.P 294 0=some 0:=kr
theorem zny:zaf EE.P 297 1=some 1:=kr
theorem znH:zaf EE.P 294 1=some 1:=kr
theorem zmZ:zaf EE.P 297 2=some 2:=kr
theorem zgC:zaf EE.P 237 3=some 3:=kr
theorem zw2:zaf EE.P 47 1=some 8:=kr
theorem zng:zaf EE.P 83 13=some 60:=kr
theorem zu0:zaf EE.P 343 3=some 3:=kr
theorem zuz:zaf EE.P 343 1=some 1:=kr
theorem zu8:zaf EE.P 343 2=some 2:=kr
theorem znd:zaf EE.P 297 0=some 0:=kr
theorem znS:zaf EE.P 125 2=some 2:=kr
theorem zt1:zaf EE.P 360 0=some 0:=kr
theorem zun:zaf EE.P 360 1=some 1:=kr
theorem zaQ:EE.P.underlying 3=some (.int .i64):=kr
theorem zzJ:EE.P.underlying 5=some (.int .u8):=kr
theorem zdK:EE.P.underlying 28=some (.int .i64):=kr
theorem zk4:EE.P.underlying 25=some (.slice 38):=kr
theorem zdN:EE.P.underlying 41=some (.slice 3):=kr
theorem zfJ:EE.P.underlying 43=some (.array 8 36):=kr
theorem zaJ:EE.P.underlying 36=some (.int .u32):=kr
theorem zDw:EE.P.underlying 4=some .bool:=kr
theorem zwR:EE.P.underlying 53=some (.slice 113):=kr
theorem zhj:EE.P.underlying 22=some (.slice 36):=kr
theorem zbt:EE.P.underlying 67=some (.slice 70):=kr
theorem zew:EE.P.underlying 70=some (.pointer 83):=kr
theorem ziF:EE.P.underlying 81=some (.array 64 80):=kr
theorem znf:EE.P.underlying 71=some (.array 16 36):=kr
theorem zAx:EE.P.underlying 27=some (.pointer 69):=kr
theorem zj4:EE.P.underlying 80=some (.pointer 125):=kr
theorem zbf:EE.P.underlying 127=some (.slice 5):=kr
theorem zs8:EE.P.underlying 121=some (.array 64 5):=kr
theorem zfH:EE.P.underlying 79=some (.array 8 78):=kr
theorem znN:EE.P.underlying 78=some (.pointer 294):=kr
theorem zep:EE.P.underlying 214=some (.array 3 36):=kr
theorem zDb:EE.P.underlying 45=some (.array 2 44):=kr
theorem zyv:EE.P.underlying 292=some (.int .u16):=kr
theorem zvX:EE.P.underlying 21=some (.int .i32):=kr
theorem zw3:EE.P.underlying 350=some (.int .i16):=kr
theorem zqU:EE.P.underlying 2=some (.int .i64):=kr
theorem zqX:EE.P.underlying 190=some (.slice 127):=kr
theorem zqP:EE.P.underlying 405=some (.slice 67):=kr
theorem zrQ:EE.P.underlying 361=some (.array 15 360):=kr
theorem zxu:EE.P.underlying 398=some (.array 23 335):=kr
theorem zxR:EE.P.underlying 344=some (.array 30 343):=kr
theorem zCW:EE.P.underlying 74=some (.pointer 297):=kr
theorem zhM:EE.P.underlying 401=some (.float .f64):=kr
theorem zHq:zab EE.P 13=true:=kr
theorem zIh:zab EE.P 7=true:=kr
theorem zId:zab EE.P 8=true:=kr
theorem zBD:zab EE.P 14=true:=kr
theorem zGs:zab EE.P 15=true:=kr
theorem zET:zab EE.P 17=true:=kr
theorem zG8:zab EE.P 19=true:=kr
theorem zGu:zab EE.P 20=true:=kr
theorem zE7:zab EE.P 21=true:=kr
theorem zGN:zab EE.P 22=true:=kr
theorem zFZ:zab EE.P 23=true:=kr
theorem zEG:zab EE.P 24=true:=kr
theorem zCo:zab EE.P 26=true:=kr
theorem zFy:zab EE.P 27=true:=kr
theorem zCM:zab EE.P 42=true:=kr
theorem zoL:zab EE.P 44=true:=kr
theorem zst:zab EE.P 48=true:=kr
theorem zFo:zab EE.P 31=true:=kr
theorem zG9:zab EE.P 34=true:=kr
theorem zBP:zab EE.P 50=true:=kr
theorem zxs:zab EE.P 45=true:=kr
theorem zwY:zab EE.P 51=true:=kr
theorem zyJ:zab EE.P 47=true:=kr
theorem zCm:zab EE.P 52=true:=kr
theorem zxx:zab EE.P 54=true:=kr
theorem zrs:zab EE.P 53=true:=kr
theorem zvf:zab EE.P 68=true:=kr
theorem zgx:zab EE.P 70=true:=kr
theorem zpf:zab EE.P 71=true:=kr
theorem zDP:zab EE.P 78=true:=kr
theorem zBT:zab EE.P 79=true:=kr
theorem zvt:zab EE.P 80=true:=kr
theorem zGm:zab EE.P 81=true:=kr
theorem zFI:zab EE.P 82=true:=kr
theorem zut:zab EE.P 83=true:=kr
theorem zEE:zab EE.P 85=true:=kr
theorem zGM:zab EE.P 86=true:=kr
theorem zf0:zab EE.P 87=true:=kr
theorem zyu:zab EE.P 88=true:=kr
theorem zwa:zab EE.P 103=true:=kr
theorem zqT:zab EE.P 102=true:=kr
theorem zAG:zab EE.P 104=true:=kr
theorem zkL:zab EE.P 118=true:=kr
theorem zCY:zab EE.P 119=true:=kr
theorem zAT:zab EE.P 120=true:=kr
theorem zBz:zab EE.P 121=true:=kr
theorem zwP:zab EE.P 122=true:=kr
theorem zDO:zab EE.P 124=true:=kr
theorem zDg:zab EE.P 125=true:=kr
theorem zBq:zab EE.P 126=true:=kr
theorem zCD:zab EE.P 127=true:=kr
theorem zA0:zab EE.P 128=true:=kr
theorem zBx:zab EE.P 129=true:=kr
theorem zAU:zab EE.P 130=true:=kr
theorem zAz:zab EE.P 131=true:=kr
theorem zBo:zab EE.P 132=true:=kr
theorem zAV:zab EE.P 133=true:=kr
theorem zwE:zab EE.P 134=true:=kr
theorem zB3:zab EE.P 135=true:=kr
theorem zvH:zab EE.P 150=true:=kr
theorem zAJ:zab EE.P 151=true:=kr
theorem zwO:zab EE.P 168=true:=kr
theorem zrU:zab EE.P 169=true:=kr
theorem zA7:zab EE.P 170=true:=kr
theorem zCt:zab EE.P 171=true:=kr
theorem zB1:zab EE.P 172=true:=kr
theorem zBh:zab EE.P 173=true:=kr
theorem zCP:zab EE.P 174=true:=kr
theorem zB0:zab EE.P 175=true:=kr
theorem zAs:zab EE.P 176=true:=kr
theorem zCx:zab EE.P 177=true:=kr
theorem zCB:zab EE.P 178=true:=kr
theorem zBH:zab EE.P 179=true:=kr
theorem zCT:zab EE.P 180=true:=kr
theorem zCs:zab EE.P 181=true:=kr
theorem zAA:zab EE.P 182=true:=kr
theorem zAv:zab EE.P 183=true:=kr
theorem zDC:zab EE.P 184=true:=kr
theorem zBl:zab EE.P 185=true:=kr
theorem zA8:zab EE.P 186=true:=kr
theorem zCg:zab EE.P 187=true:=kr
theorem zwC:zab EE.P 188=true:=kr
theorem zA4:zab EE.P 189=true:=kr
theorem zDJ:zab EE.P 190=true:=kr
theorem zDi:zab EE.P 191=true:=kr
theorem zC8:zab EE.P 192=true:=kr
theorem zDW:zab EE.P 213=true:=kr
theorem zC7:zab EE.P 214=true:=kr
theorem zBc:zab EE.P 223=true:=kr
theorem zB5:zab EE.P 166=true:=kr
theorem zqk:zab EE.P 227=true:=kr
theorem zwl:zab EE.P 228=true:=kr
theorem zv2:zab EE.P 230=true:=kr
theorem zv4:zab EE.P 229=true:=kr
theorem zCQ:zab EE.P 231=true:=kr
theorem zvV:zab EE.P 232=true:=kr
theorem zDf:zab EE.P 233=true:=kr
theorem zC3:zab EE.P 234=true:=kr
theorem zAD:zab EE.P 235=true:=kr
theorem zBj:zab EE.P 237=true:=kr
theorem zBN:zab EE.P 239=true:=kr
theorem zBU:zab EE.P 293=true:=kr
theorem zwD:zab EE.P 294=true:=kr
theorem zGn:zab EE.P 64=true:=kr
theorem zC1:zab EE.P 295=true:=kr
theorem zAy:zab EE.P 296=true:=kr
theorem zDd:zab EE.P 318=true:=kr
theorem zBm:zab EE.P 319=true:=kr
theorem zBS:zab EE.P 335=true:=kr
theorem zGT:ptT EE.P 27=true:=kr
theorem zG7:∀x y m,eqA EE.P .eql 27 x y (.pointer none) (.pointer none) m=some (.bool true):=λ_ _ _=>by kernel_rfl
theorem zGh:∀x y m,eqA EE.P .neq 27 x y (.pointer none) (.pointer none) m=some (.bool false):=λ_ _ _=>by kernel_rfl
theorem zh7:ptT EE.P 70=true:=kr
theorem ziQ:∀x y m,eqA EE.P .eql 70 x y (.pointer none) (.pointer none) m=some (.bool true):=λ_ _ _=>by kernel_rfl
theorem zi5:∀x y m,eqA EE.P .neq 70 x y (.pointer none) (.pointer none) m=some (.bool false):=λ_ _ _=>by kernel_rfl
theorem zzI:ptT EE.P 74=true:=kr
theorem zG3:∀x y m,eqA EE.P .eql 74 x y (.pointer none) (.pointer none) m=some (.bool true):=λ_ _ _=>by kernel_rfl
theorem zFE:∀x y m,eqA EE.P .neq 74 x y (.pointer none) (.pointer none) m=some (.bool false):=λ_ _ _=>by kernel_rfl
theorem zvg:ptT EE.P 78=true:=kr
theorem zu9:∀x y m,eqA EE.P .eql 78 x y (.pointer none) (.pointer none) m=some (.bool true):=λ_ _ _=>by kernel_rfl
theorem zum:∀x y m,eqA EE.P .neq 78 x y (.pointer none) (.pointer none) m=some (.bool false):=λ_ _ _=>by kernel_rfl
theorem zpD:ptT EE.P 80=true:=kr
theorem zre:∀x y m,eqA EE.P .eql 80 x y (.pointer none) (.pointer none) m=some (.bool true):=λ_ _ _=>by kernel_rfl
theorem zoz:∀x y m,eqA EE.P .neq 80 x y (.pointer none) (.pointer none) m=some (.bool false):=λ_ _ _=>by kernel_rfl
theorem zoD:slT EE.P 22=true:=kr
theorem zxO:slT EE.P 25=true:=kr
theorem zo1:slT EE.P 41=true:=kr
theorem zGQ:slT EE.P 53=true:=kr
theorem zfd:slT EE.P 67=true:=kr
theorem zft:slT EE.P 127=true:=kr
theorem zvK:slT EE.P 190=true:=kr
theorem zvQ:slT EE.P 405=true:=kr
def f17:zal:=⟨29,[.tmp 4, .tmp 5],cO Tryz.f17.body⟩
theorem zIu:zaG EE.P 17=some f17:=kr
theorem zFe:zab EE.P 46=true:=kr
end
end Go.Ab
namespace Go.Ab
noncomputable section
section
variable{P:Program}{E:Env}{n0:Nat}{rd:Option Nat}
section
variable{base i:Nat}{rest:List (Nat×SOp)}{L:List zb8}{t:List Value}{m:Mem}{K:KI}{ty rt:TypeId}{d:Tmp}
theorem zxF [zaM E]{dst:Option Tmp}{op:Op}{g:Tmp}{b:Bool}:XWi E base ((i,⟨dst,op,ty,some (g,b)⟩)::rest) L t m (Q:=K)=GDi (t.getD g undef) b (A:=⟨XWi E base ((i,⟨dst,op,ty,none⟩)::rest) L t m (Q:=K)⟩) (B:=⟨XWi E base rest L (zdP dst undef t) m (Q:=K)⟩):=zzq zaM.h
theorem zDe [zaM E]{a b c:Operand}:XWi E base ((i,⟨some d, .pick c a b,ty,none⟩)::rest) L t m (Q:=K)=okI (zqQ (ev c t) (ev a t) (ev b t)) (k:=⟨λv=>XWi E base rest L (t.set d v) m (Q:=K)⟩):=zDL zaM.h
theorem zF7 [zaM E]{op:BinOp}{yt:TypeId}{x y:Operand}(h:zd7 op=false):XWi E base ((i,⟨some d, .binOp op ty x y yt,rt,none⟩)::rest) L t m (Q:=K)=okI (zcG E.P op ty (ev x t) (ev y t)) (k:=⟨λv=>XWi E base rest L (t.set d v) m (Q:=K)⟩):=zFQ zaM.h h
theorem zGq [zaM E]{yt:TypeId}{x y:Operand}:XWi E base ((i,⟨some d, .binOp .eql ty x y yt,rt,none⟩)::rest) L t m (Q:=K)=okI (eqA E.P .eql ty x y (ev x t) (ev y t) m) (k:=⟨λv=>XWi E base rest L (t.set d v) m (Q:=K)⟩):=zHg zaM.h
theorem zGA [zaM E]{yt:TypeId}{x y:Operand}:XWi E base ((i,⟨some d, .binOp .neq ty x y yt,rt,none⟩)::rest) L t m (Q:=K)=okI (eqA E.P .neq ty x y (ev x t) (ev y t) m) (k:=⟨λv=>XWi E base rest L (t.set d v) m (Q:=K)⟩):=zG0 zaM.h
theorem zJm [zaM E]{op:UnOp}{x:Operand}:XWi E base ((i,⟨some d, .unOp op ty x,rt,none⟩)::rest) L t m (Q:=K)=okI (unV E.P op (ev x t)) (k:=⟨λv=>XWi E base rest L (t.set d v) m (Q:=K)⟩):=zIX zaM.h
theorem znZ [zaM E]{x:Operand}:XWi E base ((i,⟨some d, .nilCheck x,ty,none⟩)::rest) L t m (Q:=K)=okI (zwU E.P (ev x t)) (k:=⟨λv=>XWi E base rest L (t.set d v) m (Q:=K)⟩):=zoj zaM.h
theorem zyL [zaM E]{x:Operand}{f:Nat}:XWi E base ((i,⟨some d, .field ty x f,rt,none⟩)::rest) L t m (Q:=K)=okI (za9 E.P ⟨some d, .field ty x f,rt,none⟩ (ev · t)) (k:=⟨λv=>XWi E base rest L (t.set d v) m (Q:=K)⟩):=zyC zaM.h
theorem zq7 [zaM E]{x:Operand}{k:Nat}:XWi E base ((i,⟨some d, .extract x k,ty,none⟩)::rest) L t m (Q:=K)=okI (match ev x t with| .tuple vs=>vs[k]? |_=>none) (k:=⟨λv=>XWi E base rest L (t.set d v) m (Q:=K)⟩):=zs7 zaM.h
theorem zps [zaM E]{f:FuncId}{a c:Array Operand}:XWi E base ((i,⟨some d, .makeFunc (.func f) a c,ty,none⟩)::rest) L t m (Q:=K)=XWi E base rest L (t.set d (.func (.func f) (a.map (ev · t)) (c.map (ev · t)))) m (Q:=K):=zpi zaM.h
theorem zpC [zaM E]{nm:String}{a c:Array Operand}:XWi E base ((i,⟨some d, .makeFunc (.method nm) a c,ty,none⟩)::rest) L t m (Q:=K)=okI (zjZ nm (a.map (ev · t)).toList (c.map (ev · t)).toList) (k:=⟨λv=>XWi E base rest L (t.set d v) m (Q:=K)⟩):=zpy zaM.h
theorem zzU [zaM E]{ps:Array (Nat×Operand)}:XWi E base ((i,⟨some d, .build ty ps,rt,none⟩)::rest) L t m (Q:=K)=okI (zaT E.P ty (ps.toList.map λp=>(p.1,ev p.2 t))) (k:=⟨λv=>XWi E base rest L (t.set d v) m (Q:=K)⟩):=zzM zaM.h
theorem zxZ [zaM E]{x:Operand}{l h:Option Operand}:XWi E base ((i,⟨some d, .slice ty x l h none,rt,none⟩)::rest) L t m (Q:=K)=okI (zb5 E.P ty (ev x t) (l.map (ev · t)) (h.map (ev · t))) (k:=⟨λv=>XWi E base rest L (t.set d v) m (Q:=K)⟩):=zxB zaM.h
theorem zBV [zaM E]{a:Operand}:XWi E base ((i,⟨some d, .load ty a,rt,none⟩)::rest) L t m (Q:=K)=okI (zdo E.P ty (ev a t) m) (k:=⟨λv=>XWi E base rest L (t.set d v) m (Q:=K)⟩):=zAS zaM.h
theorem zvw [zaM E]{x k:Operand}{ok:Bool}:XWi E base ((i,⟨some d, .lookup ty x k ok,rt,none⟩)::rest) L t m (Q:=K)=okI (ze7 E.P ty (ev x t) (ev k t) ok m) (k:=⟨λv=>XWi E base rest L (t.set d v) m (Q:=K)⟩):=ztL zaM.h
theorem zsU [zaM E]{s e:TypeId}{x:Operand}:XWi E base ((i,⟨some d, .convert s e x,rt,none⟩)::rest) L t m (Q:=K)=okI (zbU E.P s e (ev x t) m) (k:=⟨λv=>XWi E base rest L (t.set d v) m (Q:=K)⟩):=zs4 zaM.h
theorem zEV [zaM E]{x:Operand}:XWi E base ((i,⟨some d, .call ⟨.builtin .len,#[x],#[ty]⟩,rt,none⟩)::rest) L t m (Q:=K)=okI (lenA E.P ty (ev x t) m) (k:=⟨λv=>XWi E base rest L (t.set d v) m (Q:=K)⟩):=zEX zaM.h
def zH6:Option Nat->Value->Option Value
 |some n,v=>zx3 v n
 |none,_=>none
theorem zqA{n:Nat}{v:Value}:zH6 (some n) v=zx3 v n:=rfl
theorem zlU [zaM E]{x:Operand}{f:Nat}:XWi E base ((i,⟨some d, .fieldAddr ty x f,rt,none⟩)::rest) L t m (Q:=K)=okI (zH6 (zaf E.P ty f) (ev x t)) (k:=⟨λv=>XWi E base rest L (t.set d v) m (Q:=K)⟩):=by
 cases h:zaf E.P ty f with
 |some off=>exact zl3 zaM.h h
 |none=>
  refine propext ?_;unfold XWi okI;rw[zbg rfl rfl,zaD zaM.h];have:za9 E.P ⟨some d, .fieldAddr ty x f,rt,none⟩ (ev · t)=none:=by
   simp only[za9];unfold zaf at h;split
   ·rename_i fs b o h1 h2;rw[h1] at h;simp only at h;split
    ·rename_i fl h3;rw[h3] at h;simp only at h;split
     ·rename_i n h4;rw[h4] at h;cases h
     ·rfl
    ·rfl
   ·rfl
  rw[this];exact Iff.rfl
def zBa(P:Program)(d:Option TypeDesc)(x i:Value):Option Value:=match d,x,i with
 |some (.array len e), .pointer (some ⟨b,o,none⟩), .int _ n=>if 0<=n∧n<len then match zbc P e with
   |some s=>some (ptr b (o+n.toNat*s))
   |none=>none
  else none
 |some (.slice e), .slice (some ⟨b,o,none⟩) len _, .int _ n=>if 0<=n∧n<len then match zbc P e with
   |some s=>some (ptr b (o+n.toNat*s))
   |none=>none
  else none
 |_,_,_=>none
theorem zmx [zaM E]{x y:Operand}:XWi E base ((i,⟨some d, .indexAddr ty x y,rt,none⟩)::rest) L t m (Q:=K)=okI (zBa E.P (E.P.underlying ty) (ev x t) (ev y t)) (k:=⟨λv=>XWi E base rest L (t.set d v) m (Q:=K)⟩):=zmD zaM.h
def zCE(b o:Nat)(n:Int):Option Nat->Option Value
 |some s=>some (.pointer (some ⟨b,o+n.toNat*s,none⟩))
 |none=>none
theorem zqS{b o s:Nat}{n:Int}:zCE b o n (some s)=some (.pointer (some ⟨b,o+n.toNat*s,none⟩)):=rfl
theorem zvD{e:TypeId}{len b o:Nat}{k:IntKind}{n:Int}(h1:0<=n)(h2:n<len):zBa P (some (.array len e)) (.pointer (some ⟨b,o,none⟩)) (.int k n)=zCE b o n (zbc P e):=by unfold zBa zCE;simp only[h1,h2,and_self,if_true]
theorem zxt{e:TypeId}{len c b o:Nat}{k:IntKind}{n:Int}(h1:0<=n)(h2:n<len):zBa P (some (.slice e)) (.slice (some ⟨b,o,none⟩) len c) (.int k n)=zCE b o n (zbc P e):=by unfold zBa zCE;simp only[h1,h2,and_self,if_true]
def ldG:Option (Option Nat)->Option zaS->Nat->Option Value
 |some none,o,n=>ld1 o n
 |some (some k),o,n=>ldN o n k
 |none,_,_=>none
theorem zFF{o:Option zaS}{n:Nat}:ldG (some none) o n=ld1 o n:=rfl
theorem zFS{o:Option zaS}{n k:Nat}:ldG (some (some k)) o n=ldN o n k:=rfl
theorem zFN{b o:Nat}:zdo P ty (.pointer (some ⟨b,o,none⟩)) m=ldG (lay P ty) (m.get b) o:=by
 cases h:lay P ty with
 |none=>
  unfold zdo;rw[h];show(match m.get b with|some (.cells cs _ _)=>_|_=>none)=none;cases m.get b with
  |none=>rfl
  |some x=>cases x<;>rfl
 |some l=>cases l with
  |none=>exact zFm h
  |some k=>exact zFq h
def stG:Option Nat->Option zaS->Nat->Nat->List Value->Mem->Option Mem
 |some k,o,b,n,l,m=>st1 o b n k l m
 |none,_,_,_,_,_=>none
theorem zuS{o:Option zaS}{b n k:Nat}{l:List Value}{m:Mem}:stG (some k) o b n l m=st1 o b n k l m:=rfl
theorem zCv{b o:Nat}{v:Value}:zcZ P ty (.pointer (some ⟨b,o,none⟩)) v m=stG (zbc P ty) (m.get b) b o v.cells.toList m:=by
 cases h:zbc P ty with
 |some n=>exact zCK h
 |none=>
  unfold zcZ;rw[h];show(match m.get b with|some (.cells cs true sz)=>_|_=>none)=none;cases m.get b with
  |none=>rfl
  |some x=>cases x with
   |cells c w z=>cases w<;>rfl
   |_=>rfl
theorem zk7{p:Option Addr}{n c:Nat}(h:slT P ty=true):lenA P ty (.slice p n c) m=some (.int .i64 n):=by
 unfold slT at h;split at h
 ·rename_i e hu;exact zfy hu
 ·cases h
theorem zhH(h:ptT P ty=true):∃e k,P.underlying ty=some (.pointer e)∧zbc P e=some (k+1):=by
 unfold ptT at h;split at h
 ·rename_i e hu;split at h
  ·rename_i k hk;exact⟨e,k,hu,hk⟩
  ·cases h
 ·cases h
theorem zwZ{x y:Operand}{p:Addr}(h:ptT P ty=true):eqA P .eql ty x y (.pointer (some p)) (.pointer none) m=some (.bool false):=by obtain⟨e,k,hu,_⟩:=zhH h;exact zoP hu
theorem zm1{x y:Operand}{p:Addr}(h:ptT P ty=true):eqA P .neq ty x y (.pointer (some p)) (.pointer none) m=some (.bool true):=by obtain⟨e,k,hu,_⟩:=zhH h;exact zmq hu
theorem zqZ{x y:Operand}{a b:Nat}{ca cb:Cells}{za zb:Nat}(h:ptT P ty=true)(ha:m.get a=some (.cells ca true za))(hb:m.get b=some (.cells cb true zb)):eqA P .eql ty x y (.pointer (some ⟨a,0,none⟩)) (.pointer (some ⟨b,0,none⟩)) m=some (.bool (decide (a=b))):=by
 obtain⟨e,k,hu,hz⟩:=zhH h;unfold eqA;rw[if_neg (by simp[plain,zaP]),hu];simp only[hz,ha,hb];by_cases e:a=b
 ·simp[e]
 ·simp[e]
theorem zw6{x y:Operand}{a b:Nat}{ca cb:Cells}{za zb:Nat}(h:ptT P ty=true)(ha:m.get a=some (.cells ca true za))(hb:m.get b=some (.cells cb true zb)):eqA P .neq ty x y (.pointer (some ⟨a,0,none⟩)) (.pointer (some ⟨b,0,none⟩)) m=some (.bool (!decide (a=b))):=by
 obtain⟨e,k,hu,hz⟩:=zhH h;unfold eqA;rw[if_neg (by simp[plain,zaP]),hu];simp only[hz,ha,hb];by_cases e:a=b
 ·simp[e]
 ·simp[e]
def zwH(P:Program)(ty:TypeId)(v:Value)(f:Nat):Option Value:=za9 P ⟨none, .field ty (.const v) f,0,none⟩ (λ_=>v)
theorem zty [zaM E]{x:Operand}{f:Nat}:XWi E base ((i,⟨some d, .field ty x f,rt,none⟩)::rest) L t m (Q:=K)=okI (zwH E.P ty (ev x t) f) (k:=⟨λv=>XWi E base rest L (t.set d v) m (Q:=K)⟩):=zyL
def paG:Option Nat->Option (Option Nat)->List Value->Nat->Option Value
 |some s,some none,l,k=>l[k*s]?
 |some s,some (some n),l,k=>some (.agg ((l.drop (k*s)).take n).toArray)
 |_,_,_,_=>none
theorem znY{l:List Value}{s k:Nat}:paG (some s) (some none) l k=l[k*s]? :=rfl
theorem zC9{l:List Value}{s n k:Nat}:paG (some s) (some (some n)) l k=some (.agg ((l.drop (k*s)).take n).toArray):=rfl
def ixV(P:Program)(ty:TypeId)(v w:Value):Option Value:=za9 P ⟨none, .index ty (.const v) (.const w),0,none⟩ (ev · [])
theorem zyh [zaM E]{x y:Operand}:XWi E base ((i,⟨some d, .index ty x y,rt,none⟩)::rest) L t m (Q:=K)=okI (ixV E.P ty (ev x t) (ev y t)) (k:=⟨λv=>XWi E base rest L (t.set d v) m (Q:=K)⟩):=by refine propext ?_;unfold XWi okI;rw[zbg rfl rfl,zaD zaM.h];rfl
theorem zf2{l:List Value}{n:Int}{k:IntKind}{len e:Nat}(hu:P.underlying ty=some (.array len e))(h1:0<=n)(h2:n<len):ixV P ty (.agg l.toArray) (.int k n)=paG (zbc P e) (lay P e) l n.toNat:=by
 unfold ixV;simp only[za9,ev,hu,h1,h2,and_self,if_true];cases zbc P e with
 |none=>unfold paG;rfl
 |some s=>
  unfold paG ziU;simp only;cases lay P e with
  |none=>rfl
  |some o=>cases o with
   |none=>simp
   |some w=>simp only;congr 2;simp[List.extract_eq_take_drop]
theorem ztg{k:Nat}{v:Value}:zdP (some k) v t=t.set k v:=rfl
theorem zsS{v:Value}:zdP none v t=t:=rfl
theorem zvC [zaM E]{h:List (Nat×Option Mem)}{ys:List (Nat×SOp×List Nat×Bool)}{kp:Bool}{e:Nat}{l:List Nat}{dst:Option Tmp}{op:Op}{g:Tmp}{b:Bool}:YWi E base ((i,⟨dst,op,ty,some (g,b)⟩,e::l,kp)::ys) h L t m (Q:=K)=
  GDi (t.getD g undef) b (A:=⟨YWi E base ((i,⟨dst,op,ty,none⟩,e::l,kp)::ys) h L t m (Q:=K)⟩) (B:=⟨YWi E base ys ((i,zfU kp m)::h) L (zdP dst undef t) m (Q:=K)⟩):=zyf zaM.h
theorem zuX [zaM E]{dst:Option Tmp}{g:Option (Tmp×Bool)}{a:Operand}:zck E ⟨dst, .load ty a,rt,g⟩ (ev · t) m=zdo E.P ty (ev a t) m:=zzT zaM.h
theorem zxY [zaM E]{dst:Option Tmp}{g:Option (Tmp×Bool)}{x:Operand}{t:List Value}{m:Mem}{ty rt:TypeId}:zck E ⟨dst, .call ⟨.builtin .len,#[x],#[ty]⟩,rt,g⟩ (ev · t) m=lenA E.P ty (ev x t) m:=zDs zaM.h
theorem zkv:zd7 .lss=false:=rfl
theorem zq0:zd7 .leq=false:=rfl
theorem zs9:zd7 .gtr=false:=rfl
theorem zkf:zd7 .geq=false:=rfl
theorem zsG:zd7 .add=false:=rfl
theorem zsR:zd7 .sub=false:=rfl
theorem zqj:zd7 .mul=false:=rfl
theorem zpL:zd7 .rem=false:=rfl
theorem zrk:zd7 .quo=false:=rfl
theorem zrI:zd7 .and=false:=rfl
theorem zuK:zd7 .or=false:=rfl
theorem zry:zd7 .xor=false:=rfl
theorem zlc:zd7 .andNot=false:=rfl
theorem zth:zd7 .shl=false:=rfl
theorem zqO:zd7 .shr=false:=rfl
end
def XX:=aI @zI1<|aI @zIC<|aI @zEM<|aI @zx8<|aI @zDT<|aI @zGl<|aI @zDz<|aI @zBO<|aI @zz6<|aI @zzc<|aI @zkZ<|aI @zsP<|aI @zoU<|aI @zjg<|aI @zn4<|aI @zl2<|aI @ziY<|aI @zn8<|aI @zmp<|aI @zFP<|aI @zGR<|aI @Y_0<|aI @zJc<|aI @zF3<|aI @zyF<|aI @zzb<|aI @zoq<|aI @zCi<|aI @ztJ<|aI @zyO<|aI @zGB<|aI @zpN<|aI @zxG<|aI @zuk<|aI @zwB<|aI @zvh<|aI @zzD<|aI @zpQ<|aI @zG6<|aI @zoZ<|aI @zc4<|aI @zgL<|aI @zHj<|aI @zEJ<|aI @zCk<|aI @zDQ<|aI @zCp<|aI @zDn<|aI @zGz<|aI @bN<|aI @nP<|aI @zoW<|aI @zu1<|aI @zmf<|aI @fXr<|aI @fXn<|aI @ztH<|aI @zuV<|aI @zpM<|aI @zBB<|aI @zDo<|aI @zBb<|aI @zfl<|aI @zbp<|aI @ztD<|aI @zuD<|aI @zp3<|aI @zn6<|aI @gB<|aI @zIn<|aI @zzA<|aI @zgV<|aI @zsK<|aI @zdL<|aI @zsH<|aI @zru<|aI @zqs<|aI @zbW<|aI @zap<|aI @zrO<|aI @zrM<|aI @zoJ<|aI @zrR<|aI @zlQ<|aI @zyR<|aI @zz0<|aI @zsz<|aI @zxD<|aI @zsB<|aI @zEQ<|aI @zxk<|aI @zxT<|aI @zyi<|aI @zyr<|aI @zzQ<|aI @zBK<|aI @zoF<|aI @zh4<|aI @zh2<|aI @zlu<|aI @zlj<|aI @Mem.get_kill<|aI @Mem.next_kill<|aI @zrN<|aI @zCR<|aI @zxo<|aI @zyt<|aI @zzK<|aI @zyb<|aI @zzO<|aI @zxw<|aI @zx1<|aI @zA1<|aI @zw7<|aI @zay<|aI @zak<|aI @zbN<|aI @za7<|aI @gP<|aI @zxF<|aI @zDe<|aI @zF7<|aI @zGq<|aI @zGA<|aI @zJm<|aI @znZ<|aI @zty<|aI @zyh<|aI @znY<|aI @zC9<|aI @zq7<|aI @zps<|aI @zpC<|aI @zxV<|aI @zsg<|aI @zEo<|aI @zhQ<|aI @zzU<|aI @zxZ<|aI @zBV<|aI @zvw<|aI @zsU<|aI @zEV<|aI @zvC<|aI @zuX<|aI @zxY<|aI @zlU<|aI @zmx<|aI @zFN<|aI @zFF<|aI @zFS<|aI @zCv<|aI @zuS<|aI @zqA<|aI @zvD<|aI @zxt<|aI @zk7<|aI @zwZ<|aI @zm1<|aI @zqZ<|aI @zw6<|aI @ztg<|aI @zsS<|aI @zkv<|aI @zq0<|aI @zs9<|aI @zkf<|aI @zsG<|aI @zsR<|aI @zqj<|aI @zpL<|aI @zrk<|aI @zrI<|aI @zuK<|aI @zry<|aI @zlc<|aI @zth<|aI @zqO<| @zqS
theorem ztq{h:Decidable True}: @decide True h=true:=by cases h with|isTrue _=>rfl|isFalse h=>exact absurd trivial h
theorem zrG{h:Decidable False}: @decide False h=false:=by cases h with|isTrue h=>exact h.elim|isFalse _=>rfl
def XY:=aI @if_true.{1}<|aI @if_false.{1}<|aI @true_and<|aI @and_true<|aI @and_self<|aI @not_true_eq_false<|aI @not_false_eq_true<|aI @or_self<|aI @or_false<|aI @false_or<|aI @or_true<|aI @true_or<|aI @lR'<|aI @Nat.le_add_right<|aI @Nat.add_assoc<|aI @Nat.zero_add<|aI @Nat.add_zero<|aI @Nat.left_eq_add<|aI @Nat.add_eq_left<|aI @Nat.add_left_cancel_iff<|aI @Nat.add_le_add_iff_left<|aI @Nat.one_mul<|aI @Nat.mul_one<|aI @Nat.one_ne_zero<|aI @bF<|aI @Bool.true_eq_false<|aI @Bool.not_true<|aI @Bool.not_false<|aI @Bool.and_self<|aI @Option.map_some.{0,0}<|aI @Option.map_none.{0,0}<|aI @Option.bind_some.{0,0}<|aI @Option.getD_some.{0}<|aI @Option.isSome_some.{0}<|aI @List.length_cons.{0}<|aI @List.length_nil.{0}<|aI @List.length_append.{0}<|aI @List.all_cons.{0}<|aI @List.all_nil.{0}<|aI @List.map_cons.{0,0}<|aI @List.map_nil.{0,0}<|aI @List.getElem?_cons_zero.{0}<|aI @List.getElem?_cons_succ.{0}<|aI @List.getElem?_toArray.{0}<|aI @List.toList_toArray.{0}<|aI @List.nil_append.{0}<|aI @List.append_nil.{0}<|aI @List.singleton_append.{0}<|aI @List.cons_append.{0}<|aI @List.map_toArray.{0,0}<|aI @List.drop_zero.{0}<|aI @List.take_succ_cons.{0}<|aI @List.take_zero.{0}<|aI @List.drop_succ_cons.{0}<|aI @List.take_nil.{0}<|aI @Array.toList_map.{0,0}<|aI @Int.toNat_natCast<|aI @beq_self_eq_true.{0}<|aI @zhW.eq_1<|aI @zhW.eq_2<|aI @oneCell.eq_def<|aI @ztq<| @zrG
end
end
end Go.Ab
namespace Go.Ab
open Go.Proofs
noncomputable section
def F7:=aI f7.eq_1<|aI (aQ Tryz.f7.body)<|aI za0<|aI zwQ<|aI zcN<|aI zAo<|aI zyy<|aI zbR<|aI zgb<|aI zg1<|aI zqm<|aI zk4<|aI zhj<|aI zxO<|zoD
def F21:=aI f21.eq_1<|aI (aQ Tryz.f21.body)<|aI zgr<|aI zpI<|aI zmo<|zst
def F22:=aI f22.eq_1<|aI (aQ Tryz.f22.body)<|zCM
def F46:=aI f46.eq_1<|aI (aQ Tryz.f46.body)<|aI zee<|aI ziH<|aI zbe<|aI zgv<|aI zpu<|aI zbR<|aI zdU<|aI zjv<|aI zgU<|aI ze1<|aI zmv<|aI zi8<|aI zdT<|aI zeV<|aI zaQ<|aI zaJ<|aI znf<|aI zfJ<|aI zDP<|aI zBT<|aI zvt<|aI zGm<|zFI
def F48:=aI f48.eq_1<|aI (aQ Tryz.f48.body)<|aI za0<|aI zcN<|aI zrt<|aI zAx<|aI zaQ<|aI zGT<|aI zG7<|zGh
def F79:=aI f79.eq_1<|aI (aQ Tryz.f79.body)<|aI zeb<|aI zcL<|aI za0<|aI zbe<|aI zrg<|aI zfm<|aI zgr<|aI zc3<|aI zeQ<|aI zcN<|aI zbR<|aI zy7<|aI zjJ<|aI zpI<|aI zwr<|aI zb2<|aI zhs<|aI zq5<|aI zeL<|aI zds<|aI zmo<|aI zhx<|aI zfH<|aI znN<|aI zaQ<|aI zvt<|aI zpf<|aI zBz<|aI zwP<|aI zvf<|aI zDO<|aI zwY<|aI zvg<|aI zu9<|zum
def F82:=aI f82.eq_1<|aI (aQ Tryz.f82.body)<|aI zwv<|aI zjG<|aI zsF<|aI za0<|aI zBA<|aI zni<|aI zwu<|aI zcN<|aI zgF<|aI ztK<|aI ze1<|aI zdT<|aI ziR<|aI zfo<|aI zaQ<|aI zwa<|aI zf0<|aI zAU<|aI zAz<|aI zBo<|zAV
def F83:=aI f83.eq_1<|aI (aQ Tryz.f83.body)<|aI zeb<|aI zc3<|aI zbt<|zfd
def F86:=aI f86.eq_1<|aI (aQ Tryz.f86.body)<|aI zee<|aI zgv<|aI zdU<|zDP
def zzR:=aI f101.eq_1<|aI (aQ Tryz.f101.body)<|aI zcL<|aI zfw<|aI zeb<|aI zzd<|aI zeQ<|aI zji<|aI zc3<|aI zCL<|aI zfZ<|aI zbt<|aI zqT<|zfd
def zIw:=aI f118.eq_1<|aI (aQ Tryz.f118.body)<|aI zbe<|aI zbR<|aI zjw<|aI zmH<|aI zi8<|aI zaJ<|znf
def zox:=aI f132.eq_1<|aI (aQ Tryz.f132.body)<|aI zcL<|aI zbe<|aI zrh<|aI za0<|aI zfw<|aI zeb<|aI zeQ<|aI zbR<|aI zxp<|aI zcN<|aI zji<|aI zc3<|aI zqV<|aI zb2<|aI zcv<|aI znl<|aI zrX<|aI zep<|aI zaQ<|aI zaJ<|aI zbt<|aI zCg<|aI zwC<|aI zf0<|aI zqT<|aI zgx<|aI zpf<|zfd
def zD3:=aI f151.eq_1<|aI (aQ Tryz.f151.body)<|aI za0<|aI zjG<|aI zbe<|aI zcN<|aI zni<|aI zbR<|aI zgF<|aI zfo<|aI ziR<|aI zep<|zC7
def zH8:=aI f171.eq_1<|aI (aQ Tryz.f171.body)<|aI zvX<|aI zaJ<|aI zqU<|zqk
def zIT:=aI f214.eq_1<|aQ Tryz.f214.body
def zH3:=aI f227.eq_1<|aI (aQ Tryz.f227.body)<|aI zhM<|zBU
def zHR:=aI f228.eq_1<|aI (aQ Tryz.f228.body)<|aI zqU<|aI zhM<|zwD
def zxi:=aI f232.eq_1<|aI (aQ Tryz.f232.body)<|aI zpH<|aI zaJ<|aI zaQ<|aI zbf<|aI zGn<|zft
def F17:=aI f17.eq_1<|aI (aQ Tryz.f17.body)<|aI za0<|aI zcN<|aI zcv<|aI zdK<|aI zew<|aI zaQ<|aI zxs<|aI zoL<|aI zFe<|aI zyJ<|aI zh7<|aI ziQ<|zi5
def F19:=aI f19.eq_1<|aI (aQ Tryz.f19.body)<|aI zwk<|aI za0<|aI zfw<|aI zBJ<|aI zcN<|aI zji<|aI zc3<|aI zqv<|aI ze5<|aI zgb<|aI zjN<|aI zg1<|aI zfZ<|aI zlB<|aI zmh<|aI zbt<|aI zst<|zfd
def F20:=aI f20.eq_1<|aI (aQ Tryz.f20.body)<|aI za0<|aI zBF<|aI zcN<|aI zyy<|aI zsD<|aI zqi<|aI zyE<|aI zk4<|aI zaQ<|aI zBD<|aI zFo<|aI zET<|aI zG9<|aI zEG<|zxO
def F42:=aI f42.eq_1<|aI (aQ Tryz.f42.body)<|aI zCb<|aI za0<|aI zF9<|aI zcN<|aI zx4<|aI zds<|aI zdN<|aI zst<|aI zvf<|zo1
def F70:=aI f70.eq_1<|aI (aQ Tryz.f70.body)<|aI zwv<|aI zjG<|aI zbe<|aI za0<|aI zBA<|aI zni<|aI zbR<|aI zcN<|aI zgF<|aI ze1<|aI zdT<|aI zeV<|aI zfo<|aI zfJ<|aI zwa<|zvt
def F84:=aI f84.eq_1<|aI (aQ Tryz.f84.body)<|aI za0<|aI zcN<|aI zds<|zaQ
def zJo:=aI f105.eq_1<|aI (aQ Tryz.f105.body)<|aI zeb<|aI zc3<|aI zew<|aI zh7<|aI ziQ<|zi5
def zAg:=aI f125.eq_1<|aI (aQ Tryz.f125.body)<|aI zbe<|aI zmn<|aI zbR<|aI zp4<|aI zjQ<|aI zeV<|aI zaJ<|aI zdK<|zA7
def zti:=aI f128.eq_1<|aI (aQ Tryz.f128.body)<|aI za0<|aI zbe<|aI zwg<|aI zcN<|aI zbR<|aI zCq<|aI zeH<|aI zfM<|aI zgH<|aI zdT<|aI zw2<|aI zaQ<|aI zfJ<|aI zDb<|aI zCt<|aI zB1<|aI zBh<|aI zCP<|zB0
def zHh:=aI f135.eq_1<|aI (aQ Tryz.f135.body)<|aI zaJ<|aI zaQ<|zC8
def zJi:=aI f150.eq_1<|aI (aQ Tryz.f150.body)<|zDW
def zFf:=aI f169.eq_1<|aI (aQ Tryz.f169.body)<|aI zvf<|zpf
def zHp:=aI f170.eq_1<|aI (aQ Tryz.f170.body)<|aI zmn<|aI zp4<|aI zjQ<|aI zaQ<|aI zaJ<|aI zw3<|aI zdK<|zB5
def zHk:=aI f174.eq_1<|aI (aQ Tryz.f174.body)<|aI zv2<|zv4
def zHK:=aI f176.eq_1<|aQ Tryz.f176.body
def zzy:=aI f179.eq_1<|aI (aQ Tryz.f179.body)<|aI zcL<|aI za0<|aI zfm<|aI zeQ<|aI zcN<|aI zjJ<|aI zbR<|aI zb2<|aI zlB<|aI zmh<|aI zeL<|aI zdN<|aI zaQ<|aI zaJ<|aI zhj<|aI zfH<|aI zf0<|aI zxx<|aI zrs<|aI zgx<|aI zo1<|zoD
def zwI:=aI f180.eq_1<|aI (aQ Tryz.f180.body)<|aI zlw<|aI za0<|aI zir<|aI zcL<|aI zsC<|aI zcN<|aI zoi<|aI zeQ<|aI zpH<|aI znd<|aI zmZ<|aI zcv<|aI zjc<|aI zb2<|aI zbf<|aI zaQ<|aI zaJ<|aI zf0<|aI zrs<|aI zCQ<|aI zrU<|aI zgx<|zft
def zEa:=aI f186.eq_1<|aI (aQ Tryz.f186.body)<|aI zee<|aI zgr<|aI zgv<|aI zpI<|aI zdU<|aI zpT<|aI zdK<|zkL
def zEe:=aI f192.eq_1<|aI (aQ Tryz.f192.body)<|aI zyS<|aI zqE<|aI za0<|aI zEP<|aI zBg<|aI zwh<|aI zcN<|aI zIB<|aI zuq<|aI zt1<|aI zun<|aI zrQ<|zaQ
def zD6:=aI f235.eq_1<|aI (aQ Tryz.f235.body)<|aI zDr<|aI zin<|aI zll<|aI za0<|aI zgr<|aI zzj<|aI zEp<|aI zow<|aI zsX<|aI zcN<|aI zpI<|aI zAl<|aI zuE<|aI zfj<|aI zfk<|aI zjo<|aI zm8<|aI znc<|aI znS<|aI ziF<|aI zj4<|aI zpD<|aI zre<|zoz
def zAK:=aI f284.eq_1<|aI (aQ Tryz.f284.body)<|aI zsF<|aI zbe<|aI za0<|aI zwu<|aI zbR<|aI zcN<|aI ziR<|aI zfo<|aI zep<|zvH
def zH2:=aI f333.eq_1<|aI (aQ Tryz.f333.body)<|aI zwg<|zCq
def F23:=aI f23.eq_1<|aI (aQ Tryz.f23.body)<|aI za0<|aI zcN<|aI zhs<|aI zcv<|aI zew<|aI zBP<|aI zh7<|aI ziQ<|zi5
def F26:=aI f26.eq_1<|aI (aQ Tryz.f26.body)<|aI zcL<|aI za0<|aI zin<|aI zeQ<|aI zcN<|aI zow<|aI zb2<|aI ze5<|aI zgb<|aI zjN<|aI zfj<|aI zaQ<|aI zaJ<|aI ziF<|zCm
def F27:=aI f27.eq_1<|aI (aQ Tryz.f27.body)<|aI zbR<|aI zhj<|aI zaQ<|aI zxx<|aI zrs<|zoD
def F45:=aI f45.eq_1<|aI (aQ Tryz.f45.body)<|aI zgr<|aI zpI<|aI zmo<|zst
def F64:=aI f64.eq_1<|aI (aQ Tryz.f64.body)<|aI zll<|aI zyW<|aI zsX<|aI zpH<|aI zfk<|aI znE<|aI zj4<|aI zs8<|aI zyu<|aI zpD<|aI zre<|zoz
def F69:=aI f69.eq_1<|aI (aQ Tryz.f69.body)<|aI za0<|aI zcN<|aI zcv<|zaQ
def F71:=aI f71.eq_1<|aI (aQ Tryz.f71.body)<|aI zeb<|aI za0<|aI zir<|aI zrh<|aI zbe<|aI zcL<|aI zfw<|aI zc3<|aI zcN<|aI zoi<|aI zxp<|aI zbR<|aI zeQ<|aI zji<|aI zcv<|aI zjc<|aI znl<|aI zjH<|aI zb2<|aI zrX<|aI zqT<|zAG
def F80:=aI f80.eq_1<|aI (aQ Tryz.f80.body)<|aI zcL<|aI zwN<|aI za0<|aI zeQ<|aI zB9<|aI zcN<|aI zCj<|aI zb2<|aI zqI<|aI zds<|aI zwR<|zGQ
def zuC:=aI f104.eq_1<|aI (aQ Tryz.f104.body)<|aI zeb<|aI zc3<|aI zaQ<|aI zbt<|aI zut<|zfd
def zIj:=aI f119.eq_1<|aQ Tryz.f119.body
def zIU:=aI f120.eq_1<|aI (aQ Tryz.f120.body)<|aI zbe<|aI zbR<|aI zi8<|aI znf<|aI zaQ<|zaJ
def ztj:=aI f126.eq_1<|aI (aQ Tryz.f126.body)<|aI za0<|aI zbe<|aI zcN<|aI zbR<|aI zgH<|aI zdT<|aI zgC<|aI zeH<|aI zfM<|aI zfJ<|aI zaJ<|aI zaQ<|zzJ
def zvP:=aI f131.eq_1<|aI (aQ Tryz.f131.body)<|aI zbe<|aI zee<|aI ziH<|aI zbR<|aI zgv<|aI zpu<|aI zdU<|aI zgU<|aI zmv<|aI ze1<|aI zep<|aI zaJ<|aI zaQ<|aI zdK<|aI zAA<|aI zAv<|aI zDC<|aI zBl<|aI zA8<|zf0
def zGX:=aI f168.eq_1<|aI (aQ Tryz.f168.body)<|aI zin<|aI zll<|aI za0<|aI zcL<|aI zow<|aI zsX<|aI zcN<|aI zeQ<|aI zfj<|aI zfk<|aI zjo<|aI zb2<|aI zjN<|aI ziF<|aI zj4<|aI zaQ<|aI zpD<|aI zre<|zoz
def zHV:=aI f175.eq_1<|aI (aQ Tryz.f175.body)<|aI zwl<|zqk
def zHS:=aI f177.eq_1<|aI (aQ Tryz.f177.body)<|aI zfm<|aI zjJ<|aI zeL<|zfH
def zrC:=aI f190.eq_1<|aI (aQ Tryz.f190.body)<|aI zeb<|aI zcL<|aI zfw<|aI za0<|aI zbe<|aI zc3<|aI zeQ<|aI zji<|aI zcN<|aI zbR<|aI zb2<|aI zfZ<|aI zcv<|aI zq5<|aI zds<|aI zbt<|aI zaJ<|aI zhj<|aI zaQ<|aI zqP<|aI zut<|aI zBj<|aI zf0<|aI zxx<|aI zrs<|aI zBN<|aI zgx<|aI zfd<|aI zoD<|zvQ
def zHv:=aI f226.eq_1<|aI (aQ Tryz.f226.body)<|aI za0<|aI zir<|aI zcN<|aI zoi<|aI zcv<|aI zjc<|aI zaQ<|aI zCW<|aI zzI<|aI zG3<|zFE
def zIm:=aI f234.eq_1<|aI (aQ Tryz.f234.body)<|aI zbe<|aI zee<|aI zbR<|aI zgv<|aI zdU<|zjw
def zE8:=aI f293.eq_1<|aI (aQ Tryz.f293.body)<|aI zhM<|zqU
def F44:=aI f44.eq_1<|aI (aQ Tryz.f44.body)<|aI za0<|aI zcN<|aI zhs<|aI zew<|aI zaQ<|aI zBP<|aI zh7<|aI ziQ<|zi5
def F47:=aI f47.eq_1<|aI (aQ Tryz.f47.body)<|aI zwN<|aI zB9<|zqI
def F68:=aI f68.eq_1<|aQ Tryz.f68.body
def F85:=aI f85.eq_1<|aI (aQ Tryz.f85.body)<|aI zee<|aI zbe<|aI zgv<|aI zbR<|aI zdU<|aI zjw<|aI zdK<|aI zkL<|zwE
def zJq:=aI f123.eq_1<|aI (aQ Tryz.f123.body)<|aI za0<|aI zeb<|aI zcN<|aI zc3<|aI zhx<|aI zds<|zaQ
def zD4:=aI f124.eq_1<|aI (aQ Tryz.f124.body)<|aI za0<|aI zcN<|aI zcv<|aI zew<|aI zaQ<|aI zoL<|aI zpf<|aI zh7<|aI ziQ<|zi5
def zlp:=aI f129.eq_1<|aI (aQ Tryz.f129.body)<|aI za0<|aI zcN<|aI zeH<|aI zgC<|aI zaQ<|aI zaJ<|aI zyv<|aI zvX<|zAs
def zof:=aI f130.eq_1<|aI (aQ Tryz.f130.body)<|aI zbe<|aI zgr<|aI zir<|aI zfm<|aI zcL<|aI za0<|aI zbR<|aI zpI<|aI zoi<|aI zjJ<|aI zeQ<|aI zcN<|aI znH<|aI znB<|aI zeL<|aI zb2<|aI zjp<|aI zep<|aI zaQ<|aI znN<|aI zfH<|aI zdN<|aI zaJ<|aI zCx<|aI zCB<|aI zBH<|aI zCT<|aI zCs<|aI zgx<|aI zwP<|aI zf0<|aI zvg<|aI zu9<|aI zum<|zo1
def zEc:=aI f166.eq_1<|aI (aQ Tryz.f166.body)<|aI za0<|aI zsv<|aI zgr<|aI zcN<|aI zvF<|aI zpI<|aI znA<|aI zeH<|aI zgC<|aI zu0<|aI zfM<|aI zuz<|aI zgH<|aI zu8<|aI zaQ<|zBc
def zDq:=aI f178.eq_1<|aI (aQ Tryz.f178.body)<|aI zrg<|aI zfm<|aI zy7<|aI zjJ<|aI zcN<|aI zeL<|aI zfH<|aI znN<|aI zdN<|aI zvg<|aI zu9<|aI zum<|zo1
def zuU:=aI f181.eq_1<|aI (aQ Tryz.f181.body)<|aI zcL<|aI za0<|aI zlw<|aI zir<|aI zeQ<|aI zcN<|aI zsC<|aI zoi<|aI zpH<|aI zb2<|aI ze5<|aI zp2<|aI znd<|aI zny<|aI zcv<|aI zjc<|aI zbf<|aI zaQ<|aI zaJ<|aI zqX<|aI zf0<|aI zvV<|aI zDf<|aI zrU<|aI zgx<|aI zft<|zvK
def zAc:=aI f182.eq_1<|aI (aQ Tryz.f182.body)<|aI zcL<|aI zeQ<|aI zb2<|aI zew<|aI zaQ<|aI zaJ<|aI zf0<|aI zoL<|aI zgx<|aI zwY<|aI zh7<|aI ziQ<|zi5
def zD1:=aI f183.eq_1<|aI (aQ Tryz.f183.body)<|aI zee<|aI zbe<|aI zgv<|aI zbR<|aI zdU<|aI zmH<|aI zdK<|aI zaJ<|zkL
def zHE:=aI f184.eq_1<|aI (aQ Tryz.f184.body)<|aI zee<|aI zgv<|aI zgU<|aI zdK<|aI zf0<|zgx
def zHH:=aI f230.eq_1<|aI (aQ Tryz.f230.body)<|zwD
def zH5:=aI f231.eq_1<|aI (aQ Tryz.f231.body)<|aI zpH<|aI zbf<|zft
def zHu:=aI f236.eq_1<|aI (aQ Tryz.f236.body)<|aI za0<|aI zeb<|aI zcN<|aI zc3<|aI zhx<|aI zds<|aI zhs<|zaQ
def ztn:=aI f239.eq_1<|aI (aQ Tryz.f239.body)<|aI zfw<|aI zji<|aI zc3<|aI zqP<|aI zbt<|aI zAy<|aI zvQ<|zfd
def zAC:=aI f294.eq_1<|aI (aQ Tryz.f294.body)<|aI zgr<|aI zpI<|aI zwr<|aI zhM<|aI zDd<|zBm
def zIe:=aI f318.eq_1<|aQ Tryz.f318.body
def F8:=aI f8.eq_1<|aI (aQ Tryz.f8.body)<|aI zwQ<|aI za0<|aI zwe<|aI zbe<|aI zfw<|aI zAo<|aI zcN<|aI zAL<|aI zbR<|aI zji<|aI zc3<|aI zqm<|aI zsO<|aI zgb<|aI zg1<|aI zp2<|aI ze5<|aI zfZ<|aI zhj<|aI zaJ<|aI zaQ<|aI zbt<|aI zCo<|aI zFy<|aI zoD<|zfd
def F14:=aI f14.eq_1<|aI (aQ Tryz.f14.body)<|zCM
def F24:=aI f24.eq_1<|aI (aQ Tryz.f24.body)<|aI zdK<|aI zew<|aI zxs<|aI zoL<|aI zwY<|aI zyJ<|aI zh7<|aI ziQ<|zi5
def F31:=aI f31.eq_1<|aI (aQ Tryz.f31.body)<|aI za0<|aI zcN<|aI zsD<|aI zqi<|aI zyx<|aI zaQ<|aI zdN<|zo1
def F43:=aI f43.eq_1<|aI (aQ Tryz.f43.body)<|aI za0<|aI zcN<|aI zhs<|aI zcv<|zaQ
def F49:=aI f49.eq_1<|aQ Tryz.f49.body
def F50:=aI f50.eq_1<|aI (aQ Tryz.f50.body)<|aI zfw<|aI zeb<|aI zji<|aI zc3<|aI zfZ<|aI zbt<|aI zst<|aI zut<|zfd
def F52:=aI f52.eq_1<|aI (aQ Tryz.f52.body)<|aI zin<|aI zow<|aI zfj<|aI ziF<|aI zj4<|aI zDw<|aI zpD<|aI zre<|zoz
def F53:=aI f53.eq_1<|aI (aQ Tryz.f53.body)<|aI zgr<|aI zll<|aI za0<|aI zcL<|aI zyW<|aI zxj<|aI zpI<|aI zsX<|aI zcN<|aI zeQ<|aI zpH<|aI zAt<|aI znc<|aI zm8<|aI zfk<|aI zjo<|aI zb2<|aI ze5<|aI zgb<|aI zjN<|aI znE<|aI zbf<|aI zaJ<|aI zaQ<|aI zj4<|aI zs8<|aI zyu<|aI zpD<|aI zre<|aI zoz<|zft
def F88:=aI f88.eq_1<|aI (aQ Tryz.f88.body)<|aI zin<|aI zow<|aI zfj<|ziF
def zD7:=aI f103.eq_1<|aI (aQ Tryz.f103.body)<|aI zbe<|aI zjG<|aI za0<|aI zbR<|aI zni<|aI zcN<|aI zgF<|aI zfo<|aI zfJ<|aI zaQ<|aI zaJ<|aI zep<|aI zvH<|zAJ
def zrV:=aI f122.eq_1<|aI (aQ Tryz.f122.body)<|aI za0<|aI zir<|aI zgr<|aI zcN<|aI zoi<|aI zpI<|aI zjp<|aI zlB<|aI znB<|aI zny<|aI znH<|aI zmZ<|aI zmh<|aI zaQ<|zrU
def zvL:=aI f127.eq_1<|aI (aQ Tryz.f127.body)<|aI zbe<|aI za0<|aI zbR<|aI zcN<|aI zeV<|aI zgC<|aI zfM<|aI zdT<|aI zeH<|aI zaJ<|aI zaQ<|zfJ
def zIS:=aI f134.eq_1<|aQ Tryz.f134.body
def zvE:=aI f189.eq_1<|aI (aQ Tryz.f189.body)<|aI zcL<|aI zfw<|aI za0<|aI ziH<|aI zee<|aI zrg<|aI zbe<|aI zfm<|aI zeQ<|aI zji<|aI zcN<|aI zpu<|aI zgv<|aI zy7<|aI zbR<|aI zjJ<|aI zc3<|aI zb2<|aI zfZ<|aI ze5<|aI zg1<|aI zrt<|aI zds<|aI ze1<|aI zmv<|aI zgU<|aI zeL<|aI zng<|aI zjp<|aI zdT<|aI zeV<|aI zbt<|aI zfH<|aI znN<|aI zfJ<|aI zaJ<|aI zaQ<|aI zf0<|aI zC3<|aI zAD<|aI zgx<|aI zvg<|aI zu9<|aI zum<|zfd
def zG1:=aI f213.eq_1<|aI (aQ Tryz.f213.body)<|aI zxm<|aI zAM<|aI zug<|zxu
def zHy:=aI f223.eq_1<|aI (aQ Tryz.f223.body)<|aI zsv<|aI zvF<|aI znA<|zxR
def zJp:=aI f229.eq_1<|aI (aQ Tryz.f229.body)<|aI zqU<|aI zhM<|zqk
def ztk:=aI f233.eq_1<|aI (aQ Tryz.f233.body)<|aI zlw<|aI zsC<|aI zpH<|aI zqX<|aI zbf<|aI zC1<|aI zvK<|zft
def zI6:=aI f370.eq_1<|aI (aQ Tryz.f370.body)<|aI zpH<|aI zbf<|aI zaQ<|aI zrs<|zft
def F5:=aI f5.eq_1<|aI (aQ Tryz.f5.body)<|aI zwe<|aI zwk<|aI za0<|aI ziH<|aI zAL<|aI zBJ<|aI zcN<|aI zpu<|aI zyy<|aI zqv<|aI zjv<|aI zyj<|aI zg1<|aI zy0<|aI zgb<|aI zym<|aI zxv<|aI zdK<|aI zk4<|aI zdN<|aI zaQ<|aI zDw<|aI zHq<|aI zIh<|aI zId<|aI zGu<|aI zE7<|aI zGN<|aI zBD<|aI zG8<|aI zFZ<|aI zGs<|aI zxO<|zo1
def F15:=aI f15.eq_1<|aI (aQ Tryz.f15.body)<|aI ziH<|aI zpu<|aI zjv<|aI ze1<|aI zew<|aI zoL<|aI zh7<|aI ziQ<|zi5
def F34:=aI f34.eq_1<|aI (aQ Tryz.f34.body)<|aI zbe<|aI zbR<|aI zjH<|aI zdK<|aI zaJ<|aI zxs<|aI zvf<|aI zgx<|aI zpf<|zyJ
def F51:=aI f51.eq_1<|aI (aQ Tryz.f51.body)<|aI zee<|aI za0<|aI zgv<|aI zcN<|aI zgU<|aI zcv<|aI zew<|aI zaQ<|aI zoL<|aI zEE<|aI zGM<|aI zf0<|aI zpf<|aI zh7<|aI ziQ<|zi5
def F54:=aI f54.eq_1<|aI (aQ Tryz.f54.body)<|aI zbe<|aI zbR<|aI zpH<|aI zhj<|aI zzJ<|aI zaJ<|aI zbf<|aI zoD<|zft
def F78:=aI f78.eq_1<|aI (aQ Tryz.f78.body)<|aI zee<|aI za0<|aI zbe<|aI zgr<|aI zgv<|aI zcN<|aI zbR<|aI zpI<|aI zBi<|aI zdU<|aI zjw<|aI zmH<|aI zpT<|aI zdK<|aI zaQ<|aI zkL<|aI zCY<|zAT
def F81:=aI f81.eq_1<|aI (aQ Tryz.f81.body)<|aI ziH<|aI zmn<|aI za0<|aI zbe<|aI zpu<|aI zp4<|aI zcN<|aI zbR<|aI zjv<|aI zjQ<|aI zeH<|aI zeV<|aI zfM<|aI zdT<|aI zgH<|aI zaQ<|aI zfJ<|aI zDg<|aI zBq<|aI zCD<|aI zA0<|zBx
def F87:=aI f87.eq_1<|aI (aQ Tryz.f87.body)<|aI zB3<|zgx
def zHZ:=aI f102.eq_1<|aI (aQ Tryz.f102.body)<|aI zc3<|aI zbt<|zfd
def zD5:=aI f121.eq_1<|aI (aQ Tryz.f121.body)<|zwO
def zlb:=aI f133.eq_1<|aI (aQ Tryz.f133.body)<|aI zbe<|aI za0<|aI zcL<|aI zbR<|aI zcN<|aI zeQ<|aI zds<|aI zhx<|aI zcv<|aI zjH<|aI zb2<|aI ze5<|aI zsO<|aI zng<|aI ze1<|aI zdT<|aI zeV<|aI zaQ<|aI zep<|aI zaJ<|aI zfJ<|aI zBT<|aI zA4<|aI zDJ<|aI zgx<|aI zCo<|aI zf0<|aI zDi<|zvt
def zAh:=aI f167.eq_1<|aI (aQ Tryz.f167.body)<|aI zbe<|aI zbR<|zaJ
def zHQ:=aI f172.eq_1<|aI (aQ Tryz.f172.body)<|aI zaJ<|aI zqU<|zwl
def zGD:=aI f173.eq_1<|aI (aQ Tryz.f173.body)<|aI zv2<|zv4
def zAd:=aI f185.eq_1<|aI (aQ Tryz.f185.body)<|aI zee<|aI zbe<|aI zgv<|aI zbR<|aI zdU<|aI zi8<|aI zdK<|aI zaQ<|aI znf<|aI zkL<|zwE
def zwW:=aI f187.eq_1<|aI (aQ Tryz.f187.body)<|aI zrh<|aI zgr<|aI zll<|aI zxp<|aI zpI<|aI zsX<|aI zqV<|aI znS<|aI zfk<|aI zaJ<|aI zwC<|zyu
def zED:=aI f188.eq_1<|aI (aQ Tryz.f188.body)<|aI zyW<|aI zpH<|aI zaQ<|aI zbf<|aI zaJ<|aI zzJ<|aI zvV<|zft
def zAa:=aI f191.eq_1<|aI (aQ Tryz.f191.body)<|aI zaQ<|aI zaJ<|aI zCm<|zwO
def zIs:=aI f237.eq_1<|aI (aQ Tryz.f237.body)<|zut
def zIV:=aI f238.eq_1<|aI (aQ Tryz.f238.body)<|aI za0<|aI zeb<|aI zcN<|aI zc3<|aI zhx<|aI zds<|zaQ
def zJj:=aI f319.eq_1<|aI (aQ Tryz.f319.body)<|zBS
abbrev Um(x:BitVec 32):Value:= .int .u32 (x.toNat:Int)
abbrev By(x:BitVec 8):Value:= .int .u8 (x.toNat:Int)
def pV:Option Nat->Value
 |none=> .pointer none
 |some b=>PT b
theorem zaa{cs:Cells}{o k:Nat}{l:List Value}(h:k<o∨o+l.length<=k):(cs.write o l).nth k=cs.nth k:=by
 unfold Cells.nth;rw[zap];split
 ·rw[zbA,if_neg (by omega)]
 ·rfl
theorem zaj{cs:Cells}{o k n:Nat}{l:List Value}(h:k+n<=o∨o+l.length<=k):(cs.write o l).sub k n=cs.sub k n:=by
 unfold Cells.sub;rw[zap];split
 ·congr 1;have:∀n k,(k+n<=o∨o+l.length<=k)->(cs.write o l).seg k n=cs.seg k n:=by
   intro n
   induction n with
   |zero=>intro k _;rfl
   |succ n ih=>intro k hk;show(cs.write o l).get k::(cs.write o l).seg (k+1) n=cs.get k::cs.seg (k+1) n;rw[zbA,if_neg (by omega),ih (k+1) (by omega)]
  exact this n k h
 ·rfl
theorem nwl{cs:Cells}{r:Option Value}{o k:Nat}{l:List Value}(g:cs.nth k=r)(h:k<o:=by exact Nat.le_of_ble_eq_true rfl):(cs.write o l).nth k=r:=(zaa (.inl h)).trans g
theorem nwr{cs:Cells}{r:Option Value}{o k:Nat}{l:List Value}(g:cs.nth k=r)(h:o+l.length<=k:=by exact Nat.le_of_ble_eq_true rfl):(cs.write o l).nth k=r:=(zaa (.inr h)).trans g
theorem swl{cs:Cells}{r:Option (List Value)}{o k n:Nat}{l:List Value}(g:cs.sub k n=r)(h:k+n<=o:=by exact Nat.le_of_ble_eq_true rfl):(cs.write o l).sub k n=r:=(zaj (.inl h)).trans g
theorem swr{cs:Cells}{r:Option (List Value)}{o k n:Nat}{l:List Value}(g:cs.sub k n=r)(h:o+l.length<=k:=by exact Nat.le_of_ble_eq_true rfl):(cs.write o l).sub k n=r:=(zaj (.inr h)).trans g
theorem zl7{cs:Cells}{o n:Nat}{l:List Value}(h:cs.sub o n=some l):l.length=n:=by
 unfold Cells.sub at h;split at h
 ·cases h;have:∀n k,(cs.seg k n).length=n:=by
   intro n
   induction n with
   |zero=>intro k;rfl
   |succ n ih=>intro k;show(cs.seg (k+1) n).length+1=n+1;rw[ih]
  exact this n o
 ·cases h
theorem znn{cs:Cells}{o n:Nat}{l:List Value}(h:cs.sub o n=some l):o+n<=cs.n:=by
 unfold Cells.sub at h;split at h
 ·assumption
 ·cases h
theorem zcw{cs:Cells}{o n k:Nat}{l:List Value}(h:cs.sub o n=some l)(hk:k<n):cs.nth (o+k)=l[k]? :=by have h1:=zeY h hk;have h2:=znn h;have h3:=zl7 h;rw[zbV (by omega),h1,gD',gE' (by omega)];rfl
theorem zfY{cs:Cells}{o n:Nat}{l:List Value}(hl:l.length=n)(hn:o+n<=cs.n)(h:∀k,k<n->cs.get (o+k)=l.getD k undef):cs.sub o n=some l:=by
 unfold Cells.sub;rw[if_pos hn];congr 1;have:∀(n k:Nat) (l:List Value),l.length=n->(∀j,j<n->cs.get (k+j)=l.getD j undef)->cs.seg k n=l:=by
  intro n
  induction n with
  |zero=>intro k l hl _;rw[List.length_eq_zero_iff.1 hl];rfl
  |succ n ih=>
   intro k l hl hg;cases l with
   |nil=>cases hl
   |cons a l=>show cs.get k::cs.seg (k+1) n=a::l;rw[ih (k+1) l (by simpa using hl) (λj hj=>by have:=hg (j+1) (by omega);rw[show k+1+j=k+(j+1) by omega,this];rfl)];have:=hg 0 (by omega);simp at this;rw[this]
 exact this n o l hl h
theorem zaU{cs:Cells}{o n k:Nat}{l:List Value}{v:Value}(h:cs.sub o n=some l)(hk:k<n):(cs.write (o+k) [v]).sub o n=some (l.set k v):=by
 have h2:=znn h;have h3:=zl7 h;refine zfY (by rw[sL,h3]) (by rw[zap];exact h2) λj hj=>?_;rw[zbA,gD' (l:=l.set k v),List.getElem?_set];by_cases e:k=j
 ·subst e;rw[if_pos (by simp),if_pos rfl,if_pos (by omega)];simp
 ·rw[if_neg (by simp;omega),if_neg e,zeY h hj,gD']
theorem zx9{cs:Cells}{o n k j:Nat}{l:List Value}(h:cs.sub o n=some l)(hk:k+j<=n):cs.sub (o+k) j=some ((l.drop k).take j):=by have h2:=znn h;have h3:=zl7 h;refine zfY (by rw[List.length_take,List.length_drop];omega) (by omega) λi hi=>?_;have:=zeY h (i:=k+i) (by omega);rw[show o+k+i=o+(k+i) by omega,this,gD',gD',List.getElem?_take_of_lt hi,List.getElem?_drop]
structure Cpu where
 r:List (BitVec 32)
 z:List (Int×Int)
 pc:BitVec 32
structure Sg where
 pend:BitVec 32
 mask:BitVec 32
 h:List (BitVec 32)
 busy:Bool
structure zk0 where
 c:Nat
 write:Bool
 shared:Bool
 cow:Bool
structure znq where
 b:List (BitVec 8)
 refs:Int
structure zpG where
 b:List (BitVec 8)
 readers:Int
 writers:Int
structure zfi where
 p:Nat
 write:Bool
 refs:Int
structure Fut where
 c:Option Nat
 p:Option Nat
 a:BitVec 32
structure zb9 where
 pid:Int
 parent:Int
 state:Int
 status:BitVec 32
 cpu:Cpu
 saved:Cpu
 sig:Sg
 wait:Int
 pipe:Option Nat
 fut:Fut
 left:BitVec 32
 fds:List (Option Nat)
 aff:BitVec 32
 pages:List (Option Nat)
structure zk2 where
 pid:Int
 kind:Int
 call:Int
 v:BitVec 32
structure St where
 cores:Int
 frames:Int
 procs:Int
 cap:Int
 l:List Nat
 fut:List Nat
 contents:Int
 files:Int
 pipes:Int
 next:Int
 halted:Bool
 seen:List zk2
 P:List zb9
 G:List zk0
 C:List znq
 I:List zpG
 F:List zfi
def Zin(z:Int×Int):Prop:=(-524288<=z.1∧z.1<524288)∧(-524288<=z.2∧z.2<524288)
def Cpu.ok0(c:Cpu):Prop:=c.r.length=8∧c.z.length=2
def Cpu.ok(c:Cpu):Prop:=c.r.length=8∧(c.z.length=2∧∀k,k<2->Zin (c.z.getD k (0,0)))
theorem Cpu.ok.o{c:Cpu}(h:c.ok):c.ok0:=⟨h.1,h.2.1⟩
def zov:Cpu:=⟨List.replicate 8 0#32,[(0,0),(0,0)],0#32⟩
theorem zf9:zov.ok:=⟨rfl,rfl,λk hk=>by
 rcases k with _|_|k
 ·exact⟨⟨by decide,by decide⟩,⟨by decide,by decide⟩⟩
 ·exact⟨⟨by decide,by decide⟩,⟨by decide,by decide⟩⟩
 ·omega⟩
def zbh:zb9:=⟨0,0,0,0#32,zov,zov,⟨0#32,0#32,List.replicate 16 0#32,false⟩,0,none,⟨none,none,0#32⟩,0#32,List.replicate 8 none,0#32,List.replicate 64 none⟩
def zd2:zk0:=⟨0,false,false,false⟩
def zfa:znq:=⟨List.replicate 64 0#8,0⟩
def pipe0:zpG:=⟨[],0,0⟩
def zaE:zfi:=⟨0,false,0⟩
abbrev St.p(X:St)(i:Nat):zb9:=X.P.getD i zbh
abbrev St.g(X:St)(i:Nat):zk0:=X.G.getD i zd2
abbrev St.c(X:St)(i:Nat):znq:=X.C.getD i zfa
abbrev St.i(X:St)(i:Nat):zpG:=X.I.getD i pipe0
abbrev St.x(X:St)(i:Nat):zfi:=X.F.getD i zaE
structure Loc where
 f:Nat
 P:List Nat
 G:List Nat
 C:List Nat
 I:List Nat
 F:List Nat
 lv:Value
 fv:Value
 sv:Value
 gv:Value
 bv:List Value
 D:Nat->Prop
abbrev Loc.p(L:Loc)(i:Nat):Nat:=L.P.getD i 0
abbrev Loc.g(L:Loc)(i:Nat):Nat:=L.G.getD i 0
abbrev Loc.c(L:Loc)(i:Nat):Nat:=L.C.getD i 0
abbrev Loc.i(L:Loc)(i:Nat):Nat:=L.I.getD i 0
abbrev Loc.x(L:Loc)(i:Nat):Nat:=L.F.getD i 0
abbrev zDH(n:Int):Nat:=FloatKind.f64.nearest n
def zV(z:Int×Int):Value:= .complex .f64 (zDH z.1) (zDH z.2)
def zbm(c:Cpu):List Value:=c.r.map Um++c.z.map zV++ [Um c.pc]
def sgL(s:Sg):List Value:=[Um s.pend,Um s.mask]++s.h.map Um++ [.bool s.busy]
def zhS(L:Loc)(x:Fut):List Value:=[pV (x.c.map L.c),pV (x.p.map L.p),Um x.a]
def zpm(s:zk2):List Value:=[In s.pid,In s.kind,In s.call,Um s.v]
structure PC(L:Loc)(r:zb9)(cs:Cells):Prop where
 n:cs.n=125
 f:cs.nth 0=some (PT L.f)
 pid:cs.nth 1=some (In r.pid)
 parent:cs.nth 2=some (In r.parent)
 state:cs.nth 3=some (In r.state)
 status:cs.nth 4=some (Um r.status)
 cpu:cs.sub 5 11=some (zbm r.cpu)
 saved:cs.sub 16 11=some (zbm r.saved)
 sig:cs.sub 27 19=some (sgL r.sig)
 wait:cs.nth 46=some (In r.wait)
 pipe:cs.nth 47=some (pV (r.pipe.map L.i))
 fut:cs.sub 48 3=some (zhS L r.fut)
 left:cs.nth 51=some (Um r.left)
 fds:cs.sub 52 8=some (r.fds.map λx=>pV (x.map L.x))
 aff:cs.nth 60=some (Um r.aff)
 pages:cs.sub 61 64=some (r.pages.map λx=>pV (x.map L.g))
 okc:r.cpu.ok
 oks:r.saved.ok
 okh:r.sig.h.length=16
theorem PC.w_parent{L:Loc}{r:zb9}{cs:Cells}(h:PC L r cs){x:Int}:PC L {r with parent:=x} (cs.write 2 ([In x])):=⟨by rw[zap,h.n],nwl h.f,nwl h.pid,zak (by rw[h.n];decide),nwr h.state,nwr h.status,swr h.cpu,swr h.saved,swr h.sig,nwr h.wait,nwr h.pipe,swr h.fut,nwr h.left,swr h.fds,nwr h.aff,swr h.pages,h.okc,h.oks,h.okh⟩
theorem PC.w_state{L:Loc}{r:zb9}{cs:Cells}(h:PC L r cs){x:Int}:PC L {r with state:=x} (cs.write 3 ([In x])):=⟨by rw[zap,h.n],nwl h.f,nwl h.pid,nwl h.parent,zak (by rw[h.n];decide),nwr h.status,swr h.cpu,swr h.saved,swr h.sig,nwr h.wait,nwr h.pipe,swr h.fut,nwr h.left,swr h.fds,nwr h.aff,swr h.pages,h.okc,h.oks,h.okh⟩
theorem PC.w_status{L:Loc}{r:zb9}{cs:Cells}(h:PC L r cs){x:BitVec 32}:PC L {r with status:=x} (cs.write 4 ([Um x])):=⟨by rw[zap,h.n],nwl h.f,nwl h.pid,nwl h.parent,nwl h.state,zak (by rw[h.n];decide),swr h.cpu,swr h.saved,swr h.sig,nwr h.wait,nwr h.pipe,swr h.fut,nwr h.left,swr h.fds,nwr h.aff,swr h.pages,h.okc,h.oks,h.okh⟩
theorem PC.w_cpu{L:Loc}{r:zb9}{cs:Cells}(h:PC L r cs){x:Cpu}(hl:(zbm x).length=11)(hx:x.ok):PC L {r with cpu:=x} (cs.write 5 (zbm x)):=⟨by rw[zap,h.n],nwl h.f,nwl h.pid,nwl h.parent,nwl h.state,nwl h.status,zay hl (by rw[h.n];decide),(zaj (.inr (by rw[hl];decide))).trans h.saved,(zaj (.inr (by rw[hl];decide))).trans h.sig,(zaa (.inr (by rw[hl];decide))).trans h.wait,(zaa (.inr (by rw[hl];decide))).trans h.pipe,(zaj (.inr (by rw[hl];decide))).trans h.fut,(zaa (.inr (by rw[hl];decide))).trans h.left,(zaj (.inr (by rw[hl];decide))).trans h.fds,(zaa (.inr (by rw[hl];decide))).trans h.aff,(zaj (.inr (by rw[hl];decide))).trans h.pages,hx,h.oks,h.okh⟩
theorem PC.w_saved{L:Loc}{r:zb9}{cs:Cells}(h:PC L r cs){x:Cpu}(hl:(zbm x).length=11)(hx:x.ok):PC L {r with saved:=x} (cs.write 16 (zbm x)):=⟨by rw[zap,h.n],nwl h.f,nwl h.pid,nwl h.parent,nwl h.state,nwl h.status,swl h.cpu,zay hl (by rw[h.n];decide),(zaj (.inr (by rw[hl];decide))).trans h.sig,(zaa (.inr (by rw[hl];decide))).trans h.wait,(zaa (.inr (by rw[hl];decide))).trans h.pipe,(zaj (.inr (by rw[hl];decide))).trans h.fut,(zaa (.inr (by rw[hl];decide))).trans h.left,(zaj (.inr (by rw[hl];decide))).trans h.fds,(zaa (.inr (by rw[hl];decide))).trans h.aff,(zaj (.inr (by rw[hl];decide))).trans h.pages,h.okc,hx,h.okh⟩
theorem PC.w_sig{L:Loc}{r:zb9}{cs:Cells}(h:PC L r cs){x:Sg}(hl:(sgL x).length=19)(hx:x.h.length=16):PC L {r with sig:=x} (cs.write 27 (sgL x)):=⟨by rw[zap,h.n],nwl h.f,nwl h.pid,nwl h.parent,nwl h.state,nwl h.status,swl h.cpu,swl h.saved,zay hl (by rw[h.n];decide),(zaa (.inr (by rw[hl];decide))).trans h.wait,(zaa (.inr (by rw[hl];decide))).trans h.pipe,(zaj (.inr (by rw[hl];decide))).trans h.fut,(zaa (.inr (by rw[hl];decide))).trans h.left,(zaj (.inr (by rw[hl];decide))).trans h.fds,(zaa (.inr (by rw[hl];decide))).trans h.aff,(zaj (.inr (by rw[hl];decide))).trans h.pages,h.okc,h.oks,hx⟩
theorem PC.w_wait{L:Loc}{r:zb9}{cs:Cells}(h:PC L r cs){x:Int}:PC L {r with wait:=x} (cs.write 46 ([In x])):=⟨by rw[zap,h.n],nwl h.f,nwl h.pid,nwl h.parent,nwl h.state,nwl h.status,swl h.cpu,swl h.saved,swl h.sig,zak (by rw[h.n];decide),nwr h.pipe,swr h.fut,nwr h.left,swr h.fds,nwr h.aff,swr h.pages,h.okc,h.oks,h.okh⟩
theorem PC.w_pipe{L:Loc}{r:zb9}{cs:Cells}(h:PC L r cs){x:Option Nat}:PC L {r with pipe:=x} (cs.write 47 ([pV (x.map L.i)])):=⟨by rw[zap,h.n],nwl h.f,nwl h.pid,nwl h.parent,nwl h.state,nwl h.status,swl h.cpu,swl h.saved,swl h.sig,nwl h.wait,zak (by rw[h.n];decide),swr h.fut,nwr h.left,swr h.fds,nwr h.aff,swr h.pages,h.okc,h.oks,h.okh⟩
theorem PC.w_fut{L:Loc}{r:zb9}{cs:Cells}(h:PC L r cs){x:Fut}(hl:(zhS L x).length=3):PC L {r with fut:=x} (cs.write 48 (zhS L x)):=⟨by rw[zap,h.n],nwl h.f,nwl h.pid,nwl h.parent,nwl h.state,nwl h.status,swl h.cpu,swl h.saved,swl h.sig,nwl h.wait,nwl h.pipe,zay hl (by rw[h.n];decide),(zaa (.inr (by rw[hl];decide))).trans h.left,(zaj (.inr (by rw[hl];decide))).trans h.fds,(zaa (.inr (by rw[hl];decide))).trans h.aff,(zaj (.inr (by rw[hl];decide))).trans h.pages,h.okc,h.oks,h.okh⟩
theorem PC.w_left{L:Loc}{r:zb9}{cs:Cells}(h:PC L r cs){x:BitVec 32}:PC L {r with left:=x} (cs.write 51 ([Um x])):=⟨by rw[zap,h.n],nwl h.f,nwl h.pid,nwl h.parent,nwl h.state,nwl h.status,swl h.cpu,swl h.saved,swl h.sig,nwl h.wait,nwl h.pipe,swl h.fut,zak (by rw[h.n];decide),swr h.fds,nwr h.aff,swr h.pages,h.okc,h.oks,h.okh⟩
theorem PC.w_aff{L:Loc}{r:zb9}{cs:Cells}(h:PC L r cs){x:BitVec 32}:PC L {r with aff:=x} (cs.write 60 ([Um x])):=⟨by rw[zap,h.n],nwl h.f,nwl h.pid,nwl h.parent,nwl h.state,nwl h.status,swl h.cpu,swl h.saved,swl h.sig,nwl h.wait,nwl h.pipe,swl h.fut,nwl h.left,swl h.fds,zak (by rw[h.n];decide),swr h.pages,h.okc,h.oks,h.okh⟩
theorem PC.w1_cpu{L:Loc}{r:zb9}{cs:Cells}(h:PC L r cs){k:Nat}(hk:k<11){v:Value}{x:Cpu}(e:(zbm r.cpu).set k v=zbm x)(hx:x.ok):PC L {r with cpu:=x} (cs.write (5+k) [v]):=⟨by rw[zap,h.n],(zaa (.inl (by omega))).trans h.f,(zaa (.inl (by omega))).trans h.pid,(zaa (.inl (by omega))).trans h.parent,(zaa (.inl (by omega))).trans h.state,(zaa (.inl (by omega))).trans h.status,by rw[zaU h.cpu hk,e],(zaj (.inr (by simp only[List.length_cons,List.length_nil];omega))).trans h.saved,(zaj (.inr (by simp only[List.length_cons,List.length_nil];omega))).trans h.sig,(zaa (.inr (by simp only[List.length_cons,List.length_nil];omega))).trans h.wait,(zaa (.inr (by simp only[List.length_cons,List.length_nil];omega))).trans h.pipe,(zaj (.inr (by simp only[List.length_cons,List.length_nil];omega))).trans h.fut,(zaa (.inr (by simp only[List.length_cons,List.length_nil];omega))).trans h.left,(zaj (.inr (by simp only[List.length_cons,List.length_nil];omega))).trans h.fds,(zaa (.inr (by simp only[List.length_cons,List.length_nil];omega))).trans h.aff,(zaj (.inr (by simp only[List.length_cons,List.length_nil];omega))).trans h.pages,hx,h.oks,h.okh⟩
theorem PC.w1_fds{L:Loc}{r:zb9}{cs:Cells}(h:PC L r cs){k:Nat}(hk:k<8){v:Value}{x:List (Option Nat)}(e:(r.fds.map λx=>pV (x.map L.x)).set k v=x.map λx=>pV (x.map L.x)):PC L {r with fds:=x} (cs.write (52+k) [v]):=⟨by rw[zap,h.n],(zaa (.inl (by omega))).trans h.f,(zaa (.inl (by omega))).trans h.pid,(zaa (.inl (by omega))).trans h.parent,(zaa (.inl (by omega))).trans h.state,(zaa (.inl (by omega))).trans h.status,(zaj (.inl (by omega))).trans h.cpu,(zaj (.inl (by omega))).trans h.saved,(zaj (.inl (by omega))).trans h.sig,(zaa (.inl (by omega))).trans h.wait,(zaa (.inl (by omega))).trans h.pipe,(zaj (.inl (by omega))).trans h.fut,(zaa (.inl (by omega))).trans h.left,by rw[zaU h.fds hk,e],(zaa (.inr (by simp only[List.length_cons,List.length_nil];omega))).trans h.aff,(zaj (.inr (by simp only[List.length_cons,List.length_nil];omega))).trans h.pages,h.okc,h.oks,h.okh⟩
theorem PC.w1_pages{L:Loc}{r:zb9}{cs:Cells}(h:PC L r cs){k:Nat}(hk:k<64){v:Value}{x:List (Option Nat)}(e:(r.pages.map λx=>pV (x.map L.g)).set k v=x.map λx=>pV (x.map L.g)):PC L {r with pages:=x} (cs.write (61+k) [v]):=⟨by rw[zap,h.n],(zaa (.inl (by omega))).trans h.f,(zaa (.inl (by omega))).trans h.pid,(zaa (.inl (by omega))).trans h.parent,(zaa (.inl (by omega))).trans h.state,(zaa (.inl (by omega))).trans h.status,(zaj (.inl (by omega))).trans h.cpu,(zaj (.inl (by omega))).trans h.saved,(zaj (.inl (by omega))).trans h.sig,(zaa (.inl (by omega))).trans h.wait,(zaa (.inl (by omega))).trans h.pipe,(zaj (.inl (by omega))).trans h.fut,(zaa (.inl (by omega))).trans h.left,(zaj (.inl (by omega))).trans h.fds,(zaa (.inl (by omega))).trans h.aff,by rw[zaU h.pages hk,e],h.okc,h.oks,h.okh⟩
structure FC(L:Loc)(r:St)(cs:Cells):Prop where
 n:cs.n=13
 cores:cs.nth 0=some (In r.cores)
 frames:cs.nth 1=some (In r.frames)
 procs:cs.nth 2=some (In r.procs)
 cap:cs.nth 3=some (In r.cap)
 prog:cs.nth 4=some (L.gv)
 lv:cs.nth 5=some (L.lv)
 fv:cs.nth 6=some (L.fv)
 contents:cs.nth 7=some (In r.contents)
 files:cs.nth 8=some (In r.files)
 pipes:cs.nth 9=some (In r.pipes)
 next:cs.nth 10=some (In r.next)
 halted:cs.nth 11=some (.bool r.halted)
 sv:cs.nth 12=some (L.sv)
theorem FC.w_contents{L:Loc}{r:St}{cs:Cells}(h:FC L r cs){x:Int}:FC L {r with contents:=x} (cs.write 7 ([In x])):=⟨by rw[zap,h.n],nwl h.cores,nwl h.frames,nwl h.procs,nwl h.cap,nwl h.prog,nwl h.lv,nwl h.fv,zak (by rw[h.n];decide),nwr h.files,nwr h.pipes,nwr h.next,nwr h.halted,nwr h.sv⟩
theorem FC.w_files{L:Loc}{r:St}{cs:Cells}(h:FC L r cs){x:Int}:FC L {r with files:=x} (cs.write 8 ([In x])):=⟨by rw[zap,h.n],nwl h.cores,nwl h.frames,nwl h.procs,nwl h.cap,nwl h.prog,nwl h.lv,nwl h.fv,nwl h.contents,zak (by rw[h.n];decide),nwr h.pipes,nwr h.next,nwr h.halted,nwr h.sv⟩
theorem FC.w_pipes{L:Loc}{r:St}{cs:Cells}(h:FC L r cs){x:Int}:FC L {r with pipes:=x} (cs.write 9 ([In x])):=⟨by rw[zap,h.n],nwl h.cores,nwl h.frames,nwl h.procs,nwl h.cap,nwl h.prog,nwl h.lv,nwl h.fv,nwl h.contents,nwl h.files,zak (by rw[h.n];decide),nwr h.next,nwr h.halted,nwr h.sv⟩
theorem FC.w_next{L:Loc}{r:St}{cs:Cells}(h:FC L r cs){x:Int}:FC L {r with next:=x} (cs.write 10 ([In x])):=⟨by rw[zap,h.n],nwl h.cores,nwl h.frames,nwl h.procs,nwl h.cap,nwl h.prog,nwl h.lv,nwl h.fv,nwl h.contents,nwl h.files,nwl h.pipes,zak (by rw[h.n];decide),nwr h.halted,nwr h.sv⟩
theorem FC.w_halted{L:Loc}{r:St}{cs:Cells}(h:FC L r cs){x:Bool}:FC L {r with halted:=x} (cs.write 11 ([.bool x])):=⟨by rw[zap,h.n],nwl h.cores,nwl h.frames,nwl h.procs,nwl h.cap,nwl h.prog,nwl h.lv,nwl h.fv,nwl h.contents,nwl h.files,nwl h.pipes,nwl h.next,zak (by rw[h.n];decide),nwr h.sv⟩
structure GC(L:Loc)(r:zk0)(cs:Cells):Prop where
 n:cs.n=4
 c:cs.nth 0=some (PT (L.c r.c))
 write:cs.nth 1=some (.bool r.write)
 shared:cs.nth 2=some (.bool r.shared)
 cow:cs.nth 3=some (.bool r.cow)
theorem GC.w_c{L:Loc}{r:zk0}{cs:Cells}(h:GC L r cs){x:Nat}:GC L {r with c:=x} (cs.write 0 ([PT (L.c x)])):=⟨by rw[zap,h.n],zak (by rw[h.n];decide),nwr h.write,nwr h.shared,nwr h.cow⟩
theorem GC.w_cow{L:Loc}{r:zk0}{cs:Cells}(h:GC L r cs){x:Bool}:GC L {r with cow:=x} (cs.write 3 ([.bool x])):=⟨by rw[zap,h.n],nwl h.c,nwl h.write,nwl h.shared,zak (by rw[h.n];decide)⟩
structure CC(L:Loc)(r:znq)(cs:Cells):Prop where
 n:cs.n=65
 b:cs.sub 0 64=some (r.b.map By)
 refs:cs.nth 64=some (In r.refs)
theorem CC.w_refs{L:Loc}{r:znq}{cs:Cells}(h:CC L r cs){x:Int}:CC L {r with refs:=x} (cs.write 64 ([In x])):=⟨by rw[zap,h.n],swl h.b,zak (by rw[h.n];decide)⟩
theorem CC.w1_b{L:Loc}{r:znq}{cs:Cells}(h:CC L r cs){k:Nat}(hk:k<64){v:Value}{x:List (BitVec 8)}(e:(r.b.map By).set k v=x.map By):CC L {r with b:=x} (cs.write (0+k) [v]):=⟨by rw[zap,h.n],by rw[zaU h.b hk,e],(zaa (.inr (by simp only[List.length_cons,List.length_nil];omega))).trans h.refs⟩
structure XC(L:Loc)(r:zfi)(cs:Cells):Prop where
 n:cs.n=3
 p:cs.nth 0=some (PT (L.i r.p))
 write:cs.nth 1=some (.bool r.write)
 refs:cs.nth 2=some (In r.refs)
theorem XC.w_refs{L:Loc}{r:zfi}{cs:Cells}(h:XC L r cs){x:Int}:XC L {r with refs:=x} (cs.write 2 ([In x])):=⟨by rw[zap,h.n],nwl h.p,nwl h.write,zak (by rw[h.n];decide)⟩
theorem zrD{l:List (Option Nat)}{f g:Nat->Nat}(h:∀k x,l.getD k none=some x->g x=f x):(l.map λx=>pV (x.map g))=l.map λx=>pV (x.map f):=by
 apply List.map_congr_left;intro o ho;obtain⟨k,hk,e⟩:=List.getElem_of_mem ho;cases o with
 |none=>rfl
 |some x=>have:=h k x (by rw[gD',gE' hk,e];rfl);simp only[Option.map_some,this]
theorem zkj{o:Option Nat}{f g:Nat->Nat}(h:∀x,o=some x->g x=f x):pV (o.map g)=pV (o.map f):=by
 cases o with
 |none=>rfl
 |some x=>simp only[Option.map_some,h x rfl]
theorem PC.move{L L':Loc}{r:zb9}{cs:Cells}(h:PC L r cs)(hf:L'.f=L.f)(hi:∀q,r.pipe=some q->L'.i q=L.i q)(hx:∀k x,r.fds.getD k none=some x->L'.x x=L.x x)(hg:∀k x,r.pages.getD k none=some x->L'.g x=L.g x)(hc:∀q,r.fut.c=some q->L'.c q=L.c q)(hp:∀q,r.fut.p=some q->L'.p q=L.p q):PC L' r cs:=
 ⟨h.n,by rw[hf];exact h.f,h.pid,h.parent,h.state,h.status,h.cpu,h.saved,h.sig,h.wait,by rw[zkj hi];exact h.pipe,by unfold zhS;rw[zkj hc,zkj hp];exact h.fut,h.left,by rw[zrD hx];exact h.fds,h.aff,by rw[zrD hg];exact h.pages,h.okc,h.oks,h.okh⟩
theorem GC.move{L L':Loc}{r:zk0}{cs:Cells}(h:GC L r cs)(hc:L'.c r.c=L.c r.c):GC L' r cs:=⟨h.n,by rw[hc];exact h.c,h.write,h.shared,h.cow⟩
theorem CC.move{L L':Loc}{r:znq}{cs:Cells}(h:CC L r cs):CC L' r cs:=⟨h.n,h.b,h.refs⟩
theorem XC.move{L L':Loc}{r:zfi}{cs:Cells}(h:XC L r cs)(hc:L'.i r.p=L.i r.p):XC L' r cs:=⟨h.n,by rw[hc];exact h.p,h.write,h.refs⟩
end
end Go.Ab
