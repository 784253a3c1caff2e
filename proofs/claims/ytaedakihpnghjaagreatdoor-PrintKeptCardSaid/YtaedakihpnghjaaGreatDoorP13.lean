/-
  A part of the proof of PrintKept: AbsProgK, AbsLaidK, AbsLibK, AbsLib2K, AbsLib3K, AbsLib4K, AbsLib5K, AbsMono, AbsWp.
-/
import Derived.Lib.AtoiAll
import Derived.Shelf.Strconv.AtoiAll
import Derived.Shelf.Small.Strs
import Derived.Shelf.Strings.Search1
import Derived.Ground.NamesProg
import Derived.Test.YtaedakihpnghjaaGreatDoorChecked
import Derived.Shelf.Lay
import Derived.Shelf.Strings.Builder1
import Derived.Test.YtaedakihpnghjaaGreatDoorP12
set_option linter.unusedSimpArgs false
set_option linter.unusedVariables false
section
set_option maxRecDepth 100000
namespace Go.Proofs.YtaedakihpnghjaaGreatDoor
open Go Go.Abs Go.Proofs
def indexF (c:Int):Nat→List UInt8→Int
 | _,[]=>-1
 | k,b :: r=>cond (decide ((b.toNat:Int)=c)) k (indexF c (k+1) r)
def ovAtoi (args:List AV) (_:AHeap):Option (AV × Option Chg) :=
 match args with
 | [.str l]=>cond (Nat.ble l.length 281474976710656) (match Lib.atoiAll l with
  | .ok v=>some (.tuple [.int .i64 v,.niliface],none)
  | .range=>some (.tuple [.int .i64 (Lib.atoiSat l),.iface 146 .any],none)
  | _=>some (.tuple [.int .i64 0,.iface 146 .any],none)) none
 | _=>none
def ovIndexByte (args:List AV) (_:AHeap):Option (AV × Option Chg) :=
 match args with
 | [.str l,.int .u8 c]=>cond (decide (0≤c)&&decide (c<256)) (some (.int .i64 (indexF c 0 l),none)) none
 | _=>none
def byteRange (e:List (List AV)):Bool:=e.all fun r=>match r with|[.int .u8 n]=>decide (0≤n)&&decide (n<256)|_=>false
def ovString (args:List AV) (H:AHeap):Option (AV × Option Chg) :=
 match args with
 | [.ref l 0]=>match H[l]? with
  | some (.box 97 [_,.slice e true])=>cond (Nat.ble e.length 4611686018427387904&&byteRange e) ((bytesOf e).map fun b=>(.str b,none)) none
  | _=>none
 | _=>none
def ovCopyCheck (args:List AV) (H:AHeap):Option (AV × Option Chg) :=
 match args with
 | [.ref l 0]=>match H[l]? with
  | some (.box 97 [.nilptr,x])=>some (.undef,some ⟨H.set l (.box 97 [.ref l 0,x]),l⟩)
  | some (.box 97 [.ref l' 0,_])=>cond (Nat.beq l l') (some (.undef,none)) none
  | _=>none
 | _=>none
def ov:FuncId→Option (List AV→AHeap→Option (AV × Option Chg))
 | 50=>some ovIndexByte
 | 56=>some ovString
 | 78=>some ovIndexByte
 | 79=>some ovCopyCheck
 | 81=>some ovAtoi
 | _=>none
def fns:FuncId→Option IFunc
 | 3=>some ir3
 | 4=>some ir4
 | 5=>some ir5
 | 6=>some ir6
 | 7=>some ir7
 | 8=>some ir8
 | 9=>some ir9
 | 10=>some ir10
 | 11=>some ir11
 | 12=>some ir12
 | 13=>some ir13
 | 14=>some ir14
 | 15=>some ir15
 | 16=>some ir16
 | 17=>some ir17
 | 18=>some ir18
 | 19=>some ir19
 | 20=>some ir20
 | 21=>some ir21
 | 22=>some ir22
 | 23=>some ir23
 | 24=>some ir24
 | 25=>some ir25
 | 26=>some ir26
 | 27=>some ir27
 | 28=>some ir28
 | 29=>some ir29
 | 30=>some ir30
 | 31=>some ir31
 | 32=>some ir32
 | 33=>some ir33
 | 34=>some ir34
 | 35=>some ir35
 | 36=>some ir36
 | 37=>some ir37
 | 38=>some ir38
 | 39=>some ir39
 | 40=>some ir40
 | 42=>some ir42
 | 43=>some ir43
 | 44=>some ir44
 | 45=>some ir45
 | 46=>some ir46
 | 48=>some ir48
 | 49=>some ir49
 | 51=>some ir51
 | 52=>some ir52
 | 53=>some ir53
 | 54=>some ir54
 | 55=>some ir55
 | 57=>some ir57
 | 58=>some ir58
 | 59=>some ir59
 | 61=>some ir61
 | 62=>some ir62
 | 64=>some ir64
 | 68=>some ir68
 | 69=>some ir69
 | 80=>some ir80
 | 82=>some ir82
 | 85=>some ir85
 | 98=>some ir98
 | 104=>some ir104
 | 148=>some ir148
 | 149=>some ir149
 | _=>none
def teErr:TypeId:=166
def keywordsS:List (List UInt8):=[[109,111,100,117,108,101],[117,115,101],[114,101,99],[99,97,115,101],[102,117,110],[111,110],[116,101,115,116],[99,111,110,118],[116,114,117,101],[102,97,108,115,101],[110,111,116],[97,110,100],[111,114],[105,102],[116,104,101,110],[101,108,115,101],[108,101,116],[105,110],[109,97,116,99,104],[102,111,108,100],[111,118,101,114],[100,111],[108,101,110],[106,111,105,110],[76,105,115,116],[73,110,116],[66,111,111,108]]
def signsS:List (List UInt8):=[[61,61],[45,62],[40],[41],[123],[125],[91],[93],[44],[58],[46],[61],[43],[45],[42],[47],[37],[60]]
def kindsS:List (List UInt8):=[[114,101,99],[99,97,115,101],[102,117,110],[111,110],[116,101,115,116],[99,111,110,118]]
def opsM:List (List AV):=[[.str [37],.int .i64 4,.int .i64 6],[.str [42],.int .i64 2,.int .i64 6],[.str [43],.int .i64 0,.int .i64 5],[.str [45],.int .i64 1,.int .i64 5],[.str [47],.int .i64 3,.int .i64 6],[.str [60],.int .i64 5,.int .i64 3],[.str [61,61],.int .i64 6,.int .i64 3],[.str [97,110,100],.int .i64 7,.int .i64 2],[.str [106,111,105,110],.int .i64 10,.int .i64 4],[.str [111,114],.int .i64 8,.int .i64 1]]
def tab:Nat→List AV
 | 0=>[.slice (kindsS.map fun s=>[.str s]) false]
 | 1=>[.func (.func 58) [] [],.func (.func 148) [] [],.func (.func 149) [] [],.func (.func 149) [] []]
 | 2=>signsS.map .str
 | 3=>keywordsS.map .str
 | 4=>[.gmap 1 false true opsM]
 | 7=>[.iface teErr .any]
 | 8=>[.iface teErr .any]
 | _=>[]
def A:AP:={ fns,ov,glob:=tab }
end Go.Proofs.YtaedakihpnghjaaGreatDoor
end
section
namespace Go.Proofs
open Go.Shelf
def YtaedakihpnghjaaGreatDoor.layAtoi_ren:Go.Shelf.Ren:=⟨fun|172=>81|244=>94|245=>95|247=>106|279=>107|280=>108|281=>109|282=>110|287=>120|316=>121|171=>47|205=>122|321=>126|322=>127|243=>67|246=>84|283=>100|284=>101|285=>102|286=>103|129=>113|317=>112|318=>114|319=>115|320=>116|337=>123|338=>124|n=>n,fun|9=>9|3=>3|75=>101|76=>102|4=>4|5=>5|167=>143|37=>95|0=>0|85=>144|2=>2|168=>146|53=>137|175=>156|46=>154|210=>160|127=>118|145=>168|143=>166|21=>21|171=>136|173=>140|212=>150|51=>151|20=>20|213=>152|232=>169|233=>170|80=>59|n=>n,fun|15=>7|16=>8|17=>6|18=>9|19=>10|n=>n⟩
theorem YtaedakihpnghjaaGreatDoor.layAtoi:Go.Proofs.LaysC.n172 Tryz.prog YtaedakihpnghjaaGreatDoor.layAtoi_ren:={
 mixed:=by kernel_rfl
 f129:=Tryz.func113.trans (congrArg some (by kernel_rfl))
 f171:=Tryz.func47.trans (congrArg some (by kernel_rfl))
 f172:=Tryz.func81.trans (congrArg some (by kernel_rfl))
 f205:=Tryz.func122.trans (congrArg some (by kernel_rfl))
 f243:=Tryz.func67.trans (congrArg some (by kernel_rfl))
 f244:=Tryz.func94.trans (congrArg some (by kernel_rfl))
 f245:=Tryz.func95.trans (congrArg some (by kernel_rfl))
 f246:=Tryz.func84.trans (congrArg some (by kernel_rfl))
 f247:=Tryz.func106.trans (congrArg some (by kernel_rfl))
 f279:=Tryz.func107.trans (congrArg some (by kernel_rfl))
 f280:=Tryz.func108.trans (congrArg some (by kernel_rfl))
 f281:=Tryz.func109.trans (congrArg some (by kernel_rfl))
 f282:=Tryz.func110.trans (congrArg some (by kernel_rfl))
 f283:=Tryz.func100.trans (congrArg some (by kernel_rfl))
 f284:=Tryz.func101.trans (congrArg some (by kernel_rfl))
 f285:=Tryz.func102.trans (congrArg some (by kernel_rfl))
 f286:=Tryz.func103.trans (congrArg some (by kernel_rfl))
 f287:=Tryz.func120.trans (congrArg some (by kernel_rfl))
 f316:=Tryz.func121.trans (congrArg some (by kernel_rfl))
 f317:=Tryz.func112.trans (congrArg some (by kernel_rfl))
 f318:=Tryz.func114.trans (congrArg some (by kernel_rfl))
 f319:=Tryz.func115.trans (congrArg some (by kernel_rfl))
 f320:=Tryz.func116.trans (congrArg some (by kernel_rfl))
 f321:=Tryz.func126.trans (congrArg some (by kernel_rfl))
 f322:=Tryz.func127.trans (congrArg some (by kernel_rfl))
 f337:=Tryz.func123.trans (congrArg some (by kernel_rfl))
 f338:=Tryz.func124.trans (congrArg some (by kernel_rfl))
 t0:=Tryz.underlying0
 a0:=Tryz.isAgg0
 z0:=Tryz.sizeOf0
 v0:=Tryz.zeroValue0
 t2:=Tryz.underlying2
 a2:=Tryz.isAgg2
 z2:=Tryz.sizeOf2
 v2:=Tryz.zeroValue2
 t3:=Tryz.underlying3
 a3:=Tryz.isAgg3
 z3:=Tryz.sizeOf3
 v3:=Tryz.zeroValue3
 t4:=Tryz.underlying4
 a4:=Tryz.isAgg4
 z4:=Tryz.sizeOf4
 v4:=Tryz.zeroValue4
 t5:=Tryz.underlying5
 a5:=Tryz.isAgg5
 z5:=Tryz.sizeOf5
 v5:=Tryz.zeroValue5
 t9:=Tryz.underlying9
 a9:=Tryz.isAgg9
 z9:=Tryz.sizeOf9
 v9:=Tryz.zeroValue9
 t20:=Tryz.underlying20
 a20:=Tryz.isAgg20
 z20:=Tryz.sizeOf20
 v20:=Tryz.zeroValue20
 t21:=Tryz.underlying21
 a21:=Tryz.isAgg21
 z21:=Tryz.sizeOf21
 v21:=Tryz.zeroValue21
 t37:=Tryz.underlying95
 a37:=Tryz.isAgg95
 z37:=Tryz.sizeOf95
 v37:=Tryz.zeroValue95
 t46:=Tryz.underlying154
 a46:=Tryz.isAgg154
 z46:=Tryz.sizeOf154
 v46:=Tryz.zeroValue154
 t51:=Tryz.underlying151
 a51:=Tryz.isAgg151
 z51:=Tryz.sizeOf151
 v51:=Tryz.zeroValue151
 t53:=Tryz.underlying137
 a53:=Tryz.isAgg137
 z53:=Tryz.sizeOf137
 v53:=Tryz.zeroValue137
 t75:=Tryz.underlying101
 a75:=Tryz.isAgg101
 z75:=Tryz.sizeOf101
 v75:=Tryz.zeroValue101
 t76:=Tryz.underlying102
 a76:=Tryz.isAgg102
 z76:=Tryz.sizeOf102
 v76:=Tryz.zeroValue102
 t85:=Tryz.underlying144
 a85:=Tryz.isAgg144
 z85:=Tryz.sizeOf144
 v85:=Tryz.zeroValue144
 t127:=Tryz.underlying118
 a127:=Tryz.isAgg118
 z127:=Tryz.sizeOf118
 v127:=Tryz.zeroValue118
 t143:=Tryz.underlying166
 a143:=Tryz.isAgg166
 z143:=Tryz.sizeOf166
 v143:=Tryz.zeroValue166
 t145:=Tryz.underlying168
 a145:=Tryz.isAgg168
 z145:=Tryz.sizeOf168
 v145:=Tryz.zeroValue168
 t167:=Tryz.underlying143
 a167:=Tryz.isAgg143
 z167:=Tryz.sizeOf143
 v167:=Tryz.zeroValue143
 t168:=Tryz.underlying146
 a168:=Tryz.isAgg146
 z168:=Tryz.sizeOf146
 v168:=Tryz.zeroValue146
 t171:=Tryz.underlying136
 a171:=Tryz.isAgg136
 z171:=Tryz.sizeOf136
 v171:=Tryz.zeroValue136
 t173:=Tryz.underlying140
 a173:=Tryz.isAgg140
 z173:=Tryz.sizeOf140
 v173:=Tryz.zeroValue140
 t175:=Tryz.underlying156
 a175:=Tryz.isAgg156
 z175:=Tryz.sizeOf156
 v175:=Tryz.zeroValue156
 t210:=Tryz.underlying160
 a210:=Tryz.isAgg160
 z210:=Tryz.sizeOf160
 v210:=Tryz.zeroValue160
 t212:=Tryz.underlying150
 a212:=Tryz.isAgg150
 z212:=Tryz.sizeOf150
 v212:=Tryz.zeroValue150
 t213:=Tryz.underlying152
 a213:=Tryz.isAgg152
 z213:=Tryz.sizeOf152
 t232:=Tryz.underlying169
 a232:=Tryz.isAgg169
 z232:=Tryz.sizeOf169
 v232:=Tryz.zeroValue169
 t233:=Tryz.underlying170
 a233:=Tryz.isAgg170
 z233:=Tryz.sizeOf170
 v233:=Tryz.zeroValue170
 g15:=by kernel_rfl
 g16:=by kernel_rfl
 g17:=by kernel_rfl
 g18:=by kernel_rfl
 g19:=by kernel_rfl
 t80:=Tryz.underlying59
 a80:=Tryz.isAgg59
 z80:=Tryz.sizeOf59
 v80:=Tryz.zeroValue59
 i0:=by kernel_rfl
 i2:=by kernel_rfl
 i3:=by kernel_rfl
 i4:=by kernel_rfl
 i5:=by kernel_rfl
 i9:=by kernel_rfl
 i20:=by kernel_rfl
 i21:=by kernel_rfl
 i37:=by kernel_rfl
 i46:=by kernel_rfl
 i51:=by kernel_rfl
 i53:=by kernel_rfl
 i75:=by kernel_rfl
 i76:=by kernel_rfl
 i80:=by kernel_rfl
 i85:=by kernel_rfl
 i127:=by kernel_rfl
 i143:=by kernel_rfl
 i145:=by kernel_rfl
 i167:=by kernel_rfl
 i168:=by kernel_rfl
 i171:=by kernel_rfl
 i173:=by kernel_rfl
 i175:=by kernel_rfl
 i210:=by kernel_rfl
 i212:=by kernel_rfl
 i232:=by kernel_rfl
 i233:=by kernel_rfl
 m15:=by kernel_rfl
 m16:=by kernel_rfl
 m17:=by kernel_rfl
 m18:=by kernel_rfl
 m19:=by kernel_rfl
 c0:=by kernel_rfl
 c2:=by kernel_rfl
 c3:=by kernel_rfl
 c4:=by kernel_rfl
 c5:=by kernel_rfl
 c9:=by kernel_rfl
 c20:=by kernel_rfl
 c21:=by kernel_rfl
 c37:=by kernel_rfl
 c46:=by kernel_rfl
 c51:=by kernel_rfl
 c53:=by kernel_rfl
 c75:=by kernel_rfl
 c76:=by kernel_rfl
 c80:=by kernel_rfl
 c85:=by kernel_rfl
 c127:=by kernel_rfl
 c143:=by kernel_rfl
 c145:=by kernel_rfl
 c167:=by kernel_rfl
 c168:=by kernel_rfl
 c171:=by kernel_rfl
 c173:=by kernel_rfl
 c175:=by kernel_rfl
 c210:=by kernel_rfl
 c212:=by kernel_rfl
 c213:=by kernel_rfl
 c232:=by kernel_rfl
 c233:=by kernel_rfl }
def YtaedakihpnghjaaGreatDoor.layIndex_ren:Go.Shelf.Ren:=⟨fun|137=>50|217=>78|266=>92|n=>n,fun|9=>9|5=>5|3=>3|n=>n,fun|n=>n⟩
theorem YtaedakihpnghjaaGreatDoor.layIndex:Go.Proofs.Lays.n137 Tryz.prog YtaedakihpnghjaaGreatDoor.layIndex_ren:={
 mixed:=by kernel_rfl
 f137:=Tryz.func50.trans (congrArg some (by kernel_rfl))
 f217:=Tryz.func78.trans (congrArg some (by kernel_rfl))
 f266:=Tryz.func92.trans (congrArg some (by kernel_rfl))
 t3:=Tryz.underlying3
 a3:=Tryz.isAgg3
 z3:=Tryz.sizeOf3
 v3:=Tryz.zeroValue3
 t5:=Tryz.underlying5
 a5:=Tryz.isAgg5
 z5:=Tryz.sizeOf5
 v5:=Tryz.zeroValue5
 t9:=Tryz.underlying9
 a9:=Tryz.isAgg9
 z9:=Tryz.sizeOf9
 v9:=Tryz.zeroValue9 }
def YtaedakihpnghjaaGreatDoor.layIndex2_ren:Go.Shelf.Ren:=⟨fun|217=>78|266=>92|n=>n,fun|9=>9|5=>5|3=>3|n=>n,fun|n=>n⟩
theorem YtaedakihpnghjaaGreatDoor.layIndex2:Go.Proofs.Lays.n217 Tryz.prog YtaedakihpnghjaaGreatDoor.layIndex2_ren:={
 mixed:=by kernel_rfl
 f217:=Tryz.func78.trans (congrArg some (by kernel_rfl))
 f266:=Tryz.func92.trans (congrArg some (by kernel_rfl))
 t3:=Tryz.underlying3
 a3:=Tryz.isAgg3
 z3:=Tryz.sizeOf3
 v3:=Tryz.zeroValue3
 t5:=Tryz.underlying5
 a5:=Tryz.isAgg5
 z5:=Tryz.sizeOf5
 v5:=Tryz.zeroValue5
 t9:=Tryz.underlying9
 a9:=Tryz.isAgg9
 z9:=Tryz.sizeOf9
 v9:=Tryz.zeroValue9 }
end Go.Proofs
end
section
set_option linter.unusedVariables false
set_option linter.unusedSimpArgs false
namespace Go.Proofs.YtaedakihpnghjaaGreatDoor
open Go Go.Abs Go.Proofs Go.Shelf RowKit
theorem index_at (s:ByteArray) (c:Int) (w:World):Calls Tryz.prog 50 #[.string s,.int .u8 c] w fun e w'=>e=.returned (.int .i64 (Lib.indexByte s.data.toList c.toNat.toUInt8))∧w'=w:=Any.strings_IndexByte layIndex s c w
theorem index_at2 (s:ByteArray) (c:Int) (w:World):Calls Tryz.prog 78 #[.string s,.int .u8 c] w fun e w'=>e=.returned (.int .i64 (Lib.indexByte s.data.toList c.toNat.toUInt8))∧w'=w:=Any.stringslite_IndexByte layIndex2 s c w
theorem atoi_ok (s:ByteArray) (hmax:s.size≤9223372036854775806) (v:Int) (h:Lib.atoiAll s.data.toList=.ok v) (w:World) :
  Calls Tryz.prog 81 #[.string s] w fun e w'=>e=.returned (.tuple #[.int .i64 v,.nilIface])∧(w'=w∨∃ t,w'=Lib.bytesWorld w 5 t):=Any.strconv_Atoi_ok layAtoi s hmax v h w
theorem atoi_bad (s:ByteArray) (hlim:s.size≤281474976710656) (h1:∀ v,Lib.atoiAll s.data.toList≠.ok v) (h2:Lib.atoiAll s.data.toList≠.range) (ev:Value) (w:World) (hv:w.cell? ⟨7,0,none⟩=some ev) (hev:ev=.nilIface∨∃ te pe,ev=.iface te pe) :
  Calls Tryz.prog 81 #[.string s] w fun e w'=>∃ N,e=.returned (.tuple #[.int .i64 (0),.iface 146 (.pointer (some ⟨N,0,none⟩))])∧Below w.heap.size w w' :=
 (Any.strconv_Atoi_syntax layAtoi s hlim (by
  generalize Lib.atoiAll s.data.toList=x at h1 h2
  cases x<;>first|rfl|exact absurd rfl (h1 _)|exact absurd rfl h2) ev w hv hev).mono fun e w' ⟨N,h1,_,_,h4⟩=>⟨N,h1,h4⟩
theorem atoi_range (s:ByteArray) (hlim:s.size≤281474976710656) (h:Lib.atoiAll s.data.toList=.range) (ev:Value) (w:World) (hv:w.cell? ⟨8,0,none⟩=some ev) (hev:ev=.nilIface∨∃ te pe,ev=.iface te pe) :
  Calls Tryz.prog 81 #[.string s] w fun e w'=>∃ N,e=.returned (.tuple #[.int .i64 (Lib.atoiSat s.data.toList),.iface 146 (.pointer (some ⟨N,0,none⟩))])∧Below w.heap.size w w' :=
 (Any.strconv_Atoi_range layAtoi s hlim h ev w hv hev).mono fun e w' ⟨N,h1,_,_,h4⟩=>⟨N,h1,h4⟩
section
variable {G:Nat→List AV} {base:Nat} {gh:Gh} {w w' : World} {H:AHeap}
theorem step_below (hW:WRel G base H gh w) (hb:Below w.heap.size w w') (n:Nat):Step (fun _=>False) n gh w gh w':=by
 refine⟨fun _ _ h=>h,fun b o h=>cell_of_heap (hb.block b (hW.sLt b o h)),hb.size,hb.os,hb.tape,hb.output,fun b hlt _=>⟨.inl (hb.block b hlt),rfl,fun _ h=>h⟩,fun b hb'=>hW.not_outer b hb',fun _ _=>rfl,fun b ty m hm=>?_,fun b E ck hs h0=>(hb.block b (hW.sLt b 0 hs)).trans h0⟩
 obtain⟨C,fr,h1,h2⟩:=hm
 exact⟨C,fr,by rw[hb.block b (Array.getElem?_eq_some_iff.1 h1).1];exact h1,h2⟩
theorem ret_below (hW:WRel G base H gh w) (hb:Below w.heap.size w w') {v:Value} {r:AV} (hv:VR gh H.length w' v r):RetOK G base H gh w r none v gh w' :=
 ⟨Nat.le_refl _,hW.step (step_below hW hb H.length) (fun l=>⟨id,fun _=>id⟩) (fun b o h=>Nat.lt_of_lt_of_le (hW.sLt b o h) hb.size) (fun b h=>⟨(hW.kLt b h).1,Nat.lt_of_lt_of_le (hW.kLt b h).2 hb.size⟩) (fun _ _ _ h=>.inl h),
  (step_below hW hb H.length).mono (fun _ h=>h.elim),fun _ h=>h,.inl hv⟩
theorem chg_none:ChgOK H none:=⟨Nat.le_refl _,fun c h=>by cases h⟩
theorem args1 {vs:Array Value} {x:AV} (hs:vs.size=[x].length) (h:∀ (j:Nat) (v:Value) (y:AV),vs[j]?=some v→[x][j]?=some y→VR gh H.length w v y):∃ v,vs=#[v]∧VR gh H.length w v x:=by
 obtain⟨l⟩:=vs
 match l,hs with
 | [v],_=>exact⟨v,rfl,h 0 v x rfl rfl⟩
theorem args2 {vs:Array Value} {x y:AV} (hs:vs.size=[x,y].length) (h:∀ (j:Nat) (v:Value) (z:AV),vs[j]?=some v→[x,y][j]?=some z→VR gh H.length w v z):∃ u v,vs=#[u,v]∧VR gh H.length w u x∧VR gh H.length w v y:=by
 obtain⟨l⟩:=vs
 match l,hs with
 | [u,v],_=>exact⟨u,v,rfl,h 0 u x rfl rfl,h 1 v y rfl rfl⟩
end
theorem indexF_eq (c:Int) (h0:0≤c) (h1:c<256):∀ (l:List UInt8) (k:Nat),indexF c k l=if Lib.indexByte l c.toNat.toUInt8=-1 then -1 else Lib.indexByte l c.toNat.toUInt8+k
 | [],k=>by simp[indexF,Lib.indexByte]
 | b :: r,k=>by
  have hc:(c.toNat.toUInt8).toNat=c.toNat:=by simp;omega
  have hb:(b==c.toNat.toUInt8)=decide ((b.toNat:Int)=c):=by
   by_cases h:(b.toNat:Int)=c
   ·have:b=c.toNat.toUInt8:=UInt8.toNat_inj.1 (by rw[hc];omega)
    rw[decide_eq_true h];simpa using this
   ·have:b≠c.toNat.toUInt8:=fun e=>h (by rw[e,hc];omega)
    rw[decide_eq_false h];simpa using this
  have hge:∀ l:List UInt8, -1≤Lib.indexByte l c.toNat.toUInt8:=by
   intro l
   induction l with
   | nil=>simp[Lib.indexByte]
   | cons x l ih =>
    simp only[Lib.indexByte]
    split
    ·omega
    ·split
     ·omega
     ·rename_i h;simp at h;omega
  unfold indexF Lib.indexByte
  rw[hb]
  by_cases h:(b.toNat:Int)=c
  ·simp[h]
  ·have:=hge r
   simp only[h,decide_false,cond_false,if_false,Bool.false_eq_true]
   rw[indexF_eq c h0 h1 r (k+1)]
   by_cases hr:Lib.indexByte r c.toNat.toUInt8=-1
   ·simp[hr]
   ·simp only[beq_iff_eq,hr,if_false]
    rw[if_neg (by omega)]
    push_cast
    omega
theorem fnOK (f:FuncId) (fn:Func) (h:Tryz.prog.funcs[f]?=some fn) (hb:fn.body.isSome=true) (hn:fn.name≠ "runtime.NumGoroutine"):∃ fn,Tryz.prog.funcs[f]?=some fn∧fn.body.isSome=true∧fn.name≠ "runtime.NumGoroutine":=⟨fn,h,hb,hn⟩
theorem index_sound {G:Nat→List AV} : OvSound Tryz.prog G 50 ovIndexByte:=by
 intro args H r c he
 refine⟨fnOK 50 _ Tryz.func50 (by kernel_rfl) (by decide),?_⟩
 unfold ovIndexByte at he
 split at he
 ·rename_i l c'
  obtain⟨h0,he⟩:=cond_some he
  simp only[Bool.and_eq_true,decide_eq_true_eq] at h0
  simp only[Option.some.injEq,Prod.mk.injEq] at he
  obtain⟨rfl,rfl⟩:=he
  refine⟨chg_none,fun base gh w vs hW _ hs hrel=>?_⟩
  obtain⟨u,v,rfl,hu,hv⟩:=args2 hs hrel
  obtain⟨s,rfl,hl⟩:=hu.inv_str
  rw[hv.inv_int]
  refine (index_at s c' w).mono ?_
  rintro e w' ⟨rfl,rfl⟩
  refine⟨_,gh,rfl,ret_below hW (Below.refl _ _) ?_⟩
  rw[indexF_eq c' h0.1 h0.2 l 0,hl]
  have:(if Lib.indexByte l c'.toNat.toUInt8=-1 then (-1:Int) else Lib.indexByte l c'.toNat.toUInt8+(0:Nat))=Lib.indexByte l c'.toNat.toUInt8:=by split<;>simp_all
  rw[this]
  exact .plain _ _ (.int _ _)
 ·cases he
theorem index_sound2 {G:Nat→List AV} : OvSound Tryz.prog G 78 ovIndexByte:=by
 intro args H r c he
 refine⟨fnOK 78 _ Tryz.func78 (by kernel_rfl) (by decide),?_⟩
 unfold ovIndexByte at he
 split at he
 ·rename_i l c'
  obtain⟨h0,he⟩:=cond_some he
  simp only[Bool.and_eq_true,decide_eq_true_eq] at h0
  simp only[Option.some.injEq,Prod.mk.injEq] at he
  obtain⟨rfl,rfl⟩:=he
  refine⟨chg_none,fun base gh w vs hW _ hs hrel=>?_⟩
  obtain⟨u,v,rfl,hu,hv⟩:=args2 hs hrel
  obtain⟨s,rfl,hl⟩:=hu.inv_str
  rw[hv.inv_int]
  refine (index_at2 s c' w).mono ?_
  rintro e w' ⟨rfl,rfl⟩
  refine⟨_,gh,rfl,ret_below hW (Below.refl _ _) ?_⟩
  rw[indexF_eq c' h0.1 h0.2 l 0,hl]
  have:(if Lib.indexByte l c'.toNat.toUInt8=-1 then (-1:Int) else Lib.indexByte l c'.toNat.toUInt8+(0:Nat))=Lib.indexByte l c'.toNat.toUInt8:=by split<;>simp_all
  rw[this]
  exact .plain _ _ (.int _ _)
 ·cases he
theorem err_cell {base:Nat} {gh:Gh} {w:World} {H:AHeap} (hW:WRel tab base H gh w) {g:Nat} (hG:tab g=[.iface teErr .any]):∃ ev,w.cell? ⟨g,0,none⟩=some ev∧(ev=.nilIface∨∃ te pe,ev=.iface te pe):=by
 obtain⟨v,hv,hp,_⟩:=hW.glob g 0 (.iface teErr .any) (by rw[hG];rfl)
 cases hp with
 | iface _ u _ _=>exact⟨_,hv,.inr ⟨_,_,rfl⟩⟩
theorem tuple2 {gh:Gh} {n:Nat} {w:World} {u v:Value} {x y:AV} (h1:VR gh n w u x) (h2:VR gh n w v y):VR gh n w (.tuple #[u,v]) (.tuple [x,y]):=by
 refine .tuple _ _ rfl (fun j a b ha hb=>?_)
 match j with
 | 0=>simp at ha hb;subst ha hb;exact h1
 | 1=>simp at ha hb;subst ha hb;exact h2
 | j+2=>simp at ha
theorem atoi_sound:OvSound Tryz.prog tab 81 ovAtoi:=by
 intro args H r c he
 refine⟨fnOK 81 _ Tryz.func81 (by kernel_rfl) (by decide),?_⟩
 unfold ovAtoi at he
 split at he
 ·rename_i l
  obtain⟨h0,he⟩:=cond_some he
  have hlen:l.length≤281474976710656:=by simpa [Nat.ble_eq] using h0
  have hc:c=none:=by split at he<;>(simp only[Option.some.injEq,Prod.mk.injEq] at he;exact he.2.symm)
  subst hc
  refine⟨chg_none,fun base gh w vs hW _ hs hrel=>?_⟩
  obtain⟨u,rfl,hu⟩:=args1 hs hrel
  obtain⟨s,rfl,hl⟩:=hu.inv_str
  have hsize:s.size≤281474976710656:=by
   have:s.size=s.data.toList.length:=by simp
   rw[this,hl];exact hlen
  split at he
  ·rename_i v hat
   simp only[Option.some.injEq,Prod.mk.injEq,and_true] at he
   subst he
   refine (atoi_ok s (by omega) v (by rw[hl];exact hat) w).mono ?_
   rintro e w' ⟨rfl,hw⟩
   refine⟨_,gh,rfl,ret_below hW ?_ (tuple2 (.plain _ _ (.int _ _)) (.plain _ _ .niliface))⟩
   rcases hw with rfl|⟨t,rfl⟩
   ·exact Below.refl _ _
   ·exact Lib.bytesWorld_below _ _ _
  ·rename_i hat
   simp only[Option.some.injEq,Prod.mk.injEq,and_true] at he
   subst he
   obtain⟨ev,h1,h2⟩:=err_cell hW (g:=8) rfl
   refine (atoi_range s hsize (by rw[hl];exact hat) ev w h1 h2).mono ?_
   rintro e w' ⟨N,rfl,hb⟩
   rw[hl]
   exact⟨_,gh,rfl,ret_below hW hb (tuple2 (.plain _ _ (.int _ _)) (.iface _ _ _ (.plain _ _ (.any _ rfl))))⟩
  ·rename_i hno hnr
   simp only[Option.some.injEq,Prod.mk.injEq,and_true] at he
   subst he
   obtain⟨ev,h1,h2⟩:=err_cell hW (g:=7) rfl
   refine (atoi_bad s hsize (by rw[hl];exact fun v e=>hno v e) (by rw[hl];exact fun e=>hnr e) ev w h1 h2).mono ?_
   rintro e w' ⟨N,rfl,hb⟩
   exact⟨_,gh,rfl,ret_below hW hb (tuple2 (.plain _ _ (.int _ _)) (.iface _ _ _ (.plain _ _ (.any _ rfl))))⟩
 ·cases he
end Go.Proofs.YtaedakihpnghjaaGreatDoor
end
section
set_option linter.unusedVariables false
set_option linter.unusedSimpArgs false
set_option maxHeartbeats 1000000
set_option maxRecDepth 100000
namespace Go.Proofs.YtaedakihpnghjaaGreatDoor
open Go Go.Abs Go.Proofs Go.Shelf RowKit
theorem sizeB:(Tryz.prog.info? 97).map (·.size)=some 2:=by kernel_rfl
theorem liesB:liesAt Tryz.prog Tryz.prog.depth 97 (2 / Tryz.prog.cellsOf 97) 0 97 1=true:=by kernel_rfl
theorem copy_used (b:Nat) (w:World) (h0:w.cell? ⟨b,0,none⟩=some (.pointer (some ⟨b,0,none⟩))) :
  Calls Tryz.prog 79 #[.pointer (some ⟨b,0,none⟩)] w fun e w'=>e=.returned (.tuple #[])∧w'=w:=by
 obtain⟨j,hj,_⟩:=Option.map_eq_some_iff.1 sizeB
 go_enter Tryz.func79,Tryz.ntmps79
 go_wp2
 rw[Lib.run_neq_ptr_same w _ Tryz.underlying94 hj]
 go_wp2
 go_end0
 exact⟨rfl,rfl⟩
theorem copy_fresh (b:Nat) (w:World) (h0:w.cell? ⟨b,0,none⟩=some (.pointer none)) (hsh:w.shape? b=some (97,2)) (hfz:w.frozen? ⟨b,0,none⟩=false) :
  Calls Tryz.prog 79 #[.pointer (some ⟨b,0,none⟩)] w fun e w'=>e=.returned (.tuple #[])∧w'=w.setCell ⟨b,0,none⟩ (.pointer (some ⟨b,0,none⟩)):=by
 obtain⟨j,hj,hjs⟩:=Option.map_eq_some_iff.1 sizeB
 go_enter Tryz.func79,Tryz.ntmps79
 go_wp2
 rw[Lib.run_to_unsafe w ⟨b,0,none⟩ Tryz.underlying94 Tryz.underlying130 hj (by rw[hjs];decide) hsh (Nat.zero_lt_succ 1)]
 simp only[Result.andThen]
 rw[Oper.upon_value]
 go_wp2
 rw[run_callFunc_extern Tryz.func93 (by kernel_rfl) (by kernel_rfl) (by kernel_rfl) (e:=Extern.AbiNoEscape.same) (by kernel_rfl)]
 rw[Lib.run_noEscape]
 simp only[Result.andThen]
 rw[Oper.upon_value]
 go_wp2
 rw[Lib.run_from_unsafe w ⟨b,0,none⟩ Tryz.underlying130 Tryz.underlying94 hj hsh liesB]
 simp only[Result.andThen]
 rw[Oper.upon_value]
 go_wp2
 go_end0
 exact⟨rfl,rfl⟩
theorem copy_sound {G:Nat→List AV} : OvSound Tryz.prog G 79 ovCopyCheck:=by
 intro args H r c he
 refine⟨fnOK 79 _ Tryz.func79 (by kernel_rfl) (by decide),?_⟩
 unfold ovCopyCheck at he
 split at he
 ·rename_i l
  split at he
  ·
   rename_i x hH
   simp only[Option.some.injEq,Prod.mk.injEq] at he
   obtain⟨rfl,rfl⟩:=he
   have hlt:l<H.length:=(List.getElem?_eq_some_iff.1 hH).1
   refine⟨⟨by simp[newH],fun c' hc'=>?_⟩,fun base gh w vs hW _ hs hrel=>?_⟩
   ·injection hc' with hc'
    subst hc'
    refine⟨Nat.le_of_lt hlt,fun k hk=>?_⟩
    simp only at hk ⊢
    rw[List.getElem?_set_ne (by omega)]
   ·obtain⟨u,rfl,hu⟩:=args1 hs hrel
    obtain⟨_,rfl⟩:=hu.inv_ref
    obtain⟨hκ,hS,C,ty,hb,hC,hcs⟩:=hW.boxes l _ _ hH
    obtain⟨C2,fr2,hb2,hC2⟩:=hW.types l _ _ hH (by decide)
    rw[hb] at hb2
    injection hb2 with hb2
    injection hb2 with e1 e2 e3
    subst e1 e2
    have hC2:C.size=2:=hC2
    have h0:C[0]?=some C[0]:=Array.getElem?_eq_getElem (by omega)
    have hc0:C[0]=.pointer none:=by
     have:=(hcs 0 _ .nilptr h0 rfl).2.dropped
     generalize C[0]=V at this
     cases this with
     | plain _ _ h=>cases h;rfl
    have hcell:w.cell? ⟨gh.ρ l,0,none⟩=some (.pointer none):=by rw[cell_of_row w _ 0 C _ _ hb,h0,hc0]
    have hno:∀ o,gh.S (gh.ρ l) o→(C.setIfInBounds 0 (.pointer (some ⟨gh.ρ l,0,none⟩)))[o]?=C[o]?:=fun o ho=>(hS o ho).elim
    have st:=row_step0 hW hb (by simp) hno H.length
    rw[hκ] at st
    refine (copy_fresh (gh.ρ l) w hcell (by simp[World.shape?,hb,hC2]) (by simp[World.frozen?,hb])).mono ?_
    rintro e w' ⟨rfl,rfl⟩
    rw[setCell_eq_setRow w (gh.ρ l) 0 C _ (0,0) _ hb]
    have hW' : WRel G base (H.set l (.box 97 [.ref l 0,x])) gh (w.setRow (gh.ρ l) (C.setIfInBounds 0 (.pointer (some ⟨gh.ρ l,0,none⟩)))):=by
     refine hW.setBox st hH (by intro k hk;simp[hk]) (fun b o ho=>by simpa using hW.sLt b o ho) (fun b hb=>by simpa using hW.kLt b hb) ⟨hκ,hS,_,_,setRow_heap w _ C _ _ _ hb,by simpa using hC,fun j v y hv hy=>?_⟩ ?_ ?_ ?_
     ·match j with
      | 0 =>
       simp at hy
       subst hy
       rw[Array.getElem?_setIfInBounds_self_of_lt (by omega)] at hv
       injection hv with hv
       subst hv
       exact⟨rfl,.inl (.ref l 0 hlt)⟩
      | j+1 =>
       rw[Array.getElem?_setIfInBounds_ne (by omega)] at hv
       obtain⟨k1,k2⟩:=hcs (j+1) v y hv (by simpa using hy)
       exact⟨k1,k2.mono st (Nat.le_refl _) (by simp)⟩
     ·have:=hW.refs l _ _ hH
      simp only[List.all_cons,List.all_nil,Bool.and_true,Bool.and_eq_true] at this ⊢
      exact⟨by simp[heapCell],this.2⟩
     ·exact fun _ _ h=>h
     ·rfl
    refine⟨_,gh,rfl,by simp[newH],hW',st.mono (fun p hp=>.inl ⟨l,hp⟩),fun _ h=>h,.inl .undef⟩
  ·
   rename_i l' y hH
   obtain⟨h0,he1⟩:=cond_some he
   clear he
   have hll:l=l':=by simpa [nbeq] using h0
   simp only[Option.some.injEq,Prod.mk.injEq] at he1
   obtain⟨rfl,rfl⟩:=he1
   subst hll
   refine⟨chg_none,fun base gh w vs hW _ hs hrel=>?_⟩
   obtain⟨u,rfl,hu⟩:=args1 hs hrel
   obtain⟨_,rfl⟩:=hu.inv_ref
   obtain⟨hκ,hS,C,ty,hb,hC,hcs⟩:=hW.boxes l _ _ hH
   have hC2:2≤C.size:=hC
   have h0' : C[0]?=some C[0]:=Array.getElem?_eq_getElem (by omega)
   have hc0:C[0]=.pointer (some ⟨gh.ρ l,0,none⟩):=(VR.inv_ref (hcs 0 _ (.ref l 0) h0' rfl).2.dropped).2
   refine (copy_used (gh.ρ l) w (by rw[cell_of_row w _ 0 C _ _ hb,h0',hc0])).mono ?_
   rintro e w' ⟨rfl,rfl⟩
   exact⟨_,gh,rfl,ret_below hW (Below.refl _ _) .undef⟩
  ·cases he
 ·cases he
end Go.Proofs.YtaedakihpnghjaaGreatDoor
end
section
set_option linter.unusedVariables false
set_option linter.unusedSimpArgs false
set_option maxHeartbeats 1000000
set_option maxRecDepth 100000
namespace Go.Proofs.YtaedakihpnghjaaGreatDoor
open Go Go.Abs Go.Proofs Go.Shelf RowKit
theorem string_gen (b:Nat) (a q:Option Addr) (n cap:Nat) (s:ByteArray) (w W1 W:World) (c1:w.drew.cell? ⟨b,1,none⟩=some (.slice a n cap)) (c2:W1.cell? ⟨b,1,none⟩=some (.slice a n cap))
  (hSD:(Builtin.unsafeSliceData_ #[95] 118 #[.slice a n cap]).run Tryz.prog w.drew=.ok (.pointer q) W1)
  (hUS:(Builtin.unsafeString_ #[118,3] 9 #[.pointer q,.int .i64 n]).run Tryz.prog W1=.ok (.string s) W) :
  Calls Tryz.prog 56 #[.pointer (some ⟨b,0,none⟩)] w fun e w'=>e=.returned (.string s)∧w'=W:=by
 have mixed:Tryz.prog.follows .mixedOrders=true:=by kernel_rfl
 go_enter Tryz.func56,Tryz.ntmps56
 go_wp2
 go_region_o
 all_goals (go_wp2;go_ret;exact⟨rfl,rfl⟩)
end Go.Proofs.YtaedakihpnghjaaGreatDoor
end
section
set_option linter.unusedVariables false
set_option linter.unusedSimpArgs false
namespace Go.Proofs.YtaedakihpnghjaaGreatDoor
open Go Go.Abs Go.Proofs Go.Shelf RowKit
theorem liesAt_off {P:Program} {e:TypeId} (hc:P.cellsOf e=1) (count n off:Nat) (hn:off+n≤count):liesAt P P.depth e count off e n=true:=by
 have hd:P.depth=(2*(P.types.size+Made.depth)+1)+1:=rfl
 rw[hd]
 simp only[liesAt,Bool.or_eq_true]
 left
 rw[hd]
 simp[rowAt,hc,hn,sameLayout]
 exact .inl (Nat.mod_one off)
theorem run_unsafeString_off {P:Program} (w:World) (pt it ty e:TypeId) (hp:P.underlying pt=some (.pointer e)) (hc:P.cellsOf e=1) (g off cells:Nat) (hsh:w.shape? g=some (e,cells)) (l:List UInt8) (h0:l≠[]) (hn:off+l.length≤cells) (h63:l.length≤9223372036854775807)
  (hcell:∀ j x,l[j]?=some x→w.cell? ((⟨g,off,none⟩:Addr).add j)=some (.int .u8 x.toNat)) :
  (Builtin.unsafeString_ #[pt,it] ty #[.pointer (some ⟨g,off,none⟩),.int .i64 l.length]).run P w=.ok (.string ⟨l.toArray⟩) (w.freeze ⟨g,off,none⟩ l.length):=by
 have hl:l.length≠0:=by simpa using h0
 have hlb:=Lib.run_loadBytes (P:=P) w l ⟨g,off,none⟩ .empty hcell
 have hlies:=liesAt_off (P:=P) hc (cells / P.cellsOf e) l.length off (by rw[hc];simpa using hn)
 have h63' : ¬ (9223372036854775807:Int)<(l.length:Int):=by omega
 have hdef:Builtin.unsafeString_ #[pt,it] ty #[.pointer (some ⟨g,off,none⟩),.int .i64 l.length] =
   (do
    let n ← asInt (.int .i64 l.length)
    if n<0 then runtimePanic (.error "unsafe.String: len out of range")
    if n>IntKind.i64.max then unsupported (.unsafePointer "String: a length above the largest int")
    if n=0 then pure (.string .empty)
    else if ← variablesAt ⟨g,off,none⟩ (← elemOf pt) n.toNat then do
     let s ← loadBytes ⟨g,off,none⟩ .empty n.toNat
     freeze ⟨g,off,none⟩ n.toNat
     pure (.string s)
    else unsupported (.unsafePointer "String: not so many bytes at ptr")):=rfl
 rw[hdef]
 have hmax:IntKind.i64.max=9223372036854775807:=rfl
 have hneg:¬ (l.length:Int)<0:=by omega
 simp[asInt,asIntOf,hmax,h63',hneg,hl,variablesAt,hsh,elemOf,run_underlying hp,hlies,hlb]
end Go.Proofs.YtaedakihpnghjaaGreatDoor
end
section
set_option linter.unusedVariables false
set_option linter.unusedSimpArgs false
namespace Go.Proofs.YtaedakihpnghjaaGreatDoor
open Go Go.Abs Go.Proofs Go.Shelf RowKit
section
variable {G:Nat→List AV} {base:Nat} {gh:Gh} {w w' : World} {H:AHeap}
theorem ret_step (hW:WRel G base H gh w) (st:Step (fun _=>False) H.length gh w gh w') {v:Value} {r:AV} (hv:VR gh H.length w' v r):RetOK G base H gh w r none v gh w' :=
 ⟨Nat.le_refl _,hW.step st (fun l=>⟨id,fun _=>id⟩) (fun b o h=>Nat.lt_of_lt_of_le (hW.sLt b o h) st.size) (fun b h=>⟨(hW.kLt b h).1,Nat.lt_of_lt_of_le (hW.kLt b h).2 st.size⟩) (fun _ _ _ h=>.inl h),
  st.mono (fun _ h=>h.elim),fun _ h=>h,.inl hv⟩
theorem step_freeze (hW:WRel G base H gh w) {b o n:Nat} {C:Array Value} {ty:TypeId} {fr:Nat × Nat} (hb:w.heap[b]?=some (.cells C ty fr)) (hn:n≠0) (hS:∀ j,j<n→gh.S b (o+j)) (h8:∃ m,C[o]?=some (.int .u8 m)) (m:Nat) :
  Step (fun _=>False) m gh w gh (w.drew.freeze ⟨b,o,none⟩ n):=by
 have hlt:b<w.heap.size:=(Array.getElem?_eq_some_iff.1 hb).1
 have hheap:∀ k,(w.drew.freeze ⟨b,o,none⟩ n).heap[k]?=if k=b then some (.cells C ty (if fr.1==fr.2 then (o,o+n) else (min fr.1 o,max fr.2 (o+n)))) else w.heap[k]?:=by
  intro k
  unfold World.freeze
  rw[if_neg hn]
  show (w.heap.modify b _)[k]?=_
  rw[Array.getElem?_modify]
  by_cases hk:k=b
  ·subst hk
   rw[if_pos rfl,if_pos rfl,hb]
   obtain⟨lo,hi⟩:=fr
   rfl
  ·rw[if_neg (fun e=>hk e.symm),if_neg hk]
 have hcell:∀ k j,(w.drew.freeze ⟨b,o,none⟩ n).cell? ⟨k,j,none⟩=w.cell? ⟨k,j,none⟩:=by
  intro k j
  simp only[World.cell?,hheap]
  by_cases hk:k=b
  ·subst hk;rw[if_pos rfl,hb]
  ·rw[if_neg hk]
 have hsize:(w.drew.freeze ⟨b,o,none⟩ n).heap.size=w.heap.size:=by
  unfold World.freeze
  rw[if_neg hn]
  show (w.heap.modify b _).size=_
  simp
 have hos:(w.drew.freeze ⟨b,o,none⟩ n).os=w.os∧(w.drew.freeze ⟨b,o,none⟩ n).tape=w.tape∧(w.drew.freeze ⟨b,o,none⟩ n).output=w.output:=by
  unfold World.freeze
  rw[if_neg hn]
  exact⟨rfl,rfl,rfl⟩
 refine⟨fun _ _ h=>h,fun k j _=>hcell k j,by rw[hsize];exact Nat.le_refl _,hos.1,hos.2.1,hos.2.2,fun k hk _=>⟨?_,rfl,fun _ h=>h⟩,fun k hk=>hW.not_outer k (by rw[← hsize];rw[hsize];exact hk),fun _ _=>rfl,fun k ty' m' hm=>?_,fun k E ck _ h0=>?_⟩
 rotate_left 2
 ·rw[hheap]
  by_cases hkb:k=b
  ·subst hkb;rw[hb] at h0;cases h0
  ·rw[if_neg hkb];exact h0
 ·rw[hheap]
  by_cases hkb:k=b
  ·subst hkb
   rw[if_pos rfl,hb]
   obtain⟨lo,hi⟩:=fr
   obtain⟨m8,h8⟩:=h8
   have hlast:∀ q,(∀ o,q≤o→¬ gh.S k o)→o+n≤q:=fun q hno=>by
    rcases Nat.lt_or_ge (o+(n-1)) q with h|h
    ·omega
    ·exact absurd (hS (n-1) (by omega)) (hno _ h)
   by_cases hlh:(lo==hi)=true
   ·exact .inr ⟨C,ty,lo,hi,o,o+n,rfl,by rw[if_pos hlh],⟨o,m8,by simpa using hS 0 (by omega),h8⟩,fun q hq hno=>hlast q hno⟩
   ·exact .inr ⟨C,ty,lo,hi,min lo o,max hi (o+n),rfl,by rw[if_neg hlh],⟨o,m8,by simpa using hS 0 (by omega),h8⟩,fun q hq hno=>by have:=hlast q hno;omega⟩
  ·rw[if_neg hkb];exact .inl rfl
 ·obtain⟨C',fr',h1,h2⟩:=hm
  by_cases hkb:k=b
  ·subst hkb
   rw[hb] at h1
   injection h1 with h1
   injection h1 with e1 e2 e3
   subst e1 e2
   exact⟨C,_,by rw[hheap,if_pos rfl],h2⟩
  ·exact⟨C',fr',by rw[hheap,if_neg hkb];exact h1,h2⟩
end
theorem run_getObj (P:Program) (w:World) {r:Nat} {o:Obj} (h:w.heap[r]?=some o) (hc:∀ C t f,o≠.cells C t f):(getObj r).run P w=.ok o w:=by
 cases o<;>first|(exact absurd rfl (hc _ _ _))|simp[getObj,Sem.run,h]
theorem run_sliceData0 (w:World) (ad:Addr) (h:ad.block<w.heap.size):∃ q W1,(Builtin.unsafeSliceData_ #[95] 118 #[.slice (some ad) 0 0]).run Tryz.prog w.drew=.ok (.pointer q) W1∧Below w.heap.size w W1:=by
 have hp:Tryz.prog.underlying 118=some (.pointer 5):=Tryz.underlying118
 have hdef:Builtin.unsafeSliceData_ #[95] 118 #[.slice (some ad) 0 0] =
   (do
    if (0:Nat)≠0 then pure (.pointer (some ad))
    else if (← viewAt ad.block).isSome then pure (.pointer (some ad))
    else pure (.pointer (some ⟨← newObj (.view ad (← elemOf 118)),0,none⟩))):=rfl
 have hlt:ad.block<w.drew.heap.size:=h
 rw[hdef]
 cases ho:w.drew.heap[ad.block]? with
 | none=>rw[Array.getElem?_eq_getElem hlt] at ho;cases ho
 | some o =>
  cases o with
  | cells C ty fr =>
   refine⟨some ⟨w.heap.size,0,none⟩,w.drew.alloc (.view ad 5),?_,(Below.drew (Below.refl _ w)).alloc (Nat.le_refl _) _⟩
   have hsh:w.drew.shape? ad.block=some (ty,C.size):=by simp[World.shape?,ho]
   simp[viewAt,hsh,elemOf,run_underlying hp]
  | view a t =>
   refine⟨some ad,w.drew,?_,Below.drew (Below.refl _ w)⟩
   have hg:=run_getObj Tryz.prog w.drew ho (fun _ _ _ h=>by cases h)
   have hsh:w.drew.shape? ad.block=none:=by simp[World.shape?,ho]
   simp[viewAt,hsh,hg,Result.andThen]
  | _ =>
   refine⟨some ⟨w.heap.size,0,none⟩,w.drew.alloc (.view ad 5),?_,(Below.drew (Below.refl _ w)).alloc (Nat.le_refl _) _⟩
   have hg:=run_getObj Tryz.prog w.drew ho (fun _ _ _ h=>by cases h)
   have hsh:w.drew.shape? ad.block=none:=by simp[World.shape?,ho]
   simp[viewAt,hsh,elemOf,run_underlying hp,hg,Result.andThen]
theorem cell_lt' {w:World} {b o:Nat} {v:Value} (h:w.cell? ⟨b,o,none⟩=some v):b<w.heap.size:=by
 rcases Nat.lt_or_ge b w.heap.size with h'|h'
 ·exact h'
 ·simp[World.cell?,Array.getElem?_eq_none h'] at h
theorem bytes_row:∀ {e:List (List AV)} {l:List UInt8},bytesOf e=some l→e.length=l.length∧∀ (i:Nat) (b:UInt8),l[i]?=some b→∃ m:Int,e[i]?=some [.int .u8 m]∧b=UInt8.ofNat m.toNat
 | [],l,h=>by
  simp only[bytesOf,Option.some.injEq] at h
  subst h
  exact⟨rfl,fun i b h=>by simp at h⟩
 | r :: e,l,h=>by
  unfold bytesOf at h
  split at h
  ·cases ‹_ :: _=[]›
  ·rename_i n e' heq
   injection heq with h1 h2
   subst h1 h2
   obtain⟨l',h3,rfl⟩:=Option.map_eq_some_iff.1 h
   obtain⟨k1,k2⟩:=bytes_row h3
   refine⟨by simp[k1],fun i b hb=>?_⟩
   cases i with
   | zero=>simp at hb;exact⟨n,rfl,hb.symm⟩
   | succ i=>exact k2 i b (by simpa using hb)
  ·cases h
theorem string_sound {G:Nat→List AV} : OvSound Tryz.prog G 56 ovString:=by
 intro args H r c he
 refine⟨fnOK 56 _ Tryz.func56 (by kernel_rfl) (by decide),?_⟩
 unfold ovString at he
 split at he
 ·rename_i l
  split at he
  ·rename_i x e hH
   obtain⟨h0,he⟩:=cond_some he
   simp only[Bool.and_eq_true] at h0
   have hlen:e.length≤4611686018427387904:=by simpa [Nat.ble_eq] using h0.1
   have hrange:=h0.2
   obtain⟨bs,hbs,he⟩:=Option.map_eq_some_iff.1 he
   simp only[Prod.mk.injEq] at he
   obtain⟨rfl,rfl⟩:=he
   obtain⟨hbl,hbr⟩:=bytes_row hbs
   have hlt:l<H.length:=(List.getElem?_eq_some_iff.1 hH).1
   refine⟨chg_none,fun base gh w vs hW _ hs hrel=>?_⟩
   obtain⟨u,rfl,hu⟩:=args1 hs hrel
   obtain⟨_,rfl⟩:=hu.inv_ref
   obtain⟨hκ,hS,C,ty,hb,hC,hcs⟩:=hW.boxes l _ _ hH
   have hC2:2≤C.size:=hC
   have h1:C[1]?=some C[1]:=Array.getElem?_eq_getElem (by omega)
   have hv:=(hcs 1 _ (.slice e true) h1 rfl).2
   have hcell:w.cell? ⟨gh.ρ l,1,none⟩=some C[1]:=by rw[cell_of_row w _ 1 C _ _ hb,h1]
   generalize C[1]=v at hv hcell
   by_cases hne:e=[]
   ·subst hne
    have hb0:bs=[]:=by
     simp only[bytesOf,Option.some.injEq] at hbs;exact hbs.symm
    subst hb0
    have hv' : ∃ a,v=.slice a 0 0∧∀ ad,a=some ad→ad.block<w.heap.size:=by
     rcases hv with hv|⟨e',heq,_,_,_,_,_,_,_,_,_,_,hne',_⟩
     ·cases hv with
      | plain _ _ h=>cases h
      | full a k _ h hz =>
       have hk:k=0:=by cases h with
        | sliceNil=>rfl
        | slice _ _ _ _ _ _ _ hn=>simpa using hn.symm
       subst hk
       exact⟨a,rfl,fun ad ha=>hz ad ha rfl⟩
     ·injection heq with heq;subst heq;exact absurd rfl hne'
    obtain⟨a,rfl,hz⟩:=hv'
    have c1:w.drew.cell? ⟨gh.ρ l,1,none⟩=some (.slice a 0 0):=hcell
    have fin:∀ (q:Option Addr) (W1:World),(Builtin.unsafeSliceData_ #[95] 118 #[.slice a 0 0]).run Tryz.prog w.drew=.ok (.pointer q) W1→Below w.heap.size w W1→Calls Tryz.prog 56 #[.pointer (some ⟨gh.ρ l,0,none⟩)] w fun e w'=>∃ v gh',e=.returned v∧RetOK G base H gh w (.str []) none v gh' w':=by
     intro q W1 hSD hbel
     have c2:W1.cell? ⟨gh.ρ l,1,none⟩=some (.slice a 0 0):=by rw[hbel.cell (cell_lt' hcell)];exact hcell
     refine (string_gen (gh.ρ l) a q 0 0 .empty w W1 W1 c1 c2 hSD (Lib.run_unsafeString_none W1 _ _ _ q)).mono ?_
     rintro e w' ⟨rfl,rfl⟩
     exact⟨_,gh,rfl,ret_below hW hbel (.plain _ _ (.str _ _ rfl))⟩
    cases a with
    | none=>exact fin none w.drew rfl (Below.drew (Below.refl _ w))
    | some ad =>
     obtain⟨q,W1,h1,h2⟩:=run_sliceData0 w ad (hz ad rfl)
     exact fin q W1 h1 h2
   ·have hpr:PR gh.S w v (.slice e false):=by
     rcases hv with hv|⟨e',heq,h,_⟩
     ·cases hv with
      | plain _ _ h=>cases h
      | full a k _ h hz=>exact h
     ·injection heq with heq;subst heq;exact h
    cases hpr with
    | sliceNil=>exact absurd rfl hne
    | slice b o n cap sz _ f hn hcap hrow hcell2 hrel2 =>
     subst hn
     have hpos:0<e.length:=List.length_pos_iff.2 hne
     have hbpos:0<bs.length:=by omega
     obtain⟨m0,hm0,_⟩:=hbr 0 bs[0] (List.getElem?_eq_getElem hbpos)
     have hsz:sz=1:=(hrow 0 _ hm0).symm
     subst hsz
     have each:∀ (i:Nat) (x:UInt8),bs[i]?=some x→gh.S b (o+i)∧w.cell? ⟨b,o+i,none⟩=some (.int .u8 x.toNat):=by
      intro i x hx
      obtain⟨m,hm,rfl⟩:=hbr i x hx
      obtain⟨k1,k2,_⟩:=hcell2 i 0 _ _ hm rfl
      have hr:=hrel2 i 0 _ _ hm rfl
      have hf:f i 0=.int .u8 m:=by
       generalize f i 0=V at hr
       cases hr;rfl
      simp only[Nat.mul_one,Nat.add_zero] at k1 k2
      refine⟨k1,?_⟩
      rw[k2,hf]
      have hm8:=List.all_eq_true.1 hrange _ (List.mem_of_getElem? hm)
      simp only[Bool.and_eq_true,decide_eq_true_eq] at hm8
      have e1:((UInt8.ofNat m.toNat).toNat:Int)=m:=by
       rw[UInt8.toNat_ofNat']
       omega
      rw[e1]
     obtain⟨Cb,fr,hbb⟩:∃ Cb fr,w.heap[b]?=some (.cells Cb byteTy fr):=by
      have:=each 0 bs[0] (List.getElem?_eq_getElem hbpos)
      exact hW.bytes b (o+0) _ this.1 this.2
     have hsh:w.drew.shape? b=some (5,Cb.size):=by
      have:w.drew.heap[b]?=some (.cells Cb byteTy fr):=hbb
      simp[World.shape?,this]
     have hin:o+bs.length≤Cb.size:=by
      have:=(each (bs.length-1) bs[bs.length-1] (List.getElem?_eq_getElem (by omega))).2
      rw[cell_of_row w b _ Cb _ _ hbb] at this
      have:=(Array.getElem?_eq_some_iff.1 this).1
      omega
     have c1:w.drew.cell? ⟨gh.ρ l,1,none⟩=some (.slice (some ⟨b,o,none⟩) e.length cap):=hcell
     have hSD:(Builtin.unsafeSliceData_ #[95] 118 #[.slice (some ⟨b,o,none⟩) e.length cap]).run Tryz.prog w.drew=.ok (.pointer (some ⟨b,o,none⟩)) w.drew:=Lib.run_unsafeSliceData_row _ _ _ _ _ _ (by omega)
     have hUS:=run_unsafeString_off (P:=Tryz.prog) w.drew 118 3 9 5 Tryz.underlying118 (by kernel_rfl) b o Cb.size hsh bs (by intro e;rw[e] at hbpos;simp at hbpos) hin (by omega) (fun j x hx=>by
      have hadd:(Addr.mk b o none).add j=⟨b,o+j,none⟩:=by
       unfold Addr.add
       split
       ·rename_i h0;subst h0;simp
       ·simp
      rw[hadd];exact (each j x hx).2)
     rw[← hbl] at hUS
     refine (string_gen (gh.ρ l) _ _ e.length cap _ w _ _ c1 c1 hSD hUS).mono ?_
     rintro e' w' ⟨rfl,rfl⟩
     refine⟨_,gh,rfl,ret_step hW (step_freeze hW hbb (by omega) (fun j hj=>(each j bs[j] (List.getElem?_eq_getElem (by omega))).1) ⟨bs[0].toNat,?_⟩ _) (.plain _ _ (.str _ _ rfl))⟩
     have:=(each 0 bs[0] (List.getElem?_eq_getElem hbpos)).2
     rw[cell_of_row w b _ Cb _ _ hbb] at this
     simpa using this
  ·cases he
 ·cases he
end Go.Proofs.YtaedakihpnghjaaGreatDoor
end
section
namespace Go.Abs
set_option linter.unusedSimpArgs false
set_option linter.unusedVariables false
def CallF.Le (f g:CallF):Prop:=∀ a b c r,f a b c=some r→g a b c=some r
section
variable {G:Nat→List AV} {f g:CallF}
theorem cond_mono {α:Type} {b:Bool} {x y:Option α} {r:α} (h:cond b x none=some r) (hxy:x=some r→y=some r):cond b y none=some r:=by
 cases b
 ·cases h
 ·exact hxy h
theorem evOp_mono (h:CallF.Le f g) {s:AS} {o:IOp} {r:AV × Option AS} (he:evOp G f s o=some r):evOp G g s o=some r:=by
 cases o with
 | call fn args =>
  simp only[evOp] at he ⊢
  split at he
  ·refine cond_mono he fun he=>?_
   simp only[Option.map_eq_some_iff] at he ⊢
   obtain⟨r0,h0,rfl⟩:=he
   exact⟨r0,h _ _ _ _ h0,rfl⟩
  ·cases he
 | callT fn pre x post =>
  simp only[evOp] at he ⊢
  refine cond_mono he fun he=>?_
  simp only[Option.bind_eq_some_iff,Option.map_eq_some_iff] at he ⊢
  obtain⟨p,hp,r0,h0,he⟩:=he
  exact⟨p,hp,r0,h _ _ _ _ h0,he⟩
 | callP fn args =>
  simp only[evOp] at he ⊢
  split at he
  ·refine cond_mono he fun he=>?_
   simp only[Option.bind_eq_some_iff] at he ⊢
   obtain⟨r0,h0,he⟩:=he
   exact⟨r0,h _ _ _ _ h0,he⟩
  ·cases he
 | _=>exact he
theorem evOper_mono (h:CallF.Le f g) {d:Bool} {s:AS} {o:IOper} {r:AS} (he:evOper G f d s o=some r):evOper G g d s o=some r:=by
 have key:∀ r,((evOp G f s o.op).bind fun r=>match r.2 with
   | none=>cond (d&&(genOf r.1).isSome) none (some (s.putD o.dst r.1))
   | some s'=>cond d none (some (s'.putD o.dst r.1)))=some r→((evOp G g s o.op).bind fun r=>match r.2 with
   | none=>cond (d&&(genOf r.1).isSome) none (some (s.putD o.dst r.1))
   | some s'=>cond d none (some (s'.putD o.dst r.1)))=some r:=by
  intro r hr
  simp only[Option.bind_eq_some_iff] at hr ⊢
  obtain⟨x,h1,h2⟩:=hr
  exact⟨x,evOp_mono h h1,h2⟩
 unfold evOper at he ⊢
 simp only at he ⊢
 split at he
 ·exact key _ he
 ·split at he
  ·rename_i b hb
   cases hbw:(b==_) with
   | true=>rw[hbw] at he;exact key _ he
   | false=>rw[hbw] at he;exact he
  ·exact he
  ·cases he
theorem evOps_mono (h:CallF.Le f g) {d:Bool} : ∀ {os:List IOper} {s r:AS},evOps G f d os s=some r→evOps G g d os s=some r
 | [],_,_,he=>he
 | o :: os,s,r,he=>by
  simp only[evOps,Option.bind_eq_some_iff] at he ⊢
  obtain⟨x,h1,h2⟩:=he
  exact⟨x,evOper_mono h h1,evOps_mono h h2⟩
theorem iter_mono {F F' : AS→Option (IExit × AS)} (h:∀ s r,F s=some r→F' s=some r):∀ {n m:Nat} {s:AS} {r:IExit × AS},n≤m→iter F n s=some r→iter F' m s=some r
 | 0,_,_,_,_,he=>by cases he
 | n+1,0,_,_,hn,_=>by omega
 | n+1,m+1,s,r,hn,he=>by
  simp only[iter,Option.bind_eq_some_iff] at he ⊢
  obtain⟨x,h1,h2⟩:=he
  refine⟨x,h _ _ h1,?_⟩
  split at h2
  ·exact iter_mono h (by omega) h2
  ·exact h2
theorem evC_mono (h:CallF.Le f g) {n m:Nat} (hn:n≤m):∀ {c:ICode} {s:AS} {r:IExit × AS},evC G f n c s=some r→evC G g m c s=some r
 | .skip,_,_,he=>he
 | .exit _,_,_,he=>he
 | .ret,_,_,he=>he
 | .anyr _ _ _,_,_,he=>by simp[evC] at he
 | .region d os,s,r,he=>by
  simp only[evC,Option.map_eq_some_iff] at he ⊢
  obtain⟨x,h1,h2⟩:=he
  exact⟨x,evOps_mono h h1,h2⟩
 | .seq a b,s,r,he=>by
  simp only[evC,Option.bind_eq_some_iff] at he ⊢
  obtain⟨x,h1,h2⟩:=he
  refine⟨x,evC_mono h hn h1,?_⟩
  split at h2
  ·exact evC_mono h hn h2
  ·exact h2
 | .cond c a b,s,r,he=>by
  simp only[evC] at he ⊢
  split at he
  ·rename_i t ht
   cases t
   ·exact evC_mono h hn (c:=b) he
   ·exact evC_mono h hn (c:=a) he
  ·cases he
 | .block id a,s,r,he=>by
  simp only[evC,Option.map_eq_some_iff] at he ⊢
  obtain⟨x,h1,h2⟩:=he
  exact⟨x,evC_mono h hn h1,h2⟩
 | .loop a,s,r,he=>by
  simp only[evC] at he ⊢
  exact iter_mono (fun s r h'=>evC_mono h hn h') hn he
theorem runF_mono (h:CallF.Le f g) {n m:Nat} (hn:n≤m) {fn:IFunc} {args:List AV} {H:AHeap} {r:AV × Option Chg} (he:runF G f n fn args H=some r):runF G g m fn args H=some r:=by
 unfold runF at he ⊢
 refine cond_mono he fun he=>?_
 simp only[Option.bind_eq_some_iff] at he ⊢
 obtain⟨x,h1,h2⟩:=he
 exact⟨x,evC_mono h hn h1,h2⟩
end
theorem evF_step {A:AP} : ∀ n,CallF.Le (evF A n) (evF A (n+1))
 | 0=>fun a b c r h=>by cases h
 | n+1=>fun a b c r h=>by
  simp only[evF] at h ⊢
  cases ho:A.ov a with
  | some g=>rw[ho] at h;exact h
  | none =>
   rw[ho] at h
   cases hf:A.fns a with
   | none=>rw[hf] at h;cases h
   | some fn=>rw[hf] at h;exact runF_mono (evF_step n) (by omega) h
theorem evF_mono {A:AP} {n m:Nat} (h:n≤m):CallF.Le (evF A n) (evF A m):=by
 induction h with
 | refl=>exact fun _ _ _ _ h=>h
 | step _ ih=>exact fun a b c r hr=>evF_step _ a b c r (ih a b c r hr)
noncomputable def callD (A:AP):CallF:=fun f args H=>open Classical in if h:∃ n r,evF A n f args H=some r then some (Classical.choose (Classical.choose_spec h)) else none
theorem callD_eq {A:AP} {f:FuncId} {args:List AV} {H:AHeap} {r:AV × Option Chg} : callD A f args H=some r↔∃ n,evF A n f args H=some r:=by
 unfold callD
 constructor
 ·intro h
  split at h
  ·rename_i hx
   have:=Classical.choose_spec (Classical.choose_spec hx)
   injection h with h
   rw[h] at this
   exact⟨_,this⟩
  ·cases h
 ·rintro ⟨n,hn⟩
  have hx:∃ n r,evF A n f args H=some r:=⟨n,r,hn⟩
  rw[dif_pos hx]
  have h1:=Classical.choose_spec (Classical.choose_spec hx)
  have h2:=evF_mono (Nat.le_max_left n (Classical.choose hx)) _ _ _ _ hn
  have h3:=evF_mono (Nat.le_max_right n (Classical.choose hx)) _ _ _ _ h1
  rw[h2] at h3
  injection h3 with h3
  rw[h3]
section
variable {A:AP}
theorem evOp_lim {s:AS} {o:IOp} {r:AV × Option AS} (he:evOp A.glob (callD A) s o=some r):∃ n,evOp A.glob (evF A n) s o=some r:=by
 cases o with
 | call fn args =>
  simp only[evOp] at he ⊢
  split at he
  ·rename_i n fs cs hf
   cases hb:((args.map fun a=>a.addr A.glob s.T).all frameCell) with
   | false=>rw[hb] at he;cases he
   | true =>
    rw[hb] at he
    simp only[cond_true,Option.map_eq_some_iff] at he
    obtain⟨r0,h0,rfl⟩:=he
    obtain⟨k,hk⟩:=callD_eq.1 h0
    exact⟨k,by simp only[hk,cond_true,Option.map_some]⟩
  ·cases he
 | callT fn pre x post =>
  simp only[evOp] at he ⊢
  cases hb:((pre.map fun a=>a.addr A.glob s.T).all frameCell&&(post.map fun a=>a.addr A.glob s.T).all frameCell) with
  | false=>rw[hb] at he;cases he
  | true =>
   rw[hb] at he
   simp only[cond_true,Option.bind_eq_some_iff,Option.map_eq_some_iff] at he
   obtain⟨p,hp,r0,h0,he⟩:=he
   obtain⟨k,hk⟩:=callD_eq.1 h0
   exact⟨k,by simp only[hp,hk,cond_true,Option.bind_some,Option.map_some,he]⟩
 | callP fn args =>
  simp only[evOp] at he ⊢
  split at he
  ·rename_i n fs cs hf
   cases hb:((args.map fun a=>a.addr A.glob s.T).all frameCell) with
   | false=>rw[hb] at he;cases he
   | true =>
    rw[hb] at he
    simp only[cond_true,Option.bind_eq_some_iff] at he
    obtain⟨r0,h0,he⟩:=he
    obtain⟨k,hk⟩:=callD_eq.1 h0
    exact⟨k,by simp only[hk,cond_true,Option.bind_some];exact he⟩
  ·cases he
 | _=>exact⟨0,he⟩
theorem evOper_lim {d:Bool} {s:AS} {o:IOper} {r:AS} (he:evOper A.glob (callD A) d s o=some r):∃ n,evOper A.glob (evF A n) d s o=some r:=by
 have key:∀ r,((evOp A.glob (callD A) s o.op).bind fun r=>match r.2 with
   | none=>cond (d&&(genOf r.1).isSome) none (some (s.putD o.dst r.1))
   | some s'=>cond d none (some (s'.putD o.dst r.1)))=some r→∃ n,((evOp A.glob (evF A n) s o.op).bind fun r=>match r.2 with
   | none=>cond (d&&(genOf r.1).isSome) none (some (s.putD o.dst r.1))
   | some s'=>cond d none (some (s'.putD o.dst r.1)))=some r:=by
  intro r hr
  simp only[Option.bind_eq_some_iff] at hr ⊢
  obtain⟨x,h1,h2⟩:=hr
  obtain⟨n,hn⟩:=evOp_lim h1
  exact⟨n,x,hn,h2⟩
 unfold evOper at he ⊢
 simp only at he ⊢
 split at he
 ·exact key _ he
 ·split at he
  ·rename_i b hb
   cases hbw:(b==_) with
   | true=>rw[hbw] at he;exact key _ he
   | false=>rw[hbw] at he;exact⟨0,he⟩
  ·exact⟨0,he⟩
  ·cases he
theorem evOps_lim {d:Bool} : ∀ {os:List IOper} {s r:AS},evOps A.glob (callD A) d os s=some r→∃ n,evOps A.glob (evF A n) d os s=some r
 | [],_,_,he=>⟨0,he⟩
 | o :: os,s,r,he=>by
  simp only[evOps,Option.bind_eq_some_iff] at he ⊢
  obtain⟨x,h1,h2⟩:=he
  obtain⟨n,hn⟩:=evOper_lim h1
  obtain⟨m,hm⟩:=evOps_lim h2
  exact⟨max n m,x,evOper_mono (evF_mono (Nat.le_max_left n m)) hn,evOps_mono (evF_mono (Nat.le_max_right n m)) hm⟩
theorem iter_lim {F:AS→Option (IExit × AS)} {F' : Nat→AS→Option (IExit × AS)} (hm:∀ n m s r,n≤m→F' n s=some r→F' m s=some r) (h:∀ s r,F s=some r→∃ n,F' n s=some r) :
  ∀ {n:Nat} {s:AS} {r:IExit × AS},iter F n s=some r→∃ m,iter (F' m) n s=some r
 | 0,_,_,he=>by cases he
 | n+1,s,r,he=>by
  simp only[iter,Option.bind_eq_some_iff] at he ⊢
  obtain⟨x,h1,h2⟩:=he
  obtain⟨m1,hm1⟩:=h _ _ h1
  split at h2
  ·obtain⟨m2,hm2⟩:=iter_lim hm h h2
   refine⟨max m1 m2,x,hm _ _ _ _ (Nat.le_max_left _ _) hm1,?_⟩
   rename_i hx
   simp only[hx]
   exact iter_mono (fun s r=>hm _ _ _ _ (Nat.le_max_right _ _)) (Nat.le_refl _) hm2
  ·rename_i hx
   refine⟨m1,x,hm1,?_⟩
   split
   ·rename_i hx';exact absurd hx' hx
   ·exact h2
theorem evC_lim {n:Nat} : ∀ {c:ICode} {s:AS} {r:IExit × AS},evC A.glob (callD A) n c s=some r→∃ m,evC A.glob (evF A m) n c s=some r
 | .skip,_,_,he=>⟨0,he⟩
 | .exit _,_,_,he=>⟨0,he⟩
 | .ret,_,_,he=>⟨0,he⟩
 | .anyr _ _ _,_,_,he=>by simp[evC] at he
 | .region d os,s,r,he=>by
  simp only[evC,Option.map_eq_some_iff] at he ⊢
  obtain⟨x,h1,h2⟩:=he
  obtain⟨m,hm⟩:=evOps_lim h1
  exact⟨m,x,hm,h2⟩
 | .seq a b,s,r,he=>by
  simp only[evC,Option.bind_eq_some_iff] at he ⊢
  obtain⟨x,h1,h2⟩:=he
  obtain⟨m1,hm1⟩:=evC_lim h1
  split at h2
  ·rename_i hx
   obtain⟨m2,hm2⟩:=evC_lim h2
   refine⟨max m1 m2,x,evC_mono (evF_mono (Nat.le_max_left _ _)) (Nat.le_refl _) hm1,?_⟩
   simp only[hx]
   exact evC_mono (evF_mono (Nat.le_max_right _ _)) (Nat.le_refl _) hm2
  ·rename_i hx
   refine⟨m1,x,hm1,?_⟩
   split
   ·rename_i hx';exact absurd hx' hx
   ·exact h2
 | .cond c a b,s,r,he=>by
  simp only[evC] at he ⊢
  split at he
  ·rename_i t ht
   cases t
   ·exact evC_lim (c:=b) he
   ·exact evC_lim (c:=a) he
  ·cases he
 | .block id a,s,r,he=>by
  simp only[evC,Option.map_eq_some_iff] at he ⊢
  obtain⟨x,h1,h2⟩:=he
  obtain⟨m,hm⟩:=evC_lim h1
  exact⟨m,x,hm,h2⟩
 | .loop a,s,r,he=>by
  simp only[evC] at he ⊢
  exact iter_lim (F':=fun m=>evC A.glob (evF A m) n a) (fun n' m s r hn h=>evC_mono (evF_mono hn) (Nat.le_refl _) h) (fun s r h=>evC_lim h) he
theorem runF_lim {n:Nat} {fn:IFunc} {args:List AV} {H:AHeap} {r:AV × Option Chg} (he:runF A.glob (callD A) n fn args H=some r):∃ m,runF A.glob (evF A m) n fn args H=some r:=by
 unfold runF at he ⊢
 cases hb:Nat.beq args.length fn.np with
 | false=>rw[hb] at he;cases he
 | true =>
  rw[hb] at he
  simp only[cond_true,Option.bind_eq_some_iff] at he ⊢
  obtain⟨x,h1,h2⟩:=he
  obtain⟨m,hm⟩:=evC_lim h1
  exact⟨m,x,hm,h2⟩
theorem callD_run {f:FuncId} {fn:IFunc} (ho:A.ov f=none) (hf:A.fns f=some fn) {n:Nat} {args:List AV} {H:AHeap} {r:AV × Option Chg} (h:runF A.glob (callD A) n fn args H=some r):callD A f args H=some r:=by
 obtain⟨m,hm⟩:=runF_lim h
 refine callD_eq.2 ⟨max m n+1,?_⟩
 simp only[evF,ho,hf]
 exact runF_mono (evF_mono (Nat.le_max_left _ _)) (Nat.le_max_right _ _) hm
theorem callD_ov {f:FuncId} {g:List AV→AHeap→Option (AV × Option Chg)} (ho:A.ov f=some g) {args:List AV} {H:AHeap} {r:AV × Option Chg} (h:g args H=some r) (hn:args.all noRight=true:=by rfl):callD A f args H=some r :=
 callD_eq.2 ⟨1,by simp only[evF,ho,hn,cond_true];exact h⟩
end
end Go.Abs
end
section
namespace Go.Abs
set_option linter.unusedSimpArgs false
set_option linter.unusedVariables false
def W (A:AP) (c:ICode) (s:AS) (Q:IExit→AS→Prop):Prop:=∃ n e s',evC A.glob (callD A) n c s=some (e,s')∧Q e s'
def WO (A:AP) (d:Bool) (os:List IOper) (s:AS) (Q:AS→Prop):Prop:=∃ s',evOps A.glob (callD A) d os s=some s'∧Q s'
def bindW {α:Type} (x:Option α) (K:α→Prop):Prop:=∃ s,x=some s∧K s
def condW (v:AV) (p q:AS→Prop) (s:AS):Prop:=∃ b,v=.bool b∧(b=true→p s)∧(b=false→q s)
def andThen (P:AS→Prop) (Q:IExit→AS→Prop):IExit→AS→Prop
 | .normal,s=>P s
 | e,s=>Q e s
def leave (id:Nat) (Q:IExit→AS→Prop):IExit→AS→Prop
 | .exit i,s=>Q (cond (Nat.beq i id) .normal (.exit i)) s
 | e,s=>Q e s
section
variable {A:AP}
theorem bindW_some {α:Type} {s:α} {K:α→Prop} : bindW (some s) K=K s:=by
 refine propext ⟨?_,fun h=>⟨s,rfl,h⟩⟩
 rintro ⟨s',h,hk⟩
 injection h with h
 rw[h];exact hk
theorem condW_true {p q:AS→Prop} {s:AS} : condW (.bool true) p q s=p s:=by
 refine propext ⟨?_,fun h=>⟨true,rfl,fun _=>h,fun hb=>Bool.noConfusion hb⟩⟩
 rintro ⟨b,h,h1,h2⟩
 injection h with h
 exact h1 h.symm
theorem condW_false {p q:AS→Prop} {s:AS} : condW (.bool false) p q s=q s:=by
 refine propext ⟨?_,fun hq=>⟨false,rfl,(fun hb=>Bool.noConfusion hb),fun _=>hq⟩⟩
 rintro ⟨b,h,h1,h2⟩
 injection h with h
 exact h2 h.symm
theorem condW_split {b:Bool} {p q:AS→Prop} {s:AS} (h1:b=true→p s) (h2:b=false→q s):condW (.bool b) p q s:=⟨b,rfl,h1,h2⟩
theorem condW_dec {P:Prop} {_:Decidable P} {p q:AS→Prop} {s:AS} (h1:P→p s) (h2:¬ P→q s):condW (.bool (decide P)) p q s :=
 ⟨_,rfl,fun h=>h1 (of_decide_eq_true h),fun h=>h2 (of_decide_eq_false h)⟩
theorem up {n m:Nat} (h:n≤m) {c:ICode} {s:AS} {r:IExit × AS} (he:evC A.glob (callD A) n c s=some r):evC A.glob (callD A) m c s=some r:=evC_mono (fun _ _ _ _ h=>h) h he
theorem W_skip {s:AS} {Q:IExit→AS→Prop} : W A .skip s Q=Q .normal s:=by
 refine propext ⟨?_,fun h=>⟨0,_,_,rfl,h⟩⟩
 rintro ⟨n,e,s',h,hq⟩
 simp only[evC,Option.some.injEq,Prod.mk.injEq] at h
 rw[h.1,h.2];exact hq
theorem W_ret {s:AS} {Q:IExit→AS→Prop} : W A .ret s Q=Q .ret s:=by
 refine propext ⟨?_,fun h=>⟨0,_,_,rfl,h⟩⟩
 rintro ⟨n,e,s',h,hq⟩
 simp only[evC,Option.some.injEq,Prod.mk.injEq] at h
 rw[h.1,h.2];exact hq
theorem W_exit {i:Nat} {s:AS} {Q:IExit→AS→Prop} : W A (.exit i) s Q=Q (.exit i) s:=by
 refine propext ⟨?_,fun h=>⟨0,_,_,rfl,h⟩⟩
 rintro ⟨n,e,s',h,hq⟩
 simp only[evC,Option.some.injEq,Prod.mk.injEq] at h
 rw[h.1,h.2];exact hq
theorem W_seq {a b:ICode} {s:AS} {Q:IExit→AS→Prop} : W A (.seq a b) s Q=W A a s (andThen (fun s'=>W A b s' Q) Q):=by
 refine propext ⟨?_,?_⟩
 ·rintro ⟨n,e,s',h,hq⟩
  simp only[evC,Option.bind_eq_some_iff] at h
  obtain⟨⟨e1,s1⟩,h1,h2⟩:=h
  refine⟨n,e1,s1,h1,?_⟩
  cases e1 with
  | normal=>exact⟨n,e,s',h2,hq⟩
  | _ =>
   simp only[Option.some.injEq,Prod.mk.injEq] at h2
   obtain⟨rfl,rfl⟩:=h2
   exact hq
 ·rintro ⟨n,e,s',h,hq⟩
  cases e with
  | normal =>
   obtain⟨m,e2,s2,h2,hq⟩:=hq
   refine⟨max n m,e2,s2,?_,hq⟩
   simp only[evC,up (Nat.le_max_left n m) h,Option.bind_some,up (Nat.le_max_right n m) h2]
  | exit i =>
   refine⟨n,_,s',?_,hq⟩
   simp only[evC,h,Option.bind_some]
  | ret =>
   refine⟨n,_,s',?_,hq⟩
   simp only[evC,h,Option.bind_some]
theorem W_block {i:Nat} {a:ICode} {s:AS} {Q:IExit→AS→Prop} : W A (.block i a) s Q=W A a s (leave i Q):=by
 refine propext ⟨?_,?_⟩
 ·rintro ⟨n,e,s',h,hq⟩
  simp only[evC,Option.map_eq_some_iff] at h
  obtain⟨⟨e1,s1⟩,h1,h2⟩:=h
  refine⟨n,e1,s1,h1,?_⟩
  cases e1<;>simp only[Prod.mk.injEq] at h2<;>obtain⟨rfl,rfl⟩:=h2<;>exact hq
 ·rintro ⟨n,e,s',h,hq⟩
  cases e<;>exact⟨n,_,s',by simp only[evC,h,Option.map_some],hq⟩
theorem W_cond {c:IArg} {a b:ICode} {s:AS} {Q:IExit→AS→Prop} : W A (.cond c a b) s Q=condW (c.eval A.glob s.T) (fun s=>W A a s Q) (fun s=>W A b s Q) s:=by
 refine propext ⟨?_,?_⟩
 ·rintro ⟨n,e,s',h,hq⟩
  simp only[evC] at h
  split at h
  ·rename_i t ht
   refine⟨t,ht,fun hb=>?_,fun hb=>?_⟩
   ·subst hb;exact⟨n,e,s',h,hq⟩
   ·subst hb;exact⟨n,e,s',h,hq⟩
  ·cases h
 ·rintro ⟨t,ht,h1,h2⟩
  cases t with
  | true =>
   obtain⟨n,e,s',h,hq⟩:=h1 rfl
   exact⟨n,e,s',by simp only[evC,ht];exact h,hq⟩
  | false =>
   obtain⟨n,e,s',h,hq⟩:=h2 rfl
   exact⟨n,e,s',by simp only[evC,ht];exact h,hq⟩
theorem W_region {d:Bool} {os:List IOper} {s:AS} {Q:IExit→AS→Prop} : W A (.region d os) s Q=WO A d os s (Q .normal):=by
 refine propext ⟨?_,?_⟩
 ·rintro ⟨n,e,s',h,hq⟩
  simp only[evC,Option.map_eq_some_iff,Prod.mk.injEq] at h
  obtain⟨s1,h1,rfl,rfl⟩:=h
  exact⟨s1,h1,hq⟩
 ·rintro ⟨s1,h1,hq⟩
  exact⟨0,.normal,s1,by simp only[evC,h1,Option.map_some],hq⟩
theorem WO_nil {d:Bool} {s:AS} {Q:AS→Prop} : WO A d [] s Q=Q s:=by
 refine propext ⟨?_,fun h=>⟨s,rfl,h⟩⟩
 rintro ⟨s',h,hq⟩
 simp only[evOps,Option.some.injEq] at h
 rw[h];exact hq
theorem WO_cons {d:Bool} {o:IOper} {os:List IOper} {s:AS} {Q:AS→Prop} : WO A d (o :: os) s Q=bindW (evOper A.glob (callD A) d s o) fun s'=>WO A d os s' Q:=by
 refine propext ⟨?_,?_⟩
 ·rintro ⟨s',h,hq⟩
  simp only[evOps,Option.bind_eq_some_iff] at h
  obtain⟨s1,h1,h2⟩:=h
  exact⟨s1,h1,s',h2,hq⟩
 ·rintro ⟨s1,h1,s',h2,hq⟩
  exact⟨s',by simp only[evOps,h1,Option.bind_some,h2],hq⟩
theorem W_mono {c:ICode} {s:AS} {Q Q' : IExit→AS→Prop} (h:W A c s Q) (hq:∀ e s',Q e s'→Q' e s'):W A c s Q':=by
 obtain⟨n,e,s',h1,h2⟩:=h
 exact⟨n,e,s',h1,hq e s' h2⟩
theorem W_loop {a:ICode} {Q:IExit→AS→Prop} (I:Nat→AS→Prop) (hI:∀ k s,I k s→W A a s (andThen (fun s'=>∃ k',k' < k∧I k' s') Q)):∀ k s,I k s→W A (.loop a) s Q:=by
 intro k
 induction k using Nat.strongRecOn with
 | _ k ih =>
  intro s hs
  obtain⟨n,e,s1,h1,hq⟩:=hI k s hs
  cases e with
  | normal =>
   obtain⟨k',hk,hs1⟩:=hq
   obtain⟨m,e2,s2,h2,hq⟩:=ih k' hk s1 hs1
   refine⟨max n m+1,e2,s2,?_,hq⟩
   simp only[evC,iter] at h2 ⊢
   have h1':=up (A:=A) (show n≤max n m+1 by omega) h1
   rw[h1',Option.bind_some]
   have h2' : iter (evC A.glob (callD A) (max n m+1) a) (max n m) s1=some (e2,s2) :=
    iter_mono (fun s r h=>up (show m≤max n m+1 by omega) h) (Nat.le_max_right n m) h2
   exact h2'
  | exit i =>
   refine⟨n+1,_,s1,?_,hq⟩
   simp only[evC,iter]
   rw[up (A:=A) (show n≤n+1 by omega) h1,Option.bind_some]
  | ret =>
   refine⟨n+1,_,s1,?_,hq⟩
   simp only[evC,iter]
   rw[up (A:=A) (show n≤n+1 by omega) h1,Option.bind_some]
theorem W_count {a:ICode} {Q:IExit→AS→Prop} (n:Nat) (I:Nat→AS→Prop) (hI:∀ k s,k≤n→I k s→W A a s (andThen (fun s'=>k<n∧I (k+1) s') Q)) (k:Nat) (s:AS) (hk:k≤n) (hs:I k s):W A (.loop a) s Q:=by
 refine W_loop (fun j s=>∃ k,k≤n∧j=n-k∧I k s) (fun j s h=>?_) (n-k) s ⟨k,hk,rfl,hs⟩
 obtain⟨k,hk,rfl,hs⟩:=h
 refine W_mono (hI k s hk hs) fun e s' hq=>?_
 cases e with
 | normal =>
  obtain⟨h1,h2⟩:=hq
  exact⟨n-(k+1),by omega,k+1,by omega,rfl,h2⟩
 | _=>exact hq
def Ex (i:Nat) (P V:AS→Prop):IExit→AS→Prop
 | .exit j,s=>j=i∧P s
 | .ret,s=>V s
 | .normal,_=>False
theorem W_loopx {a:ICode} {s:AS} {Q:IExit→AS→Prop} (id:Nat) (P V:AS→Prop) (h:W A (.loop a) s (Ex id P V)) (hp:∀ s',P s'→Q (.exit id) s') (hv:∀ s',V s'→Q .ret s'):W A (.loop a) s Q:=by
 refine W_mono h fun e s' hq=>?_
 cases e with
 | normal=>exact hq.elim
 | exit j=>obtain⟨rfl,hq⟩:=hq;exact hp s' hq
 | ret=>exact hv s' hq
theorem W_countx {a:ICode} {Q:IExit→AS→Prop} (n id:Nat) (I:Nat→AS→Prop) (P V:AS→Prop) (hI:∀ k s,k≤n→I k s→W A a s (andThen (fun s'=>k<n∧I (k+1) s') (Ex id P V)))
  (hp:∀ s',P s'→Q (.exit id) s') (hv:∀ s',V s'→Q .ret s') (k:Nat) (s:AS) (hk:k≤n) (hs:I k s):W A (.loop a) s Q :=
 W_loopx id P V (W_count n I hI k s hk hs) hp hv
def Hd (P:AFrame→Prop) (H:AHeap) (lo gen:Nat) (s:AS):Prop:=P s.T∧s.H=H∧s.lo=lo∧s.gen=gen
theorem Hd.out {P:AFrame→Prop} {H:AHeap} {lo gen:Nat} {s:AS} (h:Hd P H lo gen s):∃ T,s=⟨T,H,lo,gen⟩∧P T:=by
 obtain⟨T,H',l',g'⟩:=s
 obtain⟨h1,h2,h3,h4⟩:=h
 simp only at h1 h2 h3 h4
 subst h2 h3 h4
 exact⟨T,rfl,h1⟩
def HdG (P:AFrame→Prop) (H:AHeap) (lo:Nat) (s:AS):Prop:=P s.T∧s.H=H∧s.lo=lo
theorem HdG.out {P:AFrame→Prop} {H:AHeap} {lo:Nat} {s:AS} (h:HdG P H lo s):∃ T g,s=⟨T,H,lo,g⟩∧P T:=by
 obtain⟨T,H',l',g'⟩:=s
 obtain⟨h1,h2,h3⟩:=h
 simp only at h1 h2 h3
 subst h2 h3
 exact⟨T,g',rfl,h1⟩
def fin (base:Nat) (rs:List IRes) (s:AS):Option (AV × Option Chg) :=
 cond (openOK base s) ((resVal s rs).bind fun r=>cond (r.leaves base) (some (r,cond (Nat.beq s.lo base) none (some ⟨s.H.take base,s.lo⟩))) none) none
def done (base:Nat) (rs:List IRes) (r:AV × Option Chg):IExit→AS→Prop
 | .exit _,_=>False
 | _,s=>fin base rs s=some r
def doneP (base:Nat) (rs:List IRes) (P:AV × Option Chg→Prop):IExit→AS→Prop
 | .exit _,_=>False
 | _,s=>bindW (fin base rs s) P
theorem resRow_of {s:AS} {r:IRes} {b:Nat} (h:resRow s r=some b):resOf s r=none:=by
 cases r with
 | tmp t =>
  simp only[resRow] at h
  simp only[resOf]
  split at h
  ·rename_i hT;rw[hT];rfl
  ·rename_i hT;rw[hT];rfl
  ·cases h
 | cell=>cases h
theorem finArr_some {s:AS} {m:Nat} {rs:List IRes} {q:AV × Option Chg} (he:finArr m rs s=some q):∃ i l off n z,rs=[i]∧resOf s i=some (.sref l off n z)∧m≤l:=by
 unfold finArr at he
 split at he
 ·rename_i i
  simp only[Option.bind_eq_some_iff] at he
  obtain⟨v,hv,he⟩:=he
  split at he
  ·rename_i l off n z
   split at he
   ·rename_i ty cs hH
    cases hb:(Nat.ble m l&&cs.all AV.plain) with
    | false=>rw[hb] at he;cases he
    | true =>
     simp only[Bool.and_eq_true,Nat.ble_eq] at hb
     exact⟨i,l,off,n,z,rfl,hv,hb.1⟩
   ·cases he
  ·cases he
 ·cases he
theorem arr_none {base:Nat} {fn:IFunc} {s:AS} {r:AV × Option Chg} (h:finish0 base fn.results s=some r):finArrF base fn s=none:=by
 cases hf:finArrF base fn s with
 | none=>rfl
 | some q =>
  exfalso
  unfold finArrF at hf
  cases hb:fn.muts.elem 888888 with
  | false=>rw[hb] at hf;cases hf
  | true =>
   rw[hb,cond_true] at hf
   obtain⟨i,l,off,n,z,hrs,hres,hml⟩:=finArr_some hf
   unfold finish0 resVal at h
   rw[hrs] at h
   simp only at h
   cases hr:resRow s i with
   | some b=>rw[resRow_of hr] at hres;cases hres
   | none =>
    rw[hr] at h
    simp only[hres,Option.bind_some] at h
    have:(AV.sref l off n z).leaves base=false:=by
     simp only[AV.leaves,AV.partOut,AV.cellOut]
     cases hb:Nat.blt l base with
     | false=>rfl
     | true=>rw[Nat.blt_eq] at hb;omega
    rw[this] at h
    cases h
theorem fin_finish {base:Nat} {fn:IFunc} {s:AS} {r:AV × Option Chg} (h:fin base fn.results s=some r):finish base fn s=some r:=by
 unfold fin at h
 cases ho:openOK base s with
 | false=>rw[ho] at h;cases h
 | true =>
  rw[ho,cond_true] at h
  have h:finish0 base fn.results s=some r:=h
  unfold finish finish1
  rw[ho,cond_true,arr_none h,h]
def donePub (base:Nat) (fn:IFunc) (P:AV × Option Chg→Prop):IExit→AS→Prop
 | .exit _,_=>False
 | _,s=>∃ r,finish base fn s=some r∧P r
theorem callD_Pub {f:FuncId} {fn:IFunc} (ho:A.ov f=none) (hf:A.fns f=some fn) {args:List AV} {H:AHeap} {P:AV × Option Chg→Prop} (hn:Nat.beq args.length fn.np=true)
  (h:W A fn.body { T:=initT args,H,lo:=H.length,gen:=0 } (donePub H.length fn P)):∃ r,callD A f args H=some r∧P r:=by
 obtain⟨n,e,s',h1,h2⟩:=h
 have key:∀ r,finish H.length fn s'=some r→callD A f args H=some r:=by
  intro r hr
  refine callD_run ho hf (n:=n) ?_
  unfold runF
  rw[hn,cond_true,h1,Option.bind_some]
  cases e with
  | exit i=>exact h2.elim
  | _=>exact hr
 cases e with
 | exit i=>exact h2.elim
 | _=>obtain⟨r,hr,hP⟩:=h2;exact⟨r,key r hr,hP⟩
theorem callD_W {f:FuncId} {fn:IFunc} (ho:A.ov f=none) (hf:A.fns f=some fn) {args:List AV} {H:AHeap} {r:AV × Option Chg} (hn:Nat.beq args.length fn.np=true)
  (h:W A fn.body { T:=initT args,H,lo:=H.length,gen:=0 } (done H.length fn.results r)):callD A f args H=some r:=by
 obtain⟨n,e,s',h1,h2⟩:=h
 refine callD_run ho hf (n:=n) ?_
 unfold runF
 rw[hn,cond_true,h1,Option.bind_some]
 cases e with
 | exit i=>exact h2.elim
 | _=>exact fin_finish h2
end
section
variable {A:AP} {T:AFrame} {H:AHeap} {lo gen:Nat} {Q:IExit→AS→Prop} {K:AS→Prop} {d:Bool}
theorem x_seq {a b:ICode} : W A (.seq a b) ⟨T,H,lo,gen⟩ Q=W A a ⟨T,H,lo,gen⟩ (andThen (fun s'=>W A b s' Q) Q):=W_seq
theorem x_block {i:Nat} {a:ICode} : W A (.block i a) ⟨T,H,lo,gen⟩ Q=W A a ⟨T,H,lo,gen⟩ (leave i Q):=W_block
theorem x_cond {c:IArg} {a b:ICode} : W A (.cond c a b) ⟨T,H,lo,gen⟩ Q=condW (c.eval A.glob T) (fun s=>W A a s Q) (fun s=>W A b s Q) ⟨T,H,lo,gen⟩:=W_cond
theorem x_region {os:List IOper} : W A (.region d os) ⟨T,H,lo,gen⟩ Q=WO A d os ⟨T,H,lo,gen⟩ (Q .normal):=W_region
theorem x_skip:W A .skip ⟨T,H,lo,gen⟩ Q=Q .normal ⟨T,H,lo,gen⟩:=W_skip
theorem x_ret:W A .ret ⟨T,H,lo,gen⟩ Q=Q .ret ⟨T,H,lo,gen⟩:=W_ret
theorem x_exit {i:Nat} : W A (.exit i) ⟨T,H,lo,gen⟩ Q=Q (.exit i) ⟨T,H,lo,gen⟩:=W_exit
theorem x_nil:WO A d [] ⟨T,H,lo,gen⟩ K=K ⟨T,H,lo,gen⟩:=WO_nil
theorem x_setT {t:Nat} {v:AV} : AS.setT ⟨T,H,lo,gen⟩ t v=⟨T.put t v,H,lo,gen⟩:=rfl
theorem x_chg {h:AHeap} {l:Nat} : AS.chg ⟨T,H,lo,gen⟩ ⟨h,l⟩=⟨T,h,cond (Nat.blt l lo) l lo,gen⟩:=rfl
theorem x_normal {P:AS→Prop} : andThen P Q .normal ⟨T,H,lo,gen⟩=P ⟨T,H,lo,gen⟩:=rfl
theorem x_aret {P:AS→Prop} : andThen P Q .ret ⟨T,H,lo,gen⟩=Q .ret ⟨T,H,lo,gen⟩:=rfl
theorem x_aexit {P:AS→Prop} {i:Nat} : andThen P Q (.exit i) ⟨T,H,lo,gen⟩=Q (.exit i) ⟨T,H,lo,gen⟩:=rfl
theorem x_locg {P:AFrame→Prop} {H' : AHeap} {lo' : Nat} : HdG P H' lo' ⟨T,H,lo,gen⟩=(P T∧H=H'∧lo=lo'):=rfl
theorem x_exexit {i:Nat} {P V:AS→Prop} : Ex i P V (.exit i) ⟨T,H,lo,gen⟩=P ⟨T,H,lo,gen⟩:=propext ⟨fun h=>h.2,fun h=>⟨rfl,h⟩⟩
theorem x_exret {i:Nat} {P V:AS→Prop} : Ex i P V .ret ⟨T,H,lo,gen⟩=V ⟨T,H,lo,gen⟩:=rfl
theorem x_loc {P:AFrame→Prop} {H' : AHeap} {lo' gen' : Nat} : Hd P H' lo' gen' ⟨T,H,lo,gen⟩=(P T∧H=H'∧lo=lo'∧gen=gen'):=rfl
theorem x_dret {base:Nat} {rs:List IRes} {r:AV × Option Chg} : done base rs r .ret ⟨T,H,lo,gen⟩=(fin base rs ⟨T,H,lo,gen⟩=some r):=rfl
theorem x_dnormal {base:Nat} {rs:List IRes} {r:AV × Option Chg} : done base rs r .normal ⟨T,H,lo,gen⟩=(fin base rs ⟨T,H,lo,gen⟩=some r):=rfl
theorem x_dpret {base:Nat} {rs:List IRes} {P:AV × Option Chg→Prop} : doneP base rs P .ret ⟨T,H,lo,gen⟩=bindW (fin base rs ⟨T,H,lo,gen⟩) P:=rfl
theorem x_dpnormal {base:Nat} {rs:List IRes} {P:AV × Option Chg→Prop} : doneP base rs P .normal ⟨T,H,lo,gen⟩=bindW (fin base rs ⟨T,H,lo,gen⟩) P:=rfl
theorem x_lnormal {i:Nat} : leave i Q .normal ⟨T,H,lo,gen⟩=Q .normal ⟨T,H,lo,gen⟩:=rfl
theorem x_lret {i:Nat} : leave i Q .ret ⟨T,H,lo,gen⟩=Q .ret ⟨T,H,lo,gen⟩:=rfl
theorem x_lexit {i:Nat} : leave i Q (.exit i) ⟨T,H,lo,gen⟩=Q .normal ⟨T,H,lo,gen⟩:=by simp[leave]
theorem x_lexit' {i j:Nat} : leave i Q (.exit j) ⟨T,H,lo,gen⟩=if j=i then Q .normal ⟨T,H,lo,gen⟩ else Q (.exit j) ⟨T,H,lo,gen⟩:=by
 by_cases hne:j=i
 ·subst hne;rw[if_pos rfl];exact x_lexit
 rw[if_neg hne]
 have hb:Nat.beq j i=false:=by
  cases hb:Nat.beq j i with
  | false=>rfl
  | true=>exact absurd (Nat.eq_of_beq_eq_true hb) hne
 simp[leave,hb]
end
theorem beq_self {n:Nat} : Nat.beq n n=true:=Nat.beq_refl n
theorem put_eq {T:AFrame} {d:Nat} {v:AV} : (T.put d v) d=v:=by simp[AFrame.put]
theorem put_ne {T:AFrame} {d i:Nat} {v:AV} (h:(i==d)=false):(T.put d v) i=T i:=by
 have hne:i≠d:=by simpa using h
 have hb:Nat.beq i d=false:=by
  cases hb:Nat.beq i d with
  | false=>rfl
  | true=>exact absurd (Nat.eq_of_beq_eq_true hb) hne
 simp only[AFrame.put,hb];rfl
theorem put_get {T:AFrame} {d i:Nat} {v:AV} : (T.put d v) i=if i=d then v else T i:=by
 by_cases h:i=d
 ·rw[if_pos h,h,put_eq]
 ·rw[if_neg h,put_ne (by simpa using h)]
theorem initT_zero {a:AV} {l:List AV} : initT (a :: l) 0=a:=rfl
theorem initT_succ {a:AV} {l:List AV} {n:Nat} : initT (a :: l) (n+1)=initT l n:=by simp[initT]
end Go.Abs
end
