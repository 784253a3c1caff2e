/-
  A part of the proof of PrintLossless: Y6, Y1, Y2, Y7, Y3, Y4, Y9, Y8, Y11.
-/
import Derived.KernelRfl
import Derived.WalkKit
import Derived.Deep.LoopGhost
import Derived.Lib.Walk
import Derived.Lib.SliceRun
import Derived.Test.YtnhpoddlmjpapaaGreatDoorQ14
set_option linter.unusedSimpArgs false
set_option linter.unusedVariables false
set_option linter.defProp false
set_option maxHeartbeats 2000000
set_option maxRecDepth 100000
noncomputable section
namespace Go.Proofs.YtnhpoddlmjpapaaGreatDoor
open Go Go.Abs Go.Proofs
variable {f:Fm}{k:Int}{a b l:List aB}{m:Nat}{s:aB}
def zH(f:Fm):aB:=qs (fj f) f.layout
def lQ(l:List Fm):aB:=(l.map zH).flatten
def BQ(s:So):aB:=qs (ff s) s.head++lQ s.defs++s.fin
def Cm{l:List Fm} : lQ (l++[f])=lQ l++zH f:=by simp[lQ]
structure DfX (f:Fm):Prop where
 k:0<=f.kind/\f.kind<=5
 p:gP f=true
 n:(fj f).length<=8192
 b:∀ s∈fj f,s.length<=8192
 l:f.layout.length=(fj f).length+1
 lb:∀ s∈f.layout,s.length<=8192
structure SoX (s:So):Prop where
 a:s.name.length<=1100000
 ul:s.jc.length<=1100000
 ub:∀ u∈s.jc,u.length<=1100000
 h0:0<(ff s).length
 hn:(ff s).length<=8192
 hb:∀ u∈ff s,u.length<=8192
 l:s.head.length=(ff s).length+1
 lb:∀ u∈s.head,u.length<=8192
 dl:s.defs.length<=8192
 d:∀ f∈s.defs,DfX f
 e:s.fin.length<=8192
theorem zX{y:List aB}(hl:l.length<=8192)(hb:∀ s∈l,s.length<=8192)(j7:∀ s∈y,s.length<=8192):(qs l y).length<=140000000:=by
 have h1:=vl hb j7 l.length;have h2:l.length*(2*8192)<=8192*(2*8192):=au6 _ hl;have h3:=ph j7 l.length;unfold qs
 grind
def F5:∀ {l:List Fm},(∀ f∈l,DfX f)->(lQ l).length<=l.length*140000000
 | [],_=>by simp[lQ]
 | f :: l,h=>by
  have ih:=F5 (l:=l) fun g hg=>h g (xD hg)
  have h1:=h f ag;have h2:=zX h1.n h1.b h1.lb;unfold lQ at ih ⊢;simp only[au9,avo,List.length_append,List.length_cons,zH] at ih ⊢;omega
def Gg : 3<=(fj f).length:=by unfold fj;simp only[List.length_append,List.length_cons,List.length_nil];omega
def AI(h:DfX f):0<((fj f).getD 0 []).length:=by
 have e:(fj f).getD 0 []=fI.getD f.kind.toNat []:=by unfold fj;rfl
 obtain⟨k0,k5⟩:=h.k;have:f.kind.toNat=0\/f.kind.toNat=1\/f.kind.toNat=2\/f.kind.toNat=3\/f.kind.toNat=4\/f.kind.toNat=5:=ah
 rw[e]
 rcases this with e|e|e|e|e|e<;>rw[e]<;>decide
def Iu{s:So}(h:0<(ff s).length):0<((ff s).getD 0 []).length:=by
 unfold ff at h ⊢;split at h
 ·rename_i hc
  rw[if_pos hc]
  show 0<([109,111,100,117,108,101]:aB).length
  decide
 ·cases h
def acF(h:DfX f)(H:ae):aj A 33 [.agg (bZ f)] H=some (.str (zH f),none):=by
 have hn:=h.n;have ht:=G8 h.k h.p ah (H++[.box 85 (bZ f)]);have h3:=Gg (f:=f);rw[bZ] at ht ⊢;have dp:(((fj f).length:Int)==0)=false:=awX.2 ah;have hj:=Gw (fj f) f.layout (H++[.box 85 (bZ f)]) ah ah h.b h.lb h.l (AI h);rw[bZ] at hj;refine cB (fn:=aeh) rfl rfl rfl ?_;unfold aeh zH;simp(disch:=omega)only[aO,aa,simprocAttr,ht,bG,dp,hj,ab]
theorem W8(h:DfX f):(zH f==[])=false:=by
 have h1:=Gv (y:=f.layout) (by have:=Gg (f:=f);omega) (AI h)
 cases hd:(zH f==[]) with
 | false=>rfl
 | true =>
  have h4:=awu List.length (eq_of_beq hd);unfold zH qs at h4
  grind
theorem QX{s:So}(hb:SoX s)(H:ae):aj A 9 [.agg (nu s)] H=some (.str (BQ s),none):=by
 have ht:=J5 s.name s.jc (.slice (s.defs.map bZ) false) (.slice (strs s.head) false) (.str s.fin) hb.a hb.ul hb.ub (H++[.box 33 (nu s)]) rfl rfl rfl rfl rfl rfl;have hdl:=hb.dl;have CN:=hb.e;have hh0:=hb.h0;have hhn:=hb.hn;have aih:∀ i,(lQ (s.defs.take i)).length<=8192*140000000:=fun i=>by
  have h1:=F5 (l:=s.defs.take i) fun f hf=>hb.d f (avL hf)
  grind
 have tU:=zX hb.hn hb.hb hb.lb;refine cB (fn:=ir9) rfl rfl rfl ?_;rw[nu] at ht ⊢;have hbx:(H++[bM.box 33 [.str s.name,.slice (strs s.jc) false,.slice (s.defs.map bZ) false,.slice (strs s.head) false,.str s.fin]])[H.length]?=some (.box 33 [.str s.name,.slice (strs s.jc) false,.slice (s.defs.map bZ) false,.slice (strs s.head) false,.str s.fin]):=mG;have tG:(H++[bM.box 33 [.str s.name,.slice (strs s.jc) false,.slice (s.defs.map bZ) false,.slice (strs s.head) false,.str s.fin]]).take H.length=H:=Gk;have hrh:ff ⟨s.name,s.jc,[],[],[]⟩=ff s:=rfl;rw[hrh] at ht;have hjo:=Gw (ff s) s.head (H++[bM.box 33 [.str s.name,.slice (strs s.jc) false,.slice (s.defs.map bZ) false,.slice (strs s.head) false,.str s.fin]]) hh0 ah hb.hb hb.lb hb.l (Iu hh0);generalize hK:H++[bM.box 33 [.str s.name,.slice (strs s.jc) false,.slice (s.defs.map bZ) false,.slice (strs s.head) false,.str s.fin]]=K at ht hjo hbx tG;have dp:(((ff s).length:Int)==0)=false:=awX.2 ah;refine im 3 (fun st=>∃ T,st=⟨T,K,H.length,0⟩/\T 1=.ref H.length 0/\T 4=.str (qs (ff s) s.head)) ?_ ?_
 ·unfold ir9
  simp only[aH.pre];simp(disch:=omega)only[aO,aa,simprocAttr,hK,ht,hbx,bG,dp,hjo,ab];exact⟨_,rfl,jd,jd⟩
 ·rintro st ⟨T,rfl,e1,e4⟩
  obtain⟨J,hJ⟩:∃ J,J=qs (ff s) s.head:=⟨_,rfl⟩;rw[<- hJ] at e4 tU;unfold ir9;simp only[aH.post];simp(disch:=omega)only[aO,aa,simprocAttr,e1,hbx,ab];refine cj s.defs.length 0 (fun i st=>∃ T g,st=⟨T,K,H.length,g⟩/\T 1=.ref H.length 0/\T 18=.slice (s.defs.map bZ) false/\T 19=.int .i64 s.defs.length/\T 20=.int .i64 i/\T 4=.str (J++lQ (s.defs.take i)))
   (fun st=>∃ T g,st=⟨T,K,H.length,g⟩/\T 1=.ref H.length 0/\T 4=.str (J++lQ s.defs)) (fun _=>False) ?_ ?_ (fun _ h=>h.elim) 0 _ (Nat.zero_le _) ?_
  ·rintro i st hi ⟨T,g,rfl,e1,e18,D2,e20,e4⟩
   by_cases aZ:i<s.defs.length
   ·have hx:=auS aZ
    have hm:=avj aZ;have mO:=kg hx;generalize s.defs[i]=u at hx hm mO;have gb:=aaT hx;have hu:=hb.d u hm;have hdf:=acF hu K;have amW:=zX hu.n hu.b hu.lb;have hds:=aih i;have jX:J++lQ (s.defs.take i)++zH u=J++lQ (s.defs.take (i+1)):=by rw[mO,Cm,au8]
    have MG:=W8 hu;have hlJ:(J++lQ (s.defs.take i)).length<=2000000000000:=by rw[List.length_append];omega
    rw[<- zH] at amW;rw[bZ] at gb hdf;generalize zH u=du at *;generalize J++lQ (s.defs.take i)=acc at e4 jX hlJ;simp(disch:=omega)only[aO,aa,simprocAttr,e18,D2,e20,e4,gb,hdf,MG,ab];refine⟨aZ,_,_,rfl,?_,?_,?_,?_,?_⟩
    all_goals exact WI e1 e18 D2 jX
   ·rw[avq ah] at e4
    simp(disch:=omega)only[aO,aa,simprocAttr,D2,e20];exact⟨_,_,rfl,fY e1,fY e4⟩
  ·rintro st ⟨T,g,rfl,e1,e4⟩
   have hds:=aih s.defs.length;rw[avr] at hds;have e:BQ s=J++lQ s.defs++s.fin:=by unfold BQ;rw[<- hJ]
   rw[e];have hlJ:(J++lQ s.defs).length<=2000000000000:=by rw[List.length_append];omega
   generalize J++lQ s.defs=acc at e4 hlJ;simp(disch:=omega)only[aO,aa,simprocAttr,e1,e4,hbx,tG,ab]
  ·refine⟨_,_,rfl,?_,?_,?_,?_,?_⟩
   all_goals simp(disch:=omega)only[dr,aa,simprocAttr,e1,e4,lQ,av8]
theorem afZ(s:aB)(at' : Nat)(H:ae)(gb:at'<=s.length)(hs:s.length<=4611686018427387904) :
  aj A 48 [.str s,.int .i64 at'] H=some (.int .i64 ((at' + bY false (s.drop at'):Nat):Int),none):=by
 refine cW ajk.eq_1 ?_;simp(disch:=omega)only[jh,aa,simprocAttr];refine uZ s.length (fun i=>Hd (fun T=>∃ c,T 0=.str s/\T 1=.int .i64 i/\T 5=.bool c/\at' + bY false (s.drop at')=i+bY c (s.drop i)) H H.length 0) ?_ at' _ gb ?_
 ·rintro i st hi gZ
  obtain⟨T,rfl,c,h0,h1,h5,hc⟩:=gZ.out;simp(disch:=omega)only[jh,aa,simprocAttr,h0,h1];refine jt ?_ ?_<;>intro h
  ·have j8:i<s.length:=ah
   rw[avf j8] at hc;simp only[bY] at hc;simp(disch:=omega)only[jh,aa,simprocAttr,h0,h1,auS j8];refine jG ?_ ?_<;>intro hb
   ·have iJ:s[i].toNat=10:=by
     have:((s[i].toNat:Int))=10:=cT hb
     omega
    rw[if_pos iJ] at hc;simp(disch:=omega)only[jh,aa,simprocAttr,h0,h1]
    grind
   have iJ:s[i].toNat≠10:=fun e=>by rw[e] at hb;simp at hb
   rw[if_neg iJ] at hc;simp(disch:=omega)only[jh,aa,simprocAttr];refine jG ?_ ?_<;>intro j7
   ·have adb:s[i].toNat=35:=by
     have:((s[i].toNat:Int))=35:=cT j7
     omega
    rw[if_pos adb] at hc;simp(disch:=omega)only[jh,aa,simprocAttr,h0,h1]
    grind
   have adb:s[i].toNat≠35:=fun e=>by rw[e] at j7;simp at j7
   rw[if_neg adb] at hc
   by_cases hb3:s[i].toNat=32
   ·rw[if_neg (xD hb3)] at hc
    simp(disch:=omega)only[jh,aa,simprocAttr,h0,h1,h5,hb3,bne_self_eq_false]
    grind
   ·have ah7:((s[i].toNat:Int) != 32)=true:=dw
    cases c with
    | true =>
     rw[if_neg ag] at hc;simp(disch:=omega)only[jh,aa,simprocAttr,h0,h1,h5,ah7]
     grind
    | false =>
     rw[if_pos (xD hb3)] at hc;simp(disch:=omega)only[jh,aa,simprocAttr,h1,h5,ah7];omega
  ·have:i=s.length:=ah
   subst this;rw[awr] at hc;simp only[bY] at hc;simp(disch:=omega)only[jh,aa,simprocAttr,h1];omega
 ·simp(disch:=omega)only[jh,aa,simprocAttr]
  exact⟨false,rfl,rfl⟩
def ZM(s:aB)(H:ae)(hs:s.length<=4611686018427387904) :
  aj A 20 [.str s] H=some (.tuple [.slice (fV (cN s).1) false,.str (cN s).2.1,.int .i64 (cN s).2.2],none):=by
 refine cW aje.eq_1 ?_
 by_cases Tx:8192<s.length
 ·have e:cN s=([],[],8192):=by unfold cN;rw[if_pos Tx]
  rw[e];simp(disch:=omega)only[dr,aa,simprocAttr];rfl
 have e:=FL s Tx;generalize cN s=R at e;simp(disch:=omega)only[dr,aa,simprocAttr];refine oD 0 (fun k=>Hd (fun T=>∃ (off:Nat) (acc:List Tok),T 0=.str s/\T 5=.slice (fV acc) true/\T 6=.int .i64 off/\off<=s.length/\k=s.length-off/\acc.length<=off/\ahead acc (ik (s.drop off) off)=R) H H.length 0)
  (fun _=>False) (Hd (fun T=>∃ o,T 2=.slice (fV R.1) o/\T 3=.str R.2.1/\T 4=.int .i64 R.2.2) H H.length 0) ?_ (fun _ h=>h.elim) ?_ s.length _ ?_
 ·rintro k st gZ
  obtain⟨T,rfl,off,acc,h0,h5,h6,mN,hk,yq,hc⟩:=gZ.out;have Fw:=afZ s off H mN ah;have hle:=n9 false (s.drop off);rw[avw] at hle
  by_cases w7:bY false (s.drop off)=(s.drop off).length
  ·rw[K7 w7] at hc
   subst hc;rw[avw] at w7;rw[w7] at Fw;have e1:off+(s.length-off)=s.length:=ah;rw[e1] at Fw;simp(disch:=omega)only[dr,aa,simprocAttr,h0,h5,h6,Fw,avr];exact⟨false,rfl⟩
  ·have aZ:bY false (s.drop off)<s.length-off:=by rw[avw] at w7;omega
   have IS:=aaO s (off+bY false (s.drop off)) H ah ah;have qq:=BU (s.drop (off+bY false (s.drop off)));rw[avw] at qq
   by_cases jo:il (s.drop (off+bY false (s.drop off)))=0
   ·rw[K6 w7 (by rw[av'];exact jo)] at hc
    subst hc;rw[if_pos jo] at IS;generalize hm:off+bY false (s.drop off)=m at Fw IS;have CP:off<=m:=ah;have Lw:m<s.length:=ah;clear hm;simp(disch:=omega)only[dr,aa,simprocAttr,h0,h6,Fw,IS];exact⟨true,rfl,rfl⟩
   ·rw[if_neg jo] at IS
    generalize tF:bY false (s.drop off)=k at Fw IS aZ jo qq;generalize IY:il (s.drop (off+k))=n at IS jo qq;rw[G2 tF IY ah jo] at hc;have MD:off+k+n<=s.length:=ah;have hn0:0<n:=ah;generalize hm:off+k=m at Fw IS hc MD;have CP:off<=m:=ah;have Lw:m<s.length:=ah;clear hm tF IY qq aZ w7 hle;generalize hp:m+n=p at IS hc MD;have D5:m<p:=ah;clear hp;simp(disch:=omega)only[dr,aa,simprocAttr,h0,h5,h6,Fw,IS,N4];exact⟨s.length-p,ah,p,_,rfl,rfl,ah,rfl,dw,hc⟩
 ·intro st gZ
  obtain⟨T,rfl,o,h2,h3,h4⟩:=gZ.out;simp(disch:=omega)only[jh,aa,simprocAttr,h2,h3,h4]
 ·simp(disch:=omega)only[jh,aa,simprocAttr]
  exact⟨0,[],rfl,rfl,ah,ah,ag,cT e⟩
def Hh(s:aB):Prop:=s.length<=17
def tw:List aB:=[[102],[120,49],[99,97,115,101],[80,111,105,110,116],[97,86,101,114,121,76,111,110,103,78,97,109,101,49,50,51],[105,102],[90,57],[110,111,116]]
def uV:List aB:=[[40],[41],[123],[125],[91],[93],[44],[58],[46],[61],[61,61],[45,62],[43],[45],[42],[47],[37],[60]]
def Dl:List aB:=[[48],[55],[52,50],[49,50,51,52,53,54,55,56,57,48,49,50,51,52,53,54]]
def IC:∀ s,s∈tw\/s∈uV\/s∈Dl->Hh s:=by
 have h:(tw++uV++Dl).all (fun s=>decide (s.length<=17))=true:=a8
 intro s hs;have hm:s∈tw++uV++Dl:=by
  rcases hs with h|h|h
  ·exact auY.2 (.inl (auY.2 (.inl h)))
  ·exact auY.2 (.inl (auY.2 (.inr h)))
  ·exact auY.2 (.inr h)
 have:=auX.1 h s hm
 show s.length<=17
 simpa using this
def Y2(n:Int)(H:ae)(hn:BZ n):∃ s,Hh s/\aj A 22 [.int .i64 n] H=some (.str s,none):=by
 obtain⟨r1,r2⟩:=lr (n:=n) (k:=1000000) ah;have ha:=qS n 1000000 H hn ah;generalize mi n 1000000=k at r1 r2 ha;have key:∃ r,aj A 22 [.int .i64 n] H=some r/\∃ s,Hh s/\r=(.str s,none):=by
  refine ug (fn:=aed) rfl rfl rfl ?_;unfold aed;have hm5:k.tmod 5=k % 5:=avH r1;have hd5:k.tdiv 5=k / 5:=awV r1;obtain⟨a,ha8,ea⟩:∃ a:Nat,a<8/\(k / 5).tmod 8=a:=⟨((k / 5).tmod 8).toNat,by rw[avH ah];omega,by rw[avH ah];omega⟩
  obtain⟨b,ada,eb⟩:∃ a:Nat,a<18/\(k / 5).tmod 18=a:=⟨((k / 5).tmod 18).toNat,by rw[avH ah];omega,by rw[avH ah];omega⟩
  obtain⟨c,vO,ec⟩:∃ a:Nat,a<4/\(k / 5).tmod 4=a:=⟨((k / 5).tmod 4).toNat,by rw[avH ah];omega,by rw[avH ah];omega⟩
  have wa:=iz (auS (show a<tw.length from ha8))
  have wb:=iz (auS (show b<uV.length from ada))
  have wc:=iz (auS (show c<Dl.length from vO))
  have sa:=IC _ (.inl (avj (show a<tw.length from ha8)))
  have sb:=IC _ (.inr (.inl (avj (show b<uV.length from ada))))
  have sc:=IC _ (.inr (.inr (avj (show c<Dl.length from vO))))
  generalize tw[a]'ha8=xa at wa sa;generalize uV[b]'ada=xb at wb sb;generalize Dl[c]'vO=xc at wc sc;have pw:([[.str [102]],[.str [120,49]],[.str [99,97,115,101]],[.str [80,111,105,110,116]],[.str [97,86,101,114,121,76,111,110,103,78,97,109,101,49,50,51]],[.str [105,102]],[.str [90,57]],[.str [110,111,116]]]:List (List AV))=strs tw:=rfl;have anB:k % 5=0\/k % 5=1\/k % 5=2\/k % 5=3\/k % 5=4:=ah;have w8:((strs tw).length:Int)=8:=rfl;have w18:((strs uV).length:Int)=18:=rfl;have P1:cQ 1 [[AV.str []],[AV.str []],[AV.str []],[AV.str []],[AV.str []],[AV.str []],[AV.str []],[AV.str []]] [(0,AV.str [102]),(1,AV.str [120,49]),(2,AV.str [99,97,115,101]),(3,AV.str [80,111,105,110,116]),(4,AV.str [97,86,101,114,121,76,111,110,103,78,97,109,101,49,50,51]),(5,AV.str [105,102]),(6,AV.str [90,57]),(7,AV.str [110,111,116])]=some (strs tw):=rfl;have P2:cQ 1 [[AV.str []],[AV.str []],[AV.str []],[AV.str []],[AV.str []],[AV.str []],[AV.str []],[AV.str []],[AV.str []],[AV.str []],[AV.str []],[AV.str []],[AV.str []],[AV.str []],[AV.str []],[AV.str []],[AV.str []],[AV.str []]] [(0,AV.str [40]),(1,AV.str [41]),(2,AV.str [123]),(3,AV.str [125]),(4,AV.str [91]),(5,AV.str [93]),(6,AV.str [44]),(7,AV.str [58]),(8,AV.str [46]),(9,AV.str [61]),(10,AV.str [61,61]),(11,AV.str [45,62]),(12,AV.str [43]),(13,AV.str [45]),(14,AV.str [42]),(15,AV.str [47]),(16,AV.str [37]),(17,AV.str [60])]=some (strs uV):=rfl;have P3:cQ 1 [[AV.str []],[AV.str []],[AV.str []],[AV.str []]] [(0,AV.str [48]),(1,AV.str [55]),(2,AV.str [52,50]),(3,AV.str [49,50,51,52,53,54,55,56,57,48,49,50,51,52,53,54])]=some (strs Dl):=rfl
  rcases anB with h|h|h|h|h
  all_goals
   simp(disch:=omega)only[aO,aa,simprocAttr,ha,hm5,hd5,h,P1,P2,P3,w8,w18,ea,eb,ec,wa,wb,wc]
  ·exact⟨xa,sa,rfl⟩
  ·exact⟨xa,sa,rfl⟩
  ·exact⟨xc,sc,rfl⟩
  ·exact⟨xb,sb,rfl⟩
  ·exact⟨xb,sb,rfl⟩
 obtain⟨r,h1,s,h2,rfl⟩:=key;exact⟨s,h2,h1⟩
def ZQ(s:aB)(n:Nat)(H:ae)(hs:s.length<=4611686018427387904)(hn:n<=1000):aj A 7 [.str s,.int .i64 n] H=some (.str (s.take n),none):=by
 refine cW ir7.eq_1 ?_
 by_cases h:n<s.length
 ·exact tL
 ·rw[avq ah]
  exact tL
def UJ:∀ {l:List Nat} {n:Nat},n∈l->n<=l.sum
 | a :: l,n,h=>by
  rw[aw7]
  rcases avi.1 h with rfl|h
  ·omega
  ·have:=UJ h;omega
def O6(h:(cN s).2.2=-1):∀ t∈(cN s).1,t.text.length<=8192/\t.before.length<=8192:=by
 obtain⟨h1,h2,_⟩:=NH h;intro t ht;have h3:=awu List.length h2;have h4:(t.before++t.text).length<=((cN s).1.map fun t=>t.before++t.text).flatten.length:=by
  rw[List.length_flatten];exact UJ (awW (awW ht))
 rw[List.length_append] at h3 h4;omega
def F1(s:aB)(a h b:Int)(H:ae)(hs:s.length<=4611686018427387904)(ha:BZ a)(hh:BZ h)(hb:BZ b) :
  ∃ r,aj A 6 [.str s,.int .i64 a,.int .i64 h,.int .i64 b] H=some r/\∃ t:aB,t.length<=s.length+300000000/\r=(.str t,none):=by
 have hsc:=ZM s H hs;refine ug (fn:=ir6) rfl rfl rfl ?_;unfold ir6
 by_cases mN:(cN s).2.2=-1
 ·obtain⟨-, -,aic,nw, -⟩:=y6 mN
  have qq:=O6 mN;rw[mb,List.length_map] at aic;rw[mN] at hsc;generalize (cN s).2.1=fin at *;generalize (cN s).1=l at *
  by_cases hl:l=[]
  ·subst hl
   have h0:(((fV []).length:Int)==0)=true:=rfl;simp(disch:=omega)only[aO,aa,simprocAttr,hsc,h0];exact⟨s,ah,rfl⟩
  have hl0:0<l.length:=awo.2 hl;have hlen:(fV l).length=l.length:=zc;have dp:((l.length:Int)==0)=false:=dw;obtain⟨r1,r2⟩:=lr (n:=a) (k:=l.length) ah;obtain⟨r3,r4⟩:=lr (n:=b) (k:=l.length) ah;obtain⟨r5,r6⟩:=lr (n:=h) (k:=9) ah;have h1:=qS a l.length H ha ah;have h2:=qS b l.length H hb ah;have h3:=qS h 9 H hh ah;obtain⟨p,hp,h4⟩:=Y2 b H hb;obtain⟨i,hi⟩:∃ i:Nat,mi a l.length=i:=⟨(mi a l.length).toNat,ah⟩;obtain⟨j,hj⟩:∃ i:Nat,mi b l.length=i:=⟨(mi b l.length).toNat,ah⟩;obtain⟨k,hk⟩:∃ i:Nat,mi h 9=i:=⟨(mi h 9).toNat,ah⟩;rw[hi] at h1 r1 r2;rw[hj] at h2 r3 r4;rw[hk] at h3 r5 r6;have gi:=IH (auS (show i<l.length by omega))
  have gj:=IH (auS (show j<l.length by omega))
  have bi:=qq _ (avj (show i<l.length by omega))
  have bj:=qq _ (avj (show j<l.length by omega))
  generalize l[i]'ah=x at gi bi;generalize l[j]'ah=y at gj bj;obtain⟨X,hX⟩:∃ X:List aB,X=[[],x.text++[32]++x.text,p,y.text,[40]++x.text++[41],[40]++x.text,x.text++[41],[48,48,55],[45,48]]:=⟨_,rfl⟩;have hXk:∃ u:aB,(strs X)[k]?=some [.str u]/\u.length<=20000:=by
   have hX9:X.length=9:=by rw[hX];rfl
   refine⟨X[k]'ah,iz (auS _),?_⟩;have hm:=avj (show k<X.length by omega)
   have oz:p.length<=17:=hp;generalize X[k]'ah=u at hm;rw[hX] at hm;simp only[avi,avE,awk] at hm
   rcases hm with rfl|rfl|rfl|rfl|rfl|rfl|rfl|rfl|rfl<;>simp<;>omega
  obtain⟨u,hu,T6⟩:=hXk;have aoa:[[AV.str []],[AV.str (x.text++[32]++x.text)],[AV.str p],[AV.str y.text],[AV.str (40 :: (x.text++[41]))],[AV.str (40 :: x.text)],[AV.str (x.text++[41])],[AV.str [48,48,55]],[AV.str [45,48]]]=strs X:=by rw[hX];rfl
  simp(disch:=omega)only[aO,aa,simprocAttr,hsc,dp,hlen,h1,h2,h4,gi,gj,Cs,aoa,List.length_append,ab];refine cj l.length 0 (fun q st=>∃ T acc g,st=⟨T,H,H.length,g⟩/\T 9=.slice (fV l) false/\T 10=.str fin/\T 12=.int .i64 i/\T 2=.int .i64 h/\T 15=.slice (strs X) true/\T 16=.str acc/\T 17=.int .i64 q/\acc.length<=q*30000)
   (fun st=>∃ T acc g,st=⟨T,H,H.length,g⟩/\T 16=.str acc/\T 10=.str fin/\acc.length<=8192*30000) (fun _=>False) ?_ ?_ (fun _ h=>h.elim) 0 _ ah ?_
  ·rintro q st hq ⟨T,acc,g,rfl,e9,zg,e12,e2,Ws,RC,e17,yq⟩
   by_cases aZ:q<l.length
   ·have gq:=IH (auS aZ)
    have bq:=qq _ (avj aZ);generalize l[q]=z at gq bq;have hm:(q+1)*30000=q*30000+30000:=ah;have Lw:q*30000<=8192*30000:=au6 _ ah
    by_cases hqi:q=i
    ·have hx:(((q:Nat):Int)==((i:Nat):Int))=true:=by simp[hqi]
     simp(disch:=omega)only[aO,aa,simprocAttr,e9,e12,e2,Ws,RC,e17,hlen,gq,Cs,hx,h3,hu,List.length_append,ab];refine⟨aZ,_,_,_,rfl,?_,?_,?_,?_,?_,rfl,?_,?_⟩
     all_goals first|(simp(disch:=omega)only[dr,aa,simprocAttr,e9,zg,e12,e2,Ws];done)|skip
     ·rw[List.length_append,List.length_append];omega
    ·have hx:(((q:Nat):Int)==((i:Nat):Int))=false:=dw
     simp(disch:=omega)only[aO,aa,simprocAttr,e9,e12,RC,e17,hlen,gq,Cs,hx,List.length_append,ab];refine⟨aZ,_,_,_,rfl,?_,?_,?_,?_,?_,rfl,?_,?_⟩
     all_goals first|(simp(disch:=omega)only[dr,aa,simprocAttr,e9,zg,e12,e2,Ws];done)|skip
     ·rw[List.length_append,List.length_append];omega
   ·have:q=l.length:=ah
    subst this;simp(disch:=omega)only[aO,aa,simprocAttr,e9,e17,hlen];exact⟨_,_,_,rfl,fY RC,fY zg,avx yq (au6 _ aic)⟩
  ·rintro st ⟨T,acc,g,rfl,RC,zg,yq⟩
   simp(disch:=omega)only[aO,aa,simprocAttr,RC,zg];exact⟨acc++fin,by rw[List.length_append];omega,rfl⟩
  ·exact⟨_,[],_,rfl,jd,jd,jd,jd,jd,jd,jd,ag⟩
 ·have dp:((cN s).2.2 != -1)=true:=cT mN
  simp(disch:=omega)only[aO,aa,simprocAttr,hsc,dp];exact⟨s,ah,rfl⟩
section
theorem Z0{k:Nat}{a b:Nat->Nat}(h0:a 0=b 0)(hs:∀ i,i<k->a (i+1)+b i<=b (i+1)+a i)(hk:b k<=a k):∀ i,i<=k->a i=b i:=by
 have up:∀ j i,i+j<=k->b i+a (i+j)<=b (i+j)+a i:=by
  intro j
  induction j with
  | zero=>intro i _;simp only[au7];omega
  | succ j ih =>
   grind
 intro i hi;have h1:=up i 0 ah;have h2:=up (k-i) i ah
 grind
section
variable {tk:List Tk}{n:Nat}
theorem Pd:∀ (k:Nat) (us:List aB) (s:PS) (r:List aB × PS),rQ (az tk) k us s=some r->r.2.bad=false->us.all isWord=true->s.bad=false/\r.2.i+2*us.length=s.i+2*r.1.length/\r.1.all isWord=true
 | 0,_,_,_,h,_,_=>by cases h
 | k+1,us,s,r,h,hb,hw=>by
  unfold rQ at h;cases hc:(!s.bad&&(pk (az tk) s==Au)) with
  | false =>
   grind
  | true =>
   rw[hc,cond_true] at h;simp only[auT,avg] at hc;have hx:(aL (az tk) s.up).2.bad=false->isWord (aL (az tk) s.up).1=true/\(aL (az tk) s.up).2.i=s.i+2:=fun hb=>⟨(iK hb).2.1,by rw[mw hb];rfl⟩
   have CQ:(aL (az tk) s.up).2.bad=false:=by
    cases xJ:(aL (az tk) s.up).2.bad with
    | false=>rfl
    | true=>rw[(yQ _ _ _ _ h).bad xJ] at hb;cases hb
   obtain⟨h1,h2⟩:=hx CQ;obtain⟨_,h3,h4⟩:=Pd k _ _ r h hb (by rw[awI,hw];simp[h1])
   grind
theorem Cn:∀ (k:Nat) (a:List Fm × List Nat) (s:PS) (r:(List Fm × List Nat) × PS),o8 (az tk) n k a s=some r->r.2.bad=false->s.bad=false/\∃ m,r.1.2=a.2++m
 | 0,_,_,_,h,_=>by cases h
 | k+1,a,s,r,h,hb=>by
  unfold o8 at h;cases hc:(!s.bad&&Nat.blt s.i (az tk).length) with
  | false =>
   rw[hc,cond_false,auR] at h;subst h;exact⟨hb,[],ag⟩
  | true =>
   rw[hc,cond_true,auQ] at h;obtain⟨q,hq,h⟩:=h;obtain⟨_,m,hm⟩:=Cn k _ _ r h hb
   grind
end
def A'(ts:List Tk):aB:=(ts.map fun t=>t.2++t.1).flatten
def W5{a b:List Tk} : A' (a++b)=A' a++A' b:=by simp[A']
theorem Kn(ts:List Tk)(z:aB):qs (ts.map (·.1)) (ts.map (·.2)++[z])=A' ts++z:=by
 have h1:((List.range (ts.map (·.1)).length).map fun j=>(ts.map (·.2)++[z]).getD j []++(ts.map (·.1)).getD j [])=ts.map fun t=>t.2++t.1:=by
  refine List.ext_getElem ag fun j h1 h2=>?_
  grind
 unfold qs nX;rw[h1,getD_at ag];rw[List.getElem_append_right ag];simp[A']
def vI(s:aB):(dh s).1++(dh s).2=s:=by
 unfold dh;split
 ·simp_all
 ·exact List.append_nil _
theorem Q2(h:(jz s).2=-1):(cN s).2.2=-1/\∃ q,wy (az (mb (cN s).1)) 80000=some q/\q.2.bad=false/\FG (az (mb (cN s).1)) (mL q.1.1 q.1.2.1 q.1.2.2.1)=none/\(jz s).1=V6 (mb (cN s).1) (cN s).2.1 q.1.1 q.1.2.1 q.1.2.2.1 q.1.2.2.2:=by
 have hp:=Ds s;unfold qI at hp;split at hp
 ·rename_i mN
  refine⟨mN,?_⟩;rw[auP] at hp;obtain⟨q,hq,he⟩:=hp;unfold Dr at he
  grind
 ·grind
def Q1(h:(jz s).2=-1):SoX (jz s).1/\BQ (jz s).1=s:=by
 obtain⟨mN,q,hq,hb,hm,he⟩:=Q2 h;obtain⟨asI,hlen,qq,w9,w5⟩:=y6 mN;obtain⟨qa,xe,hs3⟩:=NH mN;have amP:A' (mb (cN s).1)++(cN s).2.1=s:=by
  refine axB ?_ xe;simp[A',mb,avT,Function.comp_def]
 have htx:∀ t∈mb (cN s).1,t.1.length<=8192:=fun t ht=>by
  obtain⟨x,hx,rfl⟩:=List.mem_map.1 ht;exact (O6 mN x hx).1
 rw[he];generalize (cN s).2.1=fin at *;generalize mb (cN s).1=tk at *;obtain⟨hF,ah2,hla,hle⟩:=KW hq hb;have hOk:=ah2 qq;clear ah2;have TZ:=hq;unfold wy at TZ;simp only[auQ,auP] at TZ;obtain⟨u,hu,d,hd,rfl⟩:=TZ;obtain⟨hub,m,hm0⟩:=Cn _ _ _ _ hd hb;obtain⟨CQ,hui,huw⟩:=Pd _ _ _ _ hu hub rfl;have hnw:=(iK CQ).2.1;have hni:=mw CQ;have WA:=jD (iK CQ).1;have I1:u.2.i<=tk.length:=((cU a8).tr (fJ.tr (yQ _ _ _ _ hu))).le (Nat.zero_le _);have Lr:tW tk [u.2.i]:=⟨fun i hi=>by
  have:i=0:=cT hi
  subst this;exact⟨Nat.zero_le _,I1,fun h=>absurd h (au4 0)⟩⟩
 have hE:=zI _ [] [u.2.i] u.2 d hd hb Lr rfl I1;simp only at hF hOk hla hle hm hm0;generalize (aL (az tk) (aY (az tk) jW ⟨0,false⟩)).1=nm at *;generalize u.1=us at *;generalize d.1.1=fs at *;have am3:d.1.2.getD 0 0=2+2*us.length:=by
  rw[hm0]
  show u.2.i=_
  simp only[List.length_nil] at hui;rw[hni,WA] at hui;simp only at hui;omega
 generalize d.1.2=es at *;obtain⟨CN,hF⟩:=hF;have yA:es.getD fs.length 0=tk.length:=by
  have:=(hE.ok fs.length ah).2.1
  omega
 obtain⟨RH,hRH⟩:∃ RH,RH=ff ⟨nm,us,[],[],[]⟩:=⟨_,rfl⟩;have hRl:RH.length=2+2*us.length:=by
  have:∀ l:List aB,((l.map fun u=>[[117,115,101],u]).flatten:List aB).length=2*l.length:=by
   intro l;induction l with
   | nil=>rfl
   | cons a r ih=>simp only[au9,avo,List.length_append,ih,List.length_cons,List.length_nil];omega
  rw[hRH];unfold ff;rw[if_pos ⟨hnw,huw⟩];unfold heads;rw[List.length_append,this];rfl
 have Qo:fs.map l9=fs.map fj:=List.map_congr_left fun f hf=>by unfold l9;rw[if_pos (hOk f hf).p]
 have agree:∀ j,j<tk.length->(RH++(fs.map fj).flatten)[j]?=(az tk)[j]?:=fun j hj=>by
  unfold FG at hm;rw[List.find?_eq_none] at hm;have h1:=hm j (awv.2 (by simpa [az] using hj))
  unfold mL at h1;rw[Qo,<- hRH] at h1
  simpa using h1
 have uG:∀ i,i<fs.length->((fs.take (i+1)).map fj).flatten=((fs.take i).map fj).flatten++fj (fs.getD i ⟨0,[],[],[],[],tm0,[]⟩):=fun i hi=>by
  rw[kg (auS hi),List.map_append,List.flatten_append,getD_at hi];simp
 have zi:tk.length<=(RH++(fs.map fj).flatten).length:=by
  rcases Nat.eq_zero_or_pos tk.length with h0|h0
  ·omega
  ·have h1:=agree (tk.length-1) ah
   rw[auS (show tk.length-1<(az tk).length by simp[az];omega)] at h1
   have:=(auU.1 h1).1
   omega
 have hl:∀ i,i<=fs.length->(RH++((fs.take i).map fj).flatten).length=es.getD i 0 :=
  Z0 (by rw[am3];simp[hRl]) (fun i hi=>by
   have h1:=hF i _ (auS hi);rw[uG i hi,getD_at hi];simp only[List.length_append];omega) (by rw[yA,avr];exact zi)
 have aiU:RH++(fs.map fj).flatten=az tk:=by
  have h1:=hl fs.length (Nat.le_refl _);rw[avr,yA] at h1;refine awi fun j=>?_
  by_cases hj:j<tk.length
  ·exact agree j hj
  ·rw[List.getElem?_eq_none ah,List.getElem?_eq_none (by simp[az];omega)]
 have X3:∀ i,i<=fs.length->RH++((fs.take i).map fj).flatten=(az tk).take (es.getD i 0):=fun i hi=>by
  rw[<- aiU,<- hl i hi];have e:fs.map fj=(fs.take i).map fj++(fs.drop i).map fj:=by rw[<- List.map_append,awB]
  rw[e,List.flatten_append,<- au8,List.take_left]
 have adh:∀ i,(hi:i<fs.length)->fj fs[i]=((tk.take (es.getD (i+1) 0)).drop (es.getD i 0)).map (·.1):=fun i hi=>by
  have h1:=X3 (i+1) ah;rw[uG i hi,<- au8,X3 i ah,getD_at hi] at h1;have h2:=hl i ah;rw[X3 i ah] at h2;rw[List.map_drop,axG]
  show _=((az tk).take _).drop _
  rw[<- h1];exact (awm h2).symm
 have OD:∀ i,i<fs.length->es.getD i 0<es.getD (i+1) 0/\es.getD (i+1) 0<=tk.length:=fun i hi=>by
  have h1:=hE.ok (i+1) ah;have h2:=h1.2.2 ah;unfold iX at h2;rw[if_neg ah,axi] at h2;exact⟨h2,h1.2.1⟩
 have J4:∀ i,(hi:i<fs.length)->∃ t0 ts,tk[es.getD i 0]?=some t0/\tk.take (es.getD (i+1) 0)=tk.take (es.getD i 0)++t0 :: ts/\fj fs[i]=t0.1 :: ts.map (·.1)/\ia tk fin es (i+1)=(dh t0.2).2 :: ts.map (·.2)++[(dh (jJ tk fin (es.getD (i+1) 0))).1]:=fun i hi=>by
  obtain⟨h1,h2⟩:=OD i hi;have h3:=adh i hi;have hx:=auS (show es.getD i 0<tk.length by omega)
  obtain⟨ts,hts⟩:∃ ts,(tk.take (es.getD (i+1) 0)).drop (es.getD i 0)=tk[es.getD i 0]'ah :: ts:=by
   have aZ:es.getD i 0<(tk.take (es.getD (i+1) 0)).length:=by rw[avK];omega
   exact⟨_,by rw[avf aZ,List.getElem_take]⟩
  generalize tk[es.getD i 0]'ah=t0 at hx hts;refine⟨t0,ts,hx,?_,by rw[h3,hts];rfl,?_⟩
  ·rw[<- hts]
   have:=(awB (es.getD i 0) (tk.take (es.getD (i+1) 0))).symm
   rw[List.take_take,axu ah] at this;exact this
  ·unfold ia od iX ny
   rw[if_neg ah,if_neg ah,if_neg ah,axi,hts];unfold jJ;rw[hx];rfl
 have TH:tk.take (es.getD 0 0)=tk.take (es.getD 0 0)/\ia tk fin es 0=(tk.take (es.getD 0 0)).map (·.2)++[(dh (jJ tk fin (es.getD 0 0))).1]:=⟨rfl,by unfold ia od iX;rw[if_pos rfl,if_pos rfl,List.drop_zero]⟩
 have hRt:RH=(tk.take (es.getD 0 0)).map (·.1):=by
  have:=X3 0 (Nat.zero_le _)
  rw[avV,avC,av8,List.append_nil] at this;rw[this,az,axG]
 have aa7:∀ i,(hi:i<fs.length)->(pG tk fin es fs)[i]?=some { fs[i] with layout:=ia tk fin es (i+1) }:=fun i hi=>by
  unfold pG;rw[axD,auS hi];rfl
 have oT:(pG tk fin es fs).length=fs.length:=by simp[pG]
 have fq:∀ i,i<=fs.length->qs RH (ia tk fin es 0)++lQ ((pG tk fin es fs).take i)=A' (tk.take (es.getD i 0))++(dh (jJ tk fin (es.getD i 0))).1:=by
  intro i
  induction i with
  | zero =>
   intro _;rw[avV,TH.2,hRt,Kn];simp[lQ]
  | succ i ih =>
   intro hi;obtain⟨t0,ts,h1,h2,h3,h4⟩:=J4 i ah;have e:zH { fs[i] with layout:=ia tk fin es (i+1) }=(dh t0.2).2++t0.1++A' ts++(dh (jJ tk fin (es.getD (i+1) 0))).1:=by
    unfold zH
    show qs (fj fs[i]) (ia tk fin es (i+1))=_
    rw[h3,h4];have:=Kn ((t0.1,(dh t0.2).2) :: ts) (dh (jJ tk fin (es.getD (i+1) 0))).1
    simp only[au9] at this;rw[this];simp[A']
   have hr:jJ tk fin (es.getD i 0)=t0.2:=by unfold jJ;rw[h1]
   rw[kg (aa7 i ah),Cm,<- au8,ih ah,e,hr,h2,W5];have hs:=vI t0.2;simp only[au8];rw[<- au8 (dh t0.2).1,hs];simp[A']
 have wi:∀ i,(jJ tk fin i).length<=8192:=fun i=>by
  unfold jJ;split
  ·rename_i t ht
   exact w5 _ (au0 ht)
  ·exact w9
 have MM:∀ i,(dh (jJ tk fin i)).1.length<=8192/\(dh (jJ tk fin i)).2.length<=8192:=fun i=>by
  have h1:=awu List.length (vI (jJ tk fin i));have h2:=wi i;rw[List.length_append] at h1;omega
 have hfs:∀ i,i<=fs.length->i<=es.getD i 0:=by
  intro i
  induction i with
  | zero=>intro _;exact Nat.zero_le _
  | succ i ih=>intro hi;have:=OD i ah;have:=ih ah;omega
 have XQ:=hfs fs.length (Nat.le_refl _);have hus:∀ u∈us,isWord u=true:=auX.1 huw;have hew:=(hE.ok 0 ah).2.1;refine⟨⟨by have:=lI hnw;show nm.length<=_;omega,by show us.length<=_;omega,fun u hu=>by have:=lI (hus u hu);omega,?_,?_,?_,?_,?_,by show (pG tk fin es fs).length<=_;omega,?_,?_⟩,?_⟩
 ·show 0<(ff ⟨nm,us,[],[],[]⟩).length
  rw[<- hRH];omega
 ·show (ff ⟨nm,us,[],[],[]⟩).length<=_
  rw[<- hRH];omega
 ·show ∀ u∈ff ⟨nm,us,[],[],[]⟩,_
  rw[<- hRH,hRt];intro u hu;obtain⟨t,ht,rfl⟩:=List.mem_map.1 hu;exact htx t (avL ht)
 ·show (ia tk fin es 0).length=(ff ⟨nm,us,[],[],[]⟩).length+1
  rw[<- hRH,hRt,TH.2];simp
 ·show ∀ u∈ia tk fin es 0,_
  rw[TH.2];intro u hu
  rcases auY.1 hu with hu|hu
  ·obtain⟨t,ht,rfl⟩:=List.mem_map.1 hu
   exact w5 t (avL ht)
  ·rw[ava.1 hu];exact (MM _).1
 ·show ∀ f∈pG tk fin es fs,_
  intro f hf;obtain⟨i,hi,he⟩:=List.getElem_of_mem hf;have j8:i<fs.length:=ah;have h1:=aa7 i j8;rw[auS hi,he,auR] at h1;subst h1;obtain⟨t0,ts,g1,g2,g3,g4⟩:=J4 i j8;have ho:=hOk _ (avj j8);have MF:∀ t∈t0 :: ts,t∈tk:=fun t ht=>avL (by rw[g2];exact awO _ ht)
  have g3' : fj { fs[i] with layout:=ia tk fin es (i+1) }=t0.1 :: ts.map (·.1):=g3
  refine⟨ho.k,ho.p,ho.n,?_,?_,?_⟩
  ·rw[g3']
   intro u hu;obtain⟨t,ht,rfl⟩:=List.mem_map.1 (show u∈(t0 :: ts).map (·.1) from hu)
   exact htx t (MF t ht)
  ·rw[g3']
   show (ia tk fin es (i+1)).length=_
   rw[g4];simp
  ·show ∀ u∈ia tk fin es (i+1),_
   rw[g4];intro u hu
   rcases auY.1 hu with hu|hu
   ·rcases avi.1 hu with rfl|hu
    ·have h1:=awu List.length (vI t0.2)
     have h2:=w5 t0 (MF t0 ag);rw[List.length_append] at h1;omega
    ·obtain⟨t,ht,rfl⟩:=List.mem_map.1 hu
     exact w5 t (MF t (xD ht))
   ·rw[ava.1 hu];exact (MM _).1
 ·show (ny tk fin es es.length).length<=_
  unfold ny;rw[if_neg ah];exact (MM _).2
 ·have h1:=fq fs.length (Nat.le_refl _)
  rw[<- oT,avr,oT,yA,avr] at h1
  show qs (ff ⟨nm,us,[],[],[]⟩) (ia tk fin es 0)++lQ (pG tk fin es fs)++ny tk fin es es.length=s
  rw[<- hRH,h1];unfold ny;rw[if_neg ah,CN,axi,yA];have h2:jJ tk fin tk.length=fin:=by unfold jJ;rw[List.getElem?_eq_none (Nat.le_refl _)]
  rw[h2,au8,vI,amP]
end
theorem Wh(l:List aB)(H:ae)(hl:l.length<=1000000):∃ y:List aB,(y.length=l.length+1/\∀ s∈y,s.length<=1)/\aj A 38 [.slice (strs l) false] H=some (.sref H.length 0 (l.length+1) 1,some ⟨H++[.bV (y.map .str)],H.length⟩):=by
 have key:∃ r,aj A 38 [.slice (strs l) false] H=some r/\∃ y:List aB,(y.length=l.length+1/\∀ s∈y,s.length<=1)/\r=(.sref H.length 0 (l.length+1) 1,some ⟨H++[.bV (y.map .str)],H.length⟩):=by
  refine FX (fn:=aei) rfl rfl rfl ?_;unfold aei;simp(disch:=omega)only[aO,aa,simprocAttr,show dZ [[AV.str []]]=true from rfl,avo,av8]
  refine cj (l.length+1) 0 (fun i s=>1<=i/\∃ (T:aD) (D:ae) (g:Nat) (y:List aB),s=⟨T,D++[.box bE (y.map .str)],H.length,g⟩/\(y.length=i/\∀ s∈y,s.length<=1)/\H.length<=D.length/\D.take H.length=H/\T 0=.slice (strs l) false/\T 3=.sref D.length 0 i 1/\T 4=.int .i64 i)
   (fun s=>∃ (T:aD) (D:ae) (g:Nat) (y:List aB),s=⟨T,D++[.box bE (y.map .str)],H.length,g⟩/\(y.length=l.length+1/\∀ s∈y,s.length<=1)/\H.length<=D.length/\D.take H.length=H/\T 3=.sref D.length 0 (l.length+1) 1) (fun _=>False) ?_ ?_ ?_ 1 _ ah ?_
  ·rintro i s hi ⟨h1i,T,D,g,y,rfl,⟨hy,QC⟩,hD,hDt,h0,h3,h4⟩
   simp(disch:=omega)only[aO,aa,simprocAttr,h0,h4,bG];refine jt ?_ ?_<;>intro h
   ·have j8:i<=l.length:=ah
    have e2:=iz (auS (show i-1<l.length by omega))
    have en:asNat (.int .i64 ((i:Int)-1))=some (i-1):=by rw[bA ah];congr 1;omega
    have hlen:(y.map AV.str).length=i*1:=by rw[List.length_map];omega
    have Mw:decide (D.length<H.length)=false:=dw;have hao:=fun (x:aB) (os:List aS) (T0:aD) (lo gen:Nat) (Q:AS->Prop)=>N1 (A:=A) (T:=T0) (lo:=lo) (gen:=gen) (K:=Q) (os:=os) (t:=64) (H:=D++[.box bE (y.map .str)]) (sz:=1) (bytes:=16) (n:=i) (l:=D.length) (ty:=bE) (cs:=y.map .str) (f:=[[.str x]]) (own:=true) mG hlen ko ko rfl rfl
    have fin:∀ (T' : aD) (g' : Nat) (x:aB),x.length<=1->T' 0=.slice (strs l) false->T' 3=.sref (D.length+1) 0 (i+1) 1->T' 4=.int .i64 ((i:Int)+1) ->
      i<l.length+1/\∃ (T:aD) (D0:ae) (g:Nat) (y' : List aB),(⟨T',D++[bM.dead,bM.box bE (y.map .str++[.str x])],H.length,g'⟩:AS)=⟨T,D0++[.box bE (y'.map .str)],H.length,g⟩/\(y'.length=i+1/\∀ s∈y',s.length<=1)/\H.length<=D0.length/\D0.take H.length=H/\T 0=.slice (strs l) false/\T 3=.sref D0.length 0 (i+1) 1/\T 4=.int .i64 ((i+1:Nat):Int):=by
     intro T' g' x hx q0 q3 q4;refine⟨ah,T',D++[.dead],g',y++[x],by rw[List.map_append,au8];rfl,⟨by simp[hy],fun s hs=>?_⟩,by rw[List.length_append];omega,by rw[awg hD,hDt],q0,by rw[q3,List.length_append];rfl,q4⟩
     grind
    generalize l[i-1]'ah=a at e2;cases c0:((i:Int)==(l.length:Int)) with
    | true=>(simp(disch:=omega)only[aO,aa,simprocAttr,h0,h3,h4,en,e2,bG,c0,hao,avo,av8,Mw];exact fin _ _ _ ag (fY h0) (jd) (jd))
    | false =>
     have aZ:i<l.length:=by
      grind
     have e1:=iz (auS aZ);generalize l[i]=b at e1;cases c1:(a==[40])<;>cases c2:(a==[91])<;>cases c3:(a==[46])<;>first
      | (simp(disch:=omega)only[aO,aa,simprocAttr,h0,h3,h4,en,e2,e1,bG,c0,c1,c2,c3,hao,avo,av8,Mw];exact fin _ _ _ ag (fY h0) (jd) (jd))
      | (cases c4:(b==[41])<;>cases c5:(b==[93])<;>cases c6:(b==[44])<;>cases c7:(b==[46])<;>(simp(disch:=omega)only[aO,aa,simprocAttr,h0,h3,h4,en,e2,e1,bG,c0,c1,c2,c3,c4,c5,c6,c7,hao,avo,av8,Mw];exact fin _ _ _ ag (fY h0) (jd) (jd)))
   ·simp(disch:=omega)only[aO,aa,simprocAttr]
    exact⟨_,D,_,y,rfl,⟨ah,QC⟩,hD,hDt,RQ h3 (show i=l.length+1 by omega)⟩
  ·rintro s ⟨T,D,g,y,rfl,hy,hD,hDt,h3⟩
   simp(disch:=omega)only[aO,aa,simprocAttr,h3];exact⟨_,JO (t:=2) (off:=0) (n:=l.length+1) (z:=1) rfl a8 (by simp[aD.put]) mG hD NP rfl,y,hy,by rw[awg hD,hDt]⟩
  ·intro s hs;exact hs.elim
  ·simp(disch:=omega)only[aO,aa,simprocAttr]
   refine⟨_,H,_,[[]],rfl,⟨rfl,ag⟩,Nat.le_refl _,avr,?_,?_,?_⟩
   all_goals exact jd
 grind
def Sh(l:List aB):Prop:=∀ s∈l,s.length<=1100000
theorem iS:Sh []:=by intro s h;cases h
theorem gW{a:aB} : Sh (a :: l)↔a.length<=1100000/\Sh l:=by simp[Sh]
theorem nG : Sh (a++b)↔Sh a/\Sh b:=by simp[Sh,or_imp,forall_and]
def rL:∀ {l:List (List aB)},(∀ x∈l,Sh x)->Sh (av l)
 | [],_=>by rw[av];exact iS
 | [a],h=>by rw[av];exact h a ag
 | a :: b :: r,h=>by
  rw[av,nG,nG,gW];exact⟨⟨h a ag,a8,iS⟩,rL fun x hx=>h x (by simp only[avi] at hx ⊢;exact .inr hx)⟩
theorem KT(h:s.length<=1100000):Sh (aJ s):=by
 have:=pf s
 unfold aJ
 grind [gW,iS]
def ZR(n:Int):(da n).1.length<=1100000:=by
 unfold da;split
 ·decide
 ·exact ph (B:=1100000) a8 _
theorem D1:∀ (h:Nat) (w:Wd),Fe h w->Sh (bQ w):=by
 have leaf:∀ (n:aB) (ks:List Wd),n.length<=1100000->n≠cS->Sh (bQ (.mk n ks)):=by
  grind [DZ,gW,iS,KT]
 have l0:Sh (bQ (.mk cS [])):=by rw[bQ]<;>first|exact fun s hs=>by revert s;decide|simp
 intro h
 induction h with
 | zero =>
  rintro ⟨n,ks⟩ ⟨h1,h2⟩
  simp only[Wd.kids,Wd.name] at h1 h2
  grind
 | succ h ih =>
  rintro ⟨n,ks⟩ ⟨h1,h2,h3⟩
  simp only[Wd.kids,Wd.name] at h1 h2 h3
  by_cases hn:n=cS
  ·subst hn
   match ks,h2,h3 with
   | [],_,_=>exact l0
   | [k],_,h3 =>
    have:=ih k (h3 k ag)
    rw[bQ]
    grind [nG,gW,iS]
  ·exact leaf n ks h1 hn
theorem Yt{p:List aB × Int}(h:Sh p.1):Sh (gH p k):=by
 unfold gH
 grind [nG,gW,iS]
def Wq:∀ {ns:List aB} {tl:List (List aB × Int)},(∀ s∈ns,s.length<=1100000)->(∀ p∈tl,Sh p.1)->∀ x∈List.zipWith (fun s (x:List aB × Int)=>[s,[61]]++x.1) ns tl,Sh x
 | [],_,_,_,x,hx=>by simp at hx
 | _ :: _,[],_,_,x,hx=>by simp at hx
 | s :: ns,p :: tl,h1,h2,x,hx=>by
  rw[aw5,avi] at hx
  rcases hx with rfl|hx
  ·exact nG.2 ⟨gW.2 ⟨h1 s ag,gW.2 ⟨a8,iS⟩⟩,h2 p ag⟩
  ·exact Wq (fun u hu=>h1 u (xD hu)) (fun q hq=>h2 q (xD hq)) x hx
def N6:∀ {ns:List aB} {tl:List (List aB × Int)},(∀ s∈ns,s.length<=1100000)->(∀ p∈tl,Sh p.1)->∀ x∈jl ns tl,Sh x
 | p :: q :: ns,y :: ys,h1,h2,x,hx=>by
  rw[jl,avi] at hx
  rcases hx with rfl|hx
  ·exact nG.2 ⟨gW.2 ⟨h1 p ag,gW.2 ⟨h1 q ag,gW.2 ⟨a8,iS⟩⟩⟩,h2 y ag⟩
  ·exact N6 (fun u hu=>h1 u (xD hu)) (fun q hq=>h2 q (xD hq)) x hx
 | [],_,_,_,x,hx=>by simp[jl] at hx
 | [_],_,_,_,x,hx=>by simp[jl] at hx
 | _ :: _ :: _,[],_,_,x,hx=>by simp[jl] at hx
def H6{p:Prop}[Decidable p](h1:p->Sh a)(h2:¬p->Sh b):Sh (if p then a else b):=by split<;>simp_all
theorem St{n:Int}{a f:aB}{w:Wd}{ns:List aB}{tl:List (List aB × Int)}(hn:-2199023255552<=n/\n<=2199023255552)(ha:a.length<=1100000)(hf:f.length<=1100000)(hw:Sh (bQ w))(AN:∀ s∈ns,s.length<=1100000)(h:∀ p∈tl,Sh p.1):Sh (gn k n a f w ns tl):=by
 have hq:=KT ha;have hl:Sh (av (tl.map (·.1))):=rL fun x hx=>by obtain⟨p,hp,rfl⟩:=List.mem_map.1 hx;exact h p hp
 have hz:=rL (Wq AN h);have d1:n<0->(lR (-n).toNat).length<=1100000:=fun h=>by have:=x9 (n:=(-n).toNat) ah;omega
 have d2:(lR n.toNat).length<=1100000:=by have:=x9 (n:=n.toNat) ah;omega
 have hs:=ZR n;have hk:=fun (p:List aB × Int) (h:Sh p.1) k=>Yt (k:=k) h
 unfold gn;refine H6 (fun _=>H6 (fun h=>?_) fun _=>?_) fun _=>H6 (fun _=>?_) fun _=>?_
 ·grind [gW,iS]
 ·grind [gW,iS]
 ·split<;>simp only[gW,iS,List.length_cons,List.length_nil,axE,Nat.reduceAdd,Nat.reduceLeDiff]
 iterate 11 (refine H6 (fun _=>?_) fun _=>?_;· first
  | (simp only[nG,gW,iS,cS,hq,hl,hw,ha,List.length_cons,List.length_nil,axE,Nat.reduceAdd,Nat.reduceLeDiff,hz];done)
  | (split<;>first
   | exact iS
   | (simp only[List.forall_mem_cons] at h AN;simp only[nG,gW,iS,hq,hf,List.length_cons,List.length_nil,axE,avZ,awL,Nat.reduceAdd,Nat.reduceLeDiff,hk,h,AN,hs];done)
   | (rename_i x ys;have h2:=rL (N6 AN fun p hp=>h p (av3 _ hp));have h3:=h x ag;simp only[nG,gW,iS,hq,List.length_cons,List.length_nil,axE,Nat.reduceAdd,Nat.reduceLeDiff,h2,h3])))
 exact iS
def Lj:∀ (h:Nat) (t:Tm),RV h t->Sh (af t)
 | 0,t,hb=>by cases hb
 | h+1,t,hb=>by
  have hF:=hb.out;rw[bN];refine St hF.n hF.a hF.f (D1 3 _ hF.w) hF.nb fun p hp=>?_
  obtain⟨u,hu,rfl⟩:=List.mem_map.1 hp;exact Lj h u (hF.kb u hu)
theorem Qb{u:Fd}(h:FdB u):Sh (cc k u):=by
 have h1:=D1 3 _ h.w;have h2:=h.a;obtain⟨h3,h4⟩:=h.m;have h5:(lR u.jy.toNat).length<=1100000:=by
  have:=wR 19 (u.jy.toNat+1) u.jy.toNat [] ah
  unfold lR
  grind
 unfold cc
 grind [nG,gW,iS]
theorem VK(h:FmB f):Sh (l9 f):=by
 have h1:=D1 3 _ h.w;have h2:=h.a;have h3:=Lj 5 _ h.b;have h4:Sh (av (f.bP.map (cc f.kind))):=rL fun x hx=>by obtain⟨p,hp,rfl⟩:=List.mem_map.1 hx;exact Qb (h.sb p hp)
 have h5:(fI.getD f.kind.toNat []).length<=1100000:=ph (B:=1100000) a8 _;unfold l9;split
 ·unfold fj
  grind [nG,gW,iS]
 ·exact iS
theorem Rk{s:So}(h:SoB s):Sh (ff s):=by
 have h1:=h.a;unfold ff;split
 ·unfold heads
  refine nG.2 ⟨by simp[gW,iS,h1],fun x hx=>?_⟩
  obtain⟨y,hy,hx⟩:=awS.1 hx;obtain⟨u,hu,rfl⟩:=List.mem_map.1 hy;have:=h.ub u hu
  grind
 ·exact iS
theorem NF{s:So}(hm:m<=8)(h:LB m s):(ff s).length<=100:=by
 have:=h.ul
 unfold ff;split
 ·have:∀ l:List aB,((l.map fun u=>[[117,115,101],u]).flatten:List aB).length=2*l.length:=by
   intro l;induction l with
   | nil=>rfl
   | cons a r ih=>simp only[au9,avo,List.length_append,ih,List.length_cons,List.length_nil];omega
  unfold heads
  grind
 ·simp
theorem Gx(l y:List aB)(o:Bool)(H:ae)(hl:l.length<=20000)(hb:Sh l)(hy:y.length<=30000)(j7:Sh y) :
  ∃ t:aB,t.length<=66000000000/\aj A 11 [.slice (strs l) o,.slice (strs y) false] H=some (.str t,none):=by
 have key:∃ r,aj A 11 [.slice (strs l) o,.slice (strs y) false] H=some r/\∃ t:aB,t.length<=66000000000/\r=(.str t,none):=by
  obtain⟨u,⟨T6,hus⟩,hu⟩:=Wh l H ah;refine ug (fn:=Yg) rfl rfl rfl ?_;have HR:asNat (.int .i64 ((l.length:Int)+1-1))=some l.length:=by rw[bA ah];congr 1;omega
  have mo:(u.map AV.str).length=l.length+1:=by rw[List.length_map,T6]
  have Bk:(u.map AV.str).take l.length++([AV.str [10]]++(u.map AV.str).drop (l.length+1))=(u.take l.length++[[10]]).map AV.str:=by
   simp_all
  have gZ:Sh (u.take l.length++[[10]]):=nG.2 ⟨fun s hs=>avx (hus s (avL hs)) a8,by simp[gW,iS]⟩
  have ri:(u.take l.length++[[10]]).length=l.length+1:=by rw[List.length_append,avK,T6];simp
  refine im 2 (fun st=>∃ (T:aD) (K:ae) (z:List aB),st=⟨T,K,H.length,0⟩/\K.take H.length=H/\T 0=.slice (strs l) o/\(T 1=.slice (strs z) false\/(T 1=.sref H.length 0 z.length 1/\K[H.length]?=some (.bV (z.map .str))))/\z.length<=30000/\Sh z/\T 5=.str []) ?_ ?_
  ·unfold Yg
   simp only[aH.pre]
   by_cases hy0:y=[]
   ·subst hy0
    have h0:(((strs []).length:Int)==0)=true:=rfl;simp(disch:=omega)only[nK,cY,cb,ct,cm,gC,aP,aQ,br,aE.eval,AS.bW,↓reduceIte,Nat.reduceEqDiff,Option.isSome,Option.isNone,cond_true,cond_false,Nat.reduceBEq,Nat.reduceAdd,Nat.reduceMul,aa,cn,avs,reduceCtorEq,gr,cZ,cd,bD,bound,dc,AS.bC,aN,bI,bu,Nat.reduceLeDiff,cq,putAt,Int.reduceEq,Int.reduceLT,Int.reduceLE,Int.reduceBEq,Int.reduceBNe,Int.reduceAdd,Int.reduceNeg,Int.reduceSub,Int.reduceMul,dQ,dP,dO,dN,dM,dL,dS,dR,au,bA,au5,au7,h0,hu,HR,mo];refine⟨_,_,u.take l.length++[[10]],rfl,ag,jd,.inr ⟨fY ri,?_⟩,ah,gZ,jd⟩;rw[<- Bk];simp
   ·have h0:((y.length:Int)==0)=false:=by
     simp_all
    simp(disch:=omega)only[aO,aa,simprocAttr,bG,h0];exact⟨_,H,y,rfl,avr,jd,.inl (jd),hy,j7,jd⟩
  ·rintro st ⟨T,K,z,rfl,hK,e0,e1,hz,hzs,e5⟩
   unfold Yg;simp only[aH.post];have Ua:∀ i,i<z.length->((strs z)[i]?=some [.str (z.getD i [])]/\(z.map AV.str)[i]?=some (.str (z.getD i [])))/\(z.getD i []).length<=1100000:=fun i hi=>⟨⟨ke hi,by rw[List.getElem?_map,auS hi,getD_at hi];rfl⟩,ph hzs i⟩
   have w5:decide (H.length<H.length)=false:=ag;simp(disch:=omega)only[aO,aa,simprocAttr];refine cj z.length 0 (fun i st=>∃ (T:aD) (t:aB),st=⟨T,K,H.length,0⟩/\T 0=.slice (strs l) o/\(T 1=.slice (strs z) false\/(T 1=.sref H.length 0 z.length 1/\K[H.length]?=some (.bV (z.map .str))))/\T 6=.int .i64 i/\T 5=.str t/\t.length<=i*2200000)
    (fun st=>∃ (T:aD) (t:aB),st=⟨T,K,H.length,0⟩/\T 5=.str t/\t.length<=30000*2200000) (fun _=>False) ?_ ?_ (fun _ h=>h.elim) 0 _ ah ?_
   ·rintro i st hi ⟨T,t,rfl,q0,q1,q6,q5,ht⟩
    by_cases aZ:i<z.length
    ·obtain⟨⟨g1,g2⟩,g3⟩:=Ua i aZ
     generalize z.getD i []=a at g1 g2 g3;have hm:(i+1)*2200000=i*2200000+2200000:=ah;have Lw:i*2200000<=30000*2200000:=au6 _ ah
     by_cases oT:i<l.length
     ·have g4:=ke oT
      have g5:=ph hb i;generalize l.getD i []=b at g4 g5
      rcases q1 with q1|⟨q1,q2⟩
      ·simp(disch:=omega)only[aO,aa,simprocAttr,q0,q1,q6,q5,bG,g1,g4,List.length_append,ab]
       refine⟨aZ,_,_,rfl,?_,.inl ?_,?_,rfl,?_⟩
       all_goals first|(simp(disch:=omega)only[dr,aa,simprocAttr,q0,q1];done)|(simp only[List.length_append];omega)
      ·simp(disch:=omega)only[aO,aa,simprocAttr,q0,q1,q2,q6,q5,bG,g2,g4,List.length_append,awK,u9,ab]
       refine⟨aZ,_,_,rfl,?_,.inr ?_,?_,rfl,?_⟩
       all_goals first|(simp(disch:=omega)only[dr,aa,simprocAttr,q0,q1];done)|(simp only[List.length_append];omega)
     ·rcases q1 with q1|⟨q1,q2⟩
      ·simp(disch:=omega)only[aO,aa,simprocAttr,q0,q1,q6,q5,bG,g1,ab]
       refine⟨aZ,_,_,rfl,?_,.inl ?_,?_,rfl,?_⟩
       all_goals first|(simp(disch:=omega)only[dr,aa,simprocAttr,q0,q1];done)|(simp only[List.length_append];omega)
      ·simp(disch:=omega)only[aO,aa,simprocAttr,q0,q1,q2,q6,q5,bG,g2,awK,u9,ab]
       refine⟨aZ,_,_,rfl,?_,.inr ?_,?_,rfl,?_⟩
       all_goals first|(simp(disch:=omega)only[dr,aa,simprocAttr,q0,q1];done)|(simp only[List.length_append];omega)
    ·have Lw:i*2200000<=30000*2200000:=au6 _ ah
     rcases q1 with q1|⟨q1,q2⟩<;>simp(disch:=omega)only[aO,aa,simprocAttr,q1,q6,bG]<;>exact⟨_,t,rfl,fY q5,ah⟩
   ·rintro st ⟨T,t,rfl,q5,ht⟩
    simp(disch:=omega)only[aO,aa,simprocAttr,q5];exact⟨t,ah,rfl⟩
   ·refine⟨_,[],rfl,?_,?_,?_,?_,?_⟩
    ·exact fY e0
    ·rcases e1 with e1|⟨e1,e2⟩
     ·exact .inl (fY e1)
     ·exact .inr ⟨fY e1,e2⟩
    ·exact jd
    ·exact fY e5
    ·simp
 grind
theorem agi{s:So}(hm:m<=8)(hs:LB m s)(H:ae):∃ t:aB,t.length<=300000000000/\aj A 4 [.agg (nu s)] H=some (.str t,none):=by
 have key:∃ r,aj A 4 [.agg (nu s)] H=some r/\∃ t:aB,t.length<=300000000000/\r=(.str t,none):=by
  have hB:=hs.B hm;have hh:=VE hB H;have hhl:=NF hm hs;have hsh:=Rk hB;obtain⟨j0,hj0,hj⟩:=Gx (ff s) s.head false H ah hsh (by have:=hs.hl;omega) hs.hb
  have J4:∀ f∈s.defs,∃ t:aB,t.length<=66000000000/\aj A 11 [.slice (strs (l9 f)) false,.slice (strs f.layout) false] H=some (.str t,none):=fun f hf=>by
   have hb:=hs.db f hf;exact Gx (l9 f) f.layout false H (by have:=GX (hb.B hm);omega) (VK (hb.B hm)) (by have:=hb.ll;omega) hb.lb
  refine ug (fn:=ir4) rfl rfl rfl ?_;unfold ir4;rw[nu] at hh ⊢;simp(disch:=omega)only[aO,aa,simprocAttr,hh,hj,ab];refine cj s.defs.length 0 (fun i st=>∃ (T:aD) (t:aB),st=⟨T,H,H.length,1⟩/\T 1=.lbox 0 [.str s.name,.slice (strs s.jc) false,.slice (s.defs.map bZ) false,.slice (strs s.head) false,.str s.fin]/\T 4=.int .i64 i/\T 3=.str t/\t.length<=(i+1)*66000000000)
   (fun st=>∃ (T:aD) (t:aB),st=⟨T,H,H.length,1⟩/\T 1=.lbox 0 [.str s.name,.slice (strs s.jc) false,.slice (s.defs.map bZ) false,.slice (strs s.head) false,.str s.fin]/\T 3=.str t/\t.length<=4*66000000000) (fun _=>False) ?_ ?_ (fun _ h=>h.elim) 0 _ ah ?_
  ·rintro i st hi ⟨T,t,rfl,q1,q4,q3,ht⟩
   have hdl:=hs.dl;have Lw:(i+1)*66000000000<=4*66000000000:=au6 _ ah
   by_cases aZ:i<s.defs.length
   ·have hx:=auS aZ
    have AM:=avj aZ;generalize s.defs[i]=u at hx AM;have gb:=aaT hx;obtain⟨w,hw,hj2⟩:=J4 u AM;have hrt:=Iw (hB.db u AM) H;rw[bZ] at gb hrt;simp(disch:=omega)only[aO,aa,simprocAttr,q1,q4,q3,gb,hrt,hj2,ab];refine⟨aZ,_,_,rfl,?_,?_,rfl,by rw[List.length_append];omega⟩
    all_goals exact fY q1
   ·simp(disch:=omega)only[aO,aa,simprocAttr,q1,q4,ab]
    exact⟨_,t,rfl,fY q1,fY q3,ah⟩
  ·rintro st ⟨T,t,rfl,q1,q3,ht⟩
   have hf:=hs.e;simp(disch:=omega)only[aO,aa,simprocAttr,q1,q3,ab]
   grind
  ·refine⟨_,j0,rfl,?_,?_,?_,ah⟩
   all_goals exact jd
 grind
def sW(args:List AV)(H:ae):Option (AV × Option fR) :=
 match args with
 | [.str s]=>cond (Nat.ble s.length 4611686018427387904) (some (.tuple [.agg (nu (jz s).1),.int .i64 (jz s).2],none)) none
 | _=>none
def BR(args:List AV)(H:ae):Option (AV × Option fR) :=
 match args,H with
 | [],[]=>some (.bool true,none)
 | _,_=>none
def ac1:FuncId->Option ax
 | 3=>some ir3
 | _=>none
def ov9:FuncId->Option (List AV->ae->Option (AV × Option fR))
 | 3=>none
 | 8=>some sW
 | 10=>some BR
 | f=>some (aj A f)
def A9:AP:={ fns:=ac1,ov:=ov9,aW:=xN }
def c9{f:FuncId}(h:A9.ov f=some (aj A f)){args:List AV}{H:ae}{r:AV × Option fR}(hr:aj A f args H=some r)(hn:args.all vw=true:=by rfl):aj A9 f args H=some r:=fZ (g:=aj A f) h hr hn
def aeO:aj A9 10 [] []=some (.bool true,none):=fZ (g:=BR) rfl rfl
def afh(hs:s.length<=4611686018427387904)(H:ae):aj A9 8 [.str s] H=some (.tuple [.agg (nu (jz s).1),.int .i64 (jz s).2],none) :=
 fZ (g:=sW) rfl (by simp only[sW,avA hs,cond_true])
def YT(h:(jz s).2=-1)(H:ae):aj A9 9 [.agg (nu (jz s).1)] H=some (.str s,none):=by
 obtain⟨h1,h2⟩:=Q1 h;have:=QX h1 H
 rw[h2] at this;exact c9 rfl this
def ajA(l:List Int)(a h b:Int)(raw:aB)(hl:∀ n∈l,BZ n)(ha:BZ a)(hh:BZ h)(hb:BZ b)(hr:raw.length<=4611686018427387904) :
  aj A9 3 [.slice (ints l) false,.int .i64 a,.int .i64 h,.int .i64 b,.str raw] []=some (.bool true,none):=by
 obtain⟨so,D6,h5⟩:=VS l hl [];obtain⟨s,ri,h4⟩:=agi ah D6 [];obtain⟨_,h6,t,qq,rfl⟩:=F1 s a h b [] ah ha hh hb;obtain⟨_,h6',u,T6,rfl⟩:=F1 t b a h [] ah hb ha hh;have h7:aj A 7 [.str raw,.int .i64 200] []=some (.str (raw.take 200),none):=ZQ raw 200 [] hr ah;have zT:(raw.take 200).length<=200:=by rw[avK];omega
 generalize raw.take 200=r at h7 zT
 replace h5:=c9 rfl h5
 replace h4:=c9 rfl h4
 replace h6:=c9 rfl h6
 replace h6':=c9 rfl h6'
 replace h7:=c9 (f:=7) rfl h7
 obtain⟨X,hX⟩:∃ X:List aB,X=[s,t,u,109 :: 111 :: 100 :: 117 :: 108 :: 101 :: 32 :: 109 :: 32 :: r]:=⟨_,rfl⟩;have hX4:X.length=4:=by rw[hX];rfl
 have hXl:∀ x∈X,x.length<=4611686018427387904:=by
  rw[hX];intro x hx;simp only[avi,avE,awk] at hx
  rcases hx with rfl|rfl|rfl|rfl
  all_goals (try simp only[List.length_cons]);omega
 rw[nu] at h5 h4;refine cB (fn:=ir3) rfl rfl rfl ?_;unfold ir3;simp(disch:=omega)only[aO,aa,simprocAttr,h5,h4,h6,h6',h7];rw[show [[AV.str s],[AV.str t],[AV.str u],[AV.str (109 :: 111 :: 100 :: 117 :: 108 :: 101 :: 32 :: 109 :: 32 :: r)]]=strs X by rw[hX];rfl]
 refine cj 4 0 (fun i st=>∃ T g,st=⟨T,[],0,g⟩/\T 13=.slice (strs X) true/\T 14=.int .i64 i) (fun st=>∃ T g,st=⟨T,[],0,g⟩) (fun _=>False) ?_ ?_ (fun _ h=>h.elim) 0 _ ah ?_
 ·rintro i st hi ⟨T,g,rfl,e13,e14⟩
  by_cases aZ:i<4
  ·have hx:=iz (auS (show i<X.length by omega))
   have WB:=hXl _ (avj (show i<X.length by omega))
   generalize X[i]'ah=x at hx WB;have hp:=afh WB [];rw[nu] at hp
   by_cases hk:(jz x).2=-1
   ·have hm:=YT hk []
    rw[nu] at hm;rw[hk] at hp;simp(disch:=omega)only[aO,aa,simprocAttr,e13,e14,bG,hX4,hx,hp,hm,ab];exact⟨aZ,_,_,rfl,fY e13,jd⟩
   ·have dp:((jz x).2==-1)=false:=cT hk
    simp(disch:=omega)only[aO,aa,simprocAttr,e13,e14,bG,hX4,hx,hp,dp,ab];exact⟨aZ,_,_,rfl,fY e13,jd⟩
  ·have:i=4:=ah
   subst this;simp(disch:=omega)only[aO,aa,simprocAttr,e13,e14,bG,hX4];exact⟨_,_,rfl⟩
 ·rintro st ⟨T,g,rfl⟩
  have hv:=aeO;exact nx hv
 ·exact⟨_,_,rfl,jd,jd⟩
def VU:Nat->aB->Nat->List Tok × aB × Int
 | 0,_,_=>([],[],0)
 | n+1,r,off =>
  bif Nat.beq (bY false r) r.length then ([],r, -1)
  else bif Nat.beq (il (r.drop (bY false r))) 0 then ([],[],((off+bY false r:Nat):Int))
  else
   let x:=VU n (r.drop (bY false r+il (r.drop (bY false r)))) (off+(bY false r+il (r.drop (bY false r))))
   bif decide (x.2.2=-1) then (⟨(r.drop (bY false r)).take (il (r.drop (bY false r))),r.take (bY false r)⟩ :: x.1,x.2.1, -1) else ([],[],x.2.2)
theorem K5:∀ (n:Nat) (r:aB) (off:Nat),r.length<n->VU n r off=ik r off
 | 0,_,_,h=>by omega
 | n+1,r,off,h=>by
  rw[ik,VU]
  by_cases h1:bY false r=r.length
  ·simp_all
  ·have e1:Nat.beq (bY false r) r.length=false:=by rw[<- aw9,aw3];exact h1
   rw[if_neg h1,e1,cond_false]
   by_cases h2:il (r.drop (bY false r))=0
   ·rw[axA h2,h2];rfl
   ·have e2:Nat.beq (il (r.drop (bY false r))) 0=false:=by rw[<- aw9,aw3];exact h2
    rw[axc h2,e2,cond_false];have h3:=n9 false r;rw[K5 n _ _ (by rw[avw];omega)]
    grind
def Xu:aB:=[109,111,100,117,108,101,32,109,10,102,117,110,32,102,32,40,97,32,73,110,116,41,32,73,110,116,32,61,32,32,97,32,35,32,120,10]
def exS:So:=⟨[109],[],[⟨2,[102],[⟨[97],[73,110,116],[],0⟩],[73,110,116],[],.mk 2 0 [97] [] [] [] [] [],[[],[32],[32],[],[32],[],[32],[32],[32,32],[32,35,32,120,10]]⟩],[[],[32],[10]],[]⟩
def Xv:cN Xu=([⟨[109,111,100,117,108,101],[]⟩,⟨[109],[32]⟩,⟨[102,117,110],[10]⟩,⟨[102],[32]⟩,⟨[40],[32]⟩,⟨[97],[]⟩,⟨[73,110,116],[32]⟩,⟨[41],[]⟩,⟨[73,110,116],[32]⟩,⟨[61],[32]⟩,⟨[97],[32,32]⟩],[32,35,32,120,10], -1):=by
 unfold cN;rw[if_neg (by decide),<- K5 100 _ _ (by decide)]
 kernel_rfl
theorem S6:jz Xu=(exS, -1):=by
 have h:qI 80000 Xu=some (exS, -1):=by
  unfold qI;rw[Xv,if_pos rfl]
  kernel_rfl
 grind [Ds]
end Go.Proofs.YtnhpoddlmjpapaaGreatDoor
namespace Go.Proofs.YtnhpoddlmjpapaaGreatDoor
open Go Go.Abs Go.Proofs Go.Shelf Go.RowKit Go.Lib
def MR{P:Program}{e:TypeId}{size bytes cs:Nat}(h:((P.info? e).bind fun i=>i.zero.map fun z=>(i.size,i.bytes,z.cells.size))=some (size,bytes,cs)):∃ i z,P.info? e=some i/\i.zero=some z/\i.size=size/\i.bytes=bytes/\z.cells.size=cs:=by
 obtain⟨i,hi,h⟩:=auQ.1 h;obtain⟨z,hz,h⟩:=auP.1 h;simp only[auV] at h;exact⟨i,z,hi,hz,h.1,h.2.1,h.2.2⟩
def nY(args:List AV)(H:ae):Option (AV × Option fR) :=
 match args with
 | [.slice [] false]=>some (.slice [] false,none)
 | _=>none
def L7(a:Option Addr)(c:Nat)(w:World):Calls Tryz.prog 73 #[.slice a 0 c] w fun e w'=>∃ v',e=.returned v'/\w'.ownsRow w.heap.size 9 (Tryz.prog.cellsOf 9) v' 0 []/\Below w.heap.size w w':=by
 obtain⟨i0,z0,hi,T8,hz1,T9,hz3⟩:=MR (P:=Tryz.prog) (e:=9) (size:=Tryz.prog.cellsOf 9) (bytes:=16) (cs:=Tryz.prog.cellsOf 9) Bl;have mixed:Tryz.prog.follows .mixedOrders=true:=Bl;have q:∀ (w:World) (a:Option Addr) (n c n' c' : Nat),(binOp .eql 24 (.slice a n c) (.slice none n' c')).run Tryz.prog w=.ok (.bool a.isNone) w:=fun w a n c n' c'=>Lib.run_eql_slice_nil w _ _ a n c n' c' Tryz.underlying24
 have u:∀ w,Sem.run Tryz.prog (underlying 24) w=.ok (TypeDesc.slice 9) w:=run_underlying Tryz.underlying24;cases a with
 | none =>
  go_enter Tryz.func73,Tryz.ntmps73
  go_wp2
  go_ret
  exact⟨_,rfl,⟨rfl,.inl ⟨rfl,rfl⟩⟩,Below.refl _ _⟩
 | some a =>
  go_enter Tryz.func73,Tryz.ntmps73
  go_wp2_with (at_builtin;refine wpList_append_own _ rfl _ _ 24 rfl w.heap.size 9 i0 z0 (Tryz.prog.cellsOf 9) 16 Tryz.underlying24 hi T8 hz1 T9 hz3 (by decide +kernel) _ _ _ rfl (World.ownsRow_made w #[] 0 (Nat.le_refl _) (Nat.zero_le _) rfl) a 0 c [] rfl rfl (by intro j u hj;simp at hj) (by intro u hu;cases hu) (by unfold maxLen;omega) ah ag ?_)
  intro v' w1 CS Kb HS
  go_wp2
  go_ret
  refine⟨v',rfl,cT CS,?_⟩;exact ((Below.refl _ w).alloc (Nat.le_refl _) _).grown Kb ag (by intro k hk;simp[Value.ownBlock] at hk;omega)
def Jl(a:Option Addr)(c:Nat)(w:World):Calls Tryz.prog 113 #[.slice a 0 c] w fun e w'=>∃ v',e=.returned v'/\w'.ownsRow w.heap.size 83 (Tryz.prog.cellsOf 83) v' 0 []/\Below w.heap.size w w':=by
 obtain⟨i0,z0,hi,T8,hz1,T9,hz3⟩:=MR (P:=Tryz.prog) (e:=83) (size:=Tryz.prog.cellsOf 83) (bytes:=136) (cs:=Tryz.prog.cellsOf 83) Bl;have mixed:Tryz.prog.follows .mixedOrders=true:=Bl;have q:∀ (w:World) (a:Option Addr) (n c n' c' : Nat),(binOp .eql 81 (.slice a n c) (.slice none n' c')).run Tryz.prog w=.ok (.bool a.isNone) w:=fun w a n c n' c'=>Lib.run_eql_slice_nil w _ _ a n c n' c' Tryz.underlying81
 have u:∀ w,Sem.run Tryz.prog (underlying 81) w=.ok (TypeDesc.slice 83) w:=run_underlying Tryz.underlying81;cases a with
 | none =>
  go_enter Tryz.func113,Tryz.ntmps113
  go_wp2
  go_ret
  exact⟨_,rfl,⟨rfl,.inl ⟨rfl,rfl⟩⟩,Below.refl _ _⟩
 | some a =>
  go_enter Tryz.func113,Tryz.ntmps113
  go_wp2_with (at_builtin;refine wpList_append_own _ rfl _ _ 81 rfl w.heap.size 83 i0 z0 (Tryz.prog.cellsOf 83) 136 Tryz.underlying81 hi T8 hz1 T9 hz3 (by decide +kernel) _ _ _ rfl (World.ownsRow_made w #[] 0 (Nat.le_refl _) (Nat.zero_le _) rfl) a 0 c [] rfl rfl (by intro j u hj;simp at hj) (by intro u hu;cases hu) (by unfold maxLen;omega) ah ag ?_)
  intro v' w1 CS Kb HS
  go_wp2
  go_ret
  refine⟨v',rfl,cT CS,?_⟩;exact ((Below.refl _ w).alloc (Nat.le_refl _) _).grown Kb ag (by intro k hk;simp[Value.ownBlock] at hk;omega)
def Jn(a:Option Addr)(c:Nat)(w:World):Calls Tryz.prog 114 #[.slice a 0 c] w fun e w'=>∃ v',e=.returned v'/\w'.ownsRow w.heap.size 80 (Tryz.prog.cellsOf 80) v' 0 []/\Below w.heap.size w w':=by
 obtain⟨i0,z0,hi,T8,hz1,T9,hz3⟩:=MR (P:=Tryz.prog) (e:=80) (size:=Tryz.prog.cellsOf 80) (bytes:=40) (cs:=Tryz.prog.cellsOf 80) Bl;have mixed:Tryz.prog.follows .mixedOrders=true:=Bl;have q:∀ (w:World) (a:Option Addr) (n c n' c' : Nat),(binOp .eql 78 (.slice a n c) (.slice none n' c')).run Tryz.prog w=.ok (.bool a.isNone) w:=fun w a n c n' c'=>Lib.run_eql_slice_nil w _ _ a n c n' c' Tryz.underlying78
 have u:∀ w,Sem.run Tryz.prog (underlying 78) w=.ok (TypeDesc.slice 80) w:=run_underlying Tryz.underlying78;cases a with
 | none =>
  go_enter Tryz.func114,Tryz.ntmps114
  go_wp2
  go_ret
  exact⟨_,rfl,⟨rfl,.inl ⟨rfl,rfl⟩⟩,Below.refl _ _⟩
 | some a =>
  go_enter Tryz.func114,Tryz.ntmps114
  go_wp2_with (at_builtin;refine wpList_append_own _ rfl _ _ 78 rfl w.heap.size 80 i0 z0 (Tryz.prog.cellsOf 80) 40 Tryz.underlying78 hi T8 hz1 T9 hz3 (by decide +kernel) _ _ _ rfl (World.ownsRow_made w #[] 0 (Nat.le_refl _) (Nat.zero_le _) rfl) a 0 c [] rfl rfl (by intro j u hj;simp at hj) (by intro u hu;cases hu) (by unfold maxLen;omega) ah ag ?_)
  intro v' w1 CS Kb HS
  go_wp2
  go_ret
  refine⟨v',rfl,cT CS,?_⟩;exact ((Below.refl _ w).alloc (Nat.le_refl _) _).grown Kb ag (by intro k hk;simp[Value.ownBlock] at hk;omega)
def si{f te:Nat}(hf:∃ fn,Tryz.prog.funcs[f]?=some fn/\fn.body.isSome=true/\fn.name≠ "runtime.NumGoroutine")(h:∀ (a:Option Addr) (c:Nat) (w:World),Calls Tryz.prog f #[.slice a 0 c] w fun e w'=>∃ v',e=.returned v'/\w'.ownsRow w.heap.size te (Tryz.prog.cellsOf te) v' 0 []/\Below w.heap.size w w'):fU Tryz.prog xN f nY:=by
 intro args H r c he;refine⟨hf,?_⟩;unfold nY at he;split at he
 ·simp only[auR,auV] at he
  obtain⟨rfl,rfl⟩:=he;refine⟨o6,fun base gh w vs hW _ hs dv=>?_⟩
  obtain⟨v,rfl,hv⟩:=FP hs dv;have hp:=hv.iT;have key:∃ a c,v=.slice a 0 c:=by
   generalize hE:([]:List (List AV))=E at hp;cases hp with
   | dq=>exact⟨_,_,rfl⟩
   | slice b o n cap sz e f hn=>subst hE;simp only[List.length_nil] at hn;subst hn;exact⟨_,_,rfl⟩
  obtain⟨a,c,rfl⟩:=key;refine (h a c w).mono ?_
  rintro e w' ⟨v',rfl,⟨_,CS⟩,hb⟩
  refine⟨_,gh,rfl,mK hW hb (.plain _ _ ?_)⟩
  rcases CS with ⟨rfl,_⟩|⟨g,cap,cur,rfl,_⟩
  ·exact .dq
  ·exact .slice g 0 0 cap 0 [] (fun _ _=>.nilIface) rfl (Nat.zero_le _) (fun i r h=>by simp at h) (fun i j r x h=>by simp at h) (fun i j r x h=>by simp at h)
 ·cases he
theorem L8:fU Tryz.prog xN 73 nY:=si (HF 73 _ Tryz.func73 Bl a8) L7
theorem Jm:fU Tryz.prog xN 113 nY:=si (HF 113 _ Tryz.func113 Bl a8) Jl
theorem Jo:fU Tryz.prog xN 114 nY:=si (HF 114 _ Tryz.func114 Bl a8) Jn
end Go.Proofs.YtnhpoddlmjpapaaGreatDoor
end
