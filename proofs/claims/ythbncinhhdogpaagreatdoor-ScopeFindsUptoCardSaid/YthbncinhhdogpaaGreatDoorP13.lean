/-
  A part of the proof of ScopeFinds: V29, V30, V31, V32, V33, V34, V35, V36, V37, V38.
-/
import Derived.Test.YthbncinhhdogpaaGreatDoorP12
set_option linter.unusedSimpArgs false
set_option linter.unusedVariables false
set_option linter.defProp false
set_option maxHeartbeats 4000000
set_option maxRecDepth 100000
namespace Go.Proofs.YthbncinhhdogpaaGreatDoor
open Go Go.Abs Go.Proofs
section
def iA:bO->bO
 | .seq a _=>a
 | c=>c
def cu:bO->bO
 | .seq _ b=>b
 | c=>c
def oA:bO:=cu iL.body
def oB:bO:=cu oA
def oC:bO:=cu oB
def oD:bO:=cu oC
def oE:bO:=cu oD
def oF:bO:=cu oE
def mT:bO:=cu oF
def wU:bO:=cu mT
def vV:bO:=cu wU
def TI:bO:=cu vV
def p8:bO:=iA mT
def p9:bO:=iA wU
def p10:bO:=iA vV
def Lt(P:AS->Prop):bq->AS->Prop
 | .normal,s=>P s
 | _,_=>False
theorem KA{B:AP}{a b:bO}{s:AS}{Q:bq->AS->Prop}{P:AS->Prop}(h1:W B a s (Lt P))(h2:∀ s',P s'->W B b s' Q):W B (.seq a b) s Q:=by
 rw[Z9]
 refine H7 h1 fun e s' hs=>?_
 cases e with
 | normal=>exact h2 s' hs
 | _=>exact hs.elim
def ju:fa:=[99,111,114,101]
def jY:fa:=[109,105,108,108]
def dA:List Int:=[0,1,2,2,4,5,3,0]
def iM:List fa:=[[80,111,105,110,116],[69,118,101,110,116],[102],[103],[116],[99],[115,116,101,112],[83,116,97,116,101]]
def G3(i:Id)(name:fa)(fY:List Id)(ids:List Id):List AV:=an i++[.str name,ux fY,match ids with|[]=>.ae|_=>.slice (al ids) true]
def aH(two:Bool)(l0 l1:List Id):List (List AV):=G3 (lh 0) ju [] l0 :: (if two then [G3 (lh 1) jY [lh 0] l1] else [])
theorem G4{i:Id}{name:fa}{u d:List Id} : (G3 i name u d).length=6:=by simp[G3,an]
theorem J0{two:Bool}{l0 l1:List Id} : ∀ r∈aH two l0 l1,r.length=6:=by
 intro r hr
 cases two<;>simp[aH] at hr
 ·rw[hr,G4]
 ·rcases hr with rfl|rfl<;>rw[G4]
theorem fU{two:Bool}{l0 l1:List Id} : aH two l0 l1≠[]:=by simp[aH]
def Pre(H:ag)(l:List Int)(s:AS):Prop:=∃ T m two many,s=⟨T,pH H l m (aH two [] []) [],H.length,1⟩/\m.next=((aH two [] []).length:Nat)/\4<=many/\many<=8 /\
 T 2=.lbox 0 [.ae,.ae]/\T 3=.ref H.length 0/\T 4=.int .i64 (many:Nat)/\T 5=.slice (ints dA) true/\T 6=.slice (strs iM) true
theorem ady{B:AP}{T:ax}{H:ag}{lo gen t:Nat}{os:List aj}{K:AS->Prop}{x:ar} : WO B false (⟨some t,none,.B5 x⟩ :: os) ⟨T,H,lo,gen⟩ K =
  bj ((x.eval B.aO T).drop.cells.bind fun cs=>cond (cs.all aq) (some cs) none) fun cs=>WO B false os ⟨T.put t (.ref H.length 0),H++[.cj (cs.map AV.drop)],cond (Nat.blt H.length lo) H.length lo,gen⟩ K:=by
 rw[n5 rfl]
 simp only[au]
 cases (x.eval B.aO T).drop.cells with
 | none=>simp[bj]
 | some cs =>
  simp only[apB]
  cases cs.all aq with
  | false=>simp[bj]
  | true=>simp only[cond_true,aD];rfl
def pY(H:ag)(l:List Int)(m:Mk)(M:List (List AV))(r:List AV):ag:=H++.cj (fG (pC H l M []) m) :: xl (M++[r])
theorem ahj{H:ag}{l:List Int}{m:Mk}{M:List (List AV)}{r:List AV} : (pY H l m M r)[H.length]?=some (.cj (fG (pC H l M []) m)):=by simp[pY]
theorem adl{H:ag}{l:List Int}{m:Mk}{M:List (List AV)}{r:List AV} : (pY H l m M r).set H.length (.cj (fG (pC H l (M++[r]) []) m))=pH H l m (M++[r]) []:=by
 rw[pY,aqc _ _ (by omega),aqD,List.set_cons_zero,pH]
 simp[xl]
theorem adk{B:AP}{T:ax}{H:ag}{l:List Int}{m:Mk}{M:List (List AV)}{r:List AV}{gen t:Nat}{K:AS->Prop}{os:List aj}{o:Bool}(hM:M≠[])(hw:∀ q∈M,q.length=6)(hr:r.length=6)(hp:r.all AV.plain=true)(hD:M.length<=1000) :
  BY B 6 88 (.sref (H.length+M.length) 0 M.length 6) (.slice [r] o) t os T (pH H l m M []) H.length gen K=WO B false os ⟨T.put t (.sref (H.length+(M++[r]).length) 0 (M++[r]).length 6),pY H l m M r,H.length,gen⟩ K:=by
 have vJ:cH [r]=true:=by unfold cH;simp only[List.all_cons,List.all_nil,hp,Bool.and_self]
 have hlen:=mL (H:=H) (l:=l) (m:=m) (M:=M) (D:=[])
 have h0:0<M.length:=aqj.2 hM
 have hb:Nat.blt (H.length+M.length) H.length=false:=by
  cases h:Nat.blt (H.length+M.length) H.length with
  | true=>have:=Nat.le_of_ble_eq_true h;omega
  | false=>rfl
 have pq:M.flatten.length=M.length*6:=dx hw
 rw[xn (te hM) pq (by simp only[List.length_cons,List.length_nil] at *;omega) (by simp only[List.length_cons,List.length_nil] at *;omega) (by unfold fM;simp[hr]) vJ,hlen,hb]
 have dI:(pH H l m M []).set (H.length+M.length) .dead++[.box aL (M.flatten++[r].flatten)]=pY H l m M r:=by
  have h1:=KE (rows:=M) (r:=r) hM
  have hn:xl ([]:List (List AV))=[]:=rfl
  rw[pH,aqc _ _ (by omega),show H.length+M.length-H.length=(M.length-1)+1 by omega,List.set_cons_succ,hn,aqt,pY,<- h1]
  simp only[aqL,ap2,aqq,ar6,aqt]
 rw[dI]
 simp only[apE,apL,ap3,List.length_cons,List.length_nil,aqO]
 rw[show H.length+1+M.length=H.length+(M.length+1) by omega]
section
variable {H:ag}{l:List Int}{M D:List (List AV)}
theorem zf(hl:∀ n∈l,pS n)(m:Mk)(n:Int)(hn:0<n):∃ x p,0<=x/\x<n/\az A 17 [.ref H.length 0,.int .i64 n] (pH H l m M D)=some (.int .i64 x,some ⟨pH H l { m with pos:=p } M D,H.length⟩):=by
 obtain⟨x,p,h1,h2,h3⟩:=Lq (BC hl (m:=m) (M:=M) (D:=D) (H:=H)) n hn
 rw[qy] at h3
 exact⟨x,p,h1,h2,h3⟩
theorem ag5(hl:∀ n∈l,pS n)(m:Mk)(hn:0<=m.next/\m.next<=1000000):az A 16 [.ref H.length 0] (pH H l m M D)=some (.agg (an (lh m.next)),some ⟨pH H l { m with next:=m.next+1 } M D,H.length⟩):=by
 have h3:=ag4 (BC hl (m:=m) (M:=M) (D:=D) (H:=H)) hn
 rw[qy] at h3
 exact h3
theorem ag3(hl:∀ n∈l,pS n)(m:Mk):∃ (i:Id) (x:Int),i.bK=0/\az A 16 [.ref H.length 0] (pH H l m M D)=some (.agg (an i),some ⟨pH H l { m with next:=x } M D,H.length⟩):=by
 obtain⟨i,x,h1,h3⟩:=ZZ (BC hl (m:=m) (M:=M) (D:=D) (H:=H))
 rw[qy] at h3
 exact⟨i,x,h1,h3⟩
end
theorem ahl(l:List Int)(H:ag)(hl:∀ n∈l,pS n)(Q:bq->AS->Prop)(h:∀ s,Pre H l s->W A mT s Q):W A iL.body { T:=gD [.slice (ints l) false],H,lo:=H.length,gen:=0 } Q:=by
 have gr:(bif decide (H.length<H.length) then H.length else H.length)=H.length:=by simp
 have h1:MH ⟨H.length,.ae,.ae,l⟩ ⟨0,0,0,0⟩ (H++[.cj (fG ⟨H.length,.ae,.ae,l⟩ ⟨0,0,0,0⟩)]):=by
  refine⟨by simp,?_,hl,.inl rfl,.inl rfl⟩
  intro j cs hj fF
  have hJ:H.length<=j:=hj
  by_cases e:j=H.length
  ·subst e
   simp at fF
   subst fF
   rfl
  ·rw[aqK (by simp;omega)] at fF
   cases fF
 have hid:=ag4 h1 ⟨by decide,by decide⟩
 have dI:cm ⟨H.length,.ae,.ae,l⟩ { ({ pos:=0,next:=0,left:=0,own:=0 } : Mk) with next:=0+1 } (H++[.cj (fG ⟨H.length,.ae,.ae,l⟩ ⟨0,0,0,0⟩)])=H++[.cj [.ae,.ae,.slice (ints l) false,.int .i64 0,.int .i64 1,.int .i64 0,.int .i64 0]]:=by
  simp[cm,fG]
 rw[dI] at hid
 simp only[fG,an] at hid
 have abJ:iL.body=.seq (iA iL.body) (.seq (iA oA) (.seq (iA oB) (.seq (iA oC) (.seq (iA oD) (.seq (iA oE) (.seq (iA oF) mT)))))):=rfl
 rw[abJ]
 have aU:H.length<H.length+1:=by omega
 have hbx:∀ o:ct,(H++[o])[H.length]?=some o:=fun o=>by simp
 have ajz:∀ o o' : ct,(H++[o,o'])[H.length]?=some o:=fun o o'=>by simp
 have pe:∀ o o' : ct,(H++[o]).set H.length o'=H++[o']:=fun o o'=>by simp
 have VI:∀ o o' o'' : ct,(H++[o,o'']).set H.length o'=H++[o',o'']:=fun o o' o''=>by simp
 have yC:∀ o o' : ct,(H++[o])++[o']=H++[o,o']:=fun o o'=>by simp
 have A' : (bif decide (H.length+1<H.length) then H.length+1 else H.length)=H.length:=by rw[aqy (by omega)];rfl
 have mJ:cH [[.int .i64 (lh 0).bK,.int .i64 (lh 0).seq,.int .i64 (lh 0).index,.str [99,111,114,101],.ae,.ae]]=true:=rfl
 have agi:H++[ct.cj [.sref (H.length+1) 0 1 6,.ae,.slice (ints l) false,.int .i64 0,.int .i64 1,.int .i64 0,.int .i64 0],.box aL [[AV.int .i64 (lh 0).bK,.int .i64 (lh 0).seq,.int .i64 (lh 0).index,.str [99,111,114,101],.ae,.ae]].flatten]=pH H l ⟨0,1,0,0⟩ (aH false [] []) []:=rfl
 obtain⟨x,p,rH,ZX,fN⟩:=zf (M:=aH false [] []) (D:=[]) (H:=H) hl ⟨0,1,0,0⟩ 2 (by omega)
 simp(disch:=omega)only[aG,aa,simprocAttr,iL,oA,oB,oC,oD,oE,oF,iA,cu,ady,hid,gr,hbx,ajz,pe,VI,yC,A',mJ,aY,apL,List.length_cons,List.length_nil,Nat.zero_add,agi,fN]
 have hx:x=0\/x=1:=by omega
 have hk:(10:Nat)=10:=rfl
 rcases hx with rfl|rfl
 ·obtain⟨y,p2,K',hy5,dz⟩:=zf (M:=aH false [] []) (D:=[]) (H:=H) hl ⟨p,1,0,0⟩ 5 (by omega)
  obtain⟨z,rfl⟩:∃ z:Nat,y=z:=⟨y.toNat,by omega⟩
  simp(disch:=omega)only[aG,aa,simprocAttr,gr,dz]
  refine h _ ⟨_,_,false,z+4,rfl,rfl,by omega,by omega,?_⟩
  simp(disch:=omega)only[aG,aa,simprocAttr]
  exact⟨by omega,rfl,rfl⟩
 ·have agn:=ag5 (M:=aH false [] []) (D:=[]) (H:=H) hl ⟨p,1,0,0⟩ ⟨(by decide:(0:Int)<=1),(by decide:(1:Int)<=1000000)⟩
  obtain⟨y,p2,K',hy5,dz⟩:=zf (M:=aH true [] []) (D:=[]) (H:=H) hl ⟨p,2,0,0⟩ 5 (by omega)
  obtain⟨z,rfl⟩:∃ z:Nat,y=z:=⟨y.toNat,by omega⟩
  have hg:∀ m,(pH H l m (aH false [] []) [])[H.length]?=some (.cj [.sref (H.length+1) 0 1 6,.ae,.slice (ints l) false,.int .i64 m.pos,.int .i64 m.next,.int .i64 m.left,.int .i64 m.own]):=fun m=>mu
  have Jr:∀ m,(pH H l m (aH false [] []) [])[H.length+1]?=some (.box aL (aH false [] []).flatten):=fun m=>te fU
  have Qf:ah false true 3 0 (aH false [] []).flatten=some (.agg [.int .i64 0,.int .i64 1,.int .i64 0]):=rfl
  have VC:=fun (m:Mk) (B:AP) (T:ax) gen t K os o=>adk (B:=B) (T:=T) (H:=H) (l:=l) (m:=m) (M:=aH false [] []) (r:=G3 (lh 1) jY [lh 0] []) (gen:=gen) (t:=t) (K:=K) (os:=os) (o:=o) fU J0 rfl rfl (by decide)
  have Om:∀ m,(pY H l m (aH false [] []) (G3 (lh 1) jY [lh 0] []))[H.length]?=some (.cj [.sref (H.length+1) 0 1 6,.ae,.slice (ints l) false,.int .i64 m.pos,.int .i64 m.next,.int .i64 m.left,.int .i64 m.own]):=fun m=>ahj
  have Ot:∀ m:Mk,(pY H l m (aH false [] []) (G3 (lh 1) jY [lh 0] [])).set H.length (.cj [.sref (H.length+(1+1)) 0 (1+1) 6,.ae,.slice (ints l) false,.int .i64 m.pos,.int .i64 m.next,.int .i64 m.left,.int .i64 m.own])=pH H l m (aH true [] []) []:=fun m=>adl
  simp only[show G3 (lh 1) jY [lh 0] []=[.int .i64 (lh 1).bK,.int .i64 (lh 1).seq,.int .i64 (lh 1).index,.str [109,105,108,108],.slice [[.int .i64 0,.int .i64 1,.int .i64 0]] false,.ae] from rfl,show (aH false [] []).length=1 from rfl,apL,ap3] at VC Om Ot
  simp only[an] at agn
  simp(disch:=omega)only[aG,aa,simprocAttr,gr,agn,hg,Jr,Qf,VC,Om,Ot,dz,aY,lK,jX]
  refine h _ ⟨_,_,true,z+4,rfl,rfl,by omega,by omega,?_⟩
  simp(disch:=omega)only[aG,aa,simprocAttr]
  exact⟨by omega,rfl,rfl⟩
end
def du:bO->bO
 | .block _ b=>b
 | .loop b=>b
 | c=>c
def A8:bO:=iA (cu (cu (du (iA (cu (du (du (cu (p8)))))))))
def B8:bO:=cu (cu (cu (du (iA (cu (du (du (cu (p8)))))))))
theorem ahh:p8=(.seq (.region false [{ dst:=some 7,guard:=none,op:=.mov true false (.cr (.int (.i64) 0)) }]) (.block 0 (.loop (.seq (.seq (.region false [{ dst:=some 58,guard:=none,op:=.mov false false (.tmp 7) },{ dst:=some 59,guard:=none,op:=.mov false false (.tmp 4) },{ dst:=some 60,guard:=none,op:=.bin (.lss) (.other) (.tmp 58) (.tmp 59) }]) (.cond (.tmp 60) (.skip) (.exit 0))) (.seq (.block 1 (.seq (.region false [{ dst:=some 8,guard:=none,op:=.mov true false (.cr (.int (.i64) 0)) }]) (.seq (.seq (.region false [{ dst:=some 63,guard:=none,op:=.mov false false (.tmp 7) },{ dst:=some 64,guard:=none,op:=.bin (.gtr) (.other) (.tmp 63) (.cr (.int (.i64) 1)) }]) (.cond (.tmp 64) (.region false [{ dst:=some 65,guard:=none,op:=.mov false false (.tmp 3) },{ dst:=some 66,guard:=none,op:=.mov false false (.tmp 3) },{ dst:=some 67,guard:=none,op:=.nilCheck (.tmp 66) },{ dst:=some 68,guard:=none,op:=.fieldAddr 0 (.tmp 67) },{ dst:=some 69,guard:=none,op:=.fieldAddr 0 (.tmp 68) },{ dst:=some 70,guard:=none,op:=.load false false 1 (.tmp 69) },{ dst:=some 71,guard:=none,op:=.len (.sl) (.tmp 70) },{ dst:=some 72,guard:=none,op:=.call (.fn 17) [.tmp 65,.tmp 71] },{ dst:=some 8,guard:=none,op:=.mov true false (.tmp 72) }]) (.skip))) (.seq A8 B8)))) (.region false [{ dst:=some 61,guard:=none,op:=.mov false false (.tmp 7) },{ dst:=some 62,guard:=none,op:=.bin (.add) (.other) (.tmp 61) (.cr (.int (.i64) 1)) },{ dst:=some 7,guard:=none,op:=.mov true false (.tmp 62) }])))))):=rfl
def alb:Cells 5:=⟨[.int .i64 0,.int .i64 0,.int .i64 0,.int .i64 0,.ae],rfl,rfl⟩
def aaa:Cells 15:=⟨[.int .i64 0,.int .i64 0,.int .i64 0,.int .i64 0,.int .i64 0,.int .i64 0,.int .i64 0,.int .i64 0,.int .i64 0,.int .i64 0,.int .i64 0,.int .i64 0,.ae,.ae,.ae],rfl,rfl⟩
def zTl:Cells 2:=⟨[.int .i64 0,.ae],rfl,rfl⟩
def wW(l:List Slot):AV:=match l with|[]=>.ae|_=>.slice (bw l) true
def aE(d:Def):List AV:=an d.id++[.int .i64 d.kind]++an d.mod++[.str d.name,wW d.aZ]++d.res.l++d.body.l++d.tl.l
theorem x5{d:Def} : (aE d).length=31:=by simp[aE,an,d.res.len,d.body.len,d.tl.len]
theorem ga{ds:List Def} : ∀ q∈ds.map aE,q.length=31:=fun q hq=>by
 obtain⟨d,_,rfl⟩:=ap9.1 hq
 exact x5
def NH(n:Int)(k:Int)(mo:Id)(name:fa):Def:=⟨lh n,k,mo,name,[],alb,aaa,zTl⟩
theorem G5{n k:Int}{mo:Id}{name:fa} : aE (NH n k mo name)=[.int .i64 (lh n).bK,.int .i64 (lh n).seq,.int .i64 (lh n).index,.int .i64 k,.int .i64 mo.bK,.int .i64 mo.seq,.int .i64 mo.index,.str name,.ae,.int .i64 0,.int .i64 0,.int .i64 0,.int .i64 0,.ae,.int .i64 0,.int .i64 0,.int .i64 0,.int .i64 0,.int .i64 0,.int .i64 0,.int .i64 0,.int .i64 0,.int .i64 0,.int .i64 0,.int .i64 0,.int .i64 0,.ae,.ae,.ae,.int .i64 0,.ae]:=rfl
theorem aiS{l:List Int}{H:ag}(hl:∀ n∈l,pS n){T:ax}{m:Mk}{M:List (List AV)}{ds:List Def}{g i y:Nat}{mi:Id}{Q:bq->AS->Prop}(hM:M≠[])(hi:i<8)(hy:y<M.length)(hMl:M.length<=2)(w9:ds.length<=8)
  (hn:0<=m.next/\m.next<=1000) (hmi:ah false true 3 (y*6) M.flatten=some (.agg (an mi)))
  (e3:T 3=.ref H.length 0) (e5:T 5=.slice (ints dA) true) (e6:T 6=.slice (strs iM) true) (e7:T 7=.int .i64 i) (e8:T 8=.int .i64 y)
  (hQ:∀ T' : ax,(T' 2=T 2/\T' 3=T 3/\T' 4=T 4/\T' 5=T 5/\T' 6=T 6/\T' 7=T 7/\T' 8=T 8)->Q .normal ⟨T',pH H l { m with next:=m.next+1 } M ((ds++[NH m.next (dA.getD i 0) mi (iM.getD i [])]).map aE),H.length,g⟩) :
  W A A8 ⟨T,pH H l m M (ds.map aE),H.length,g⟩ Q:=by
 have hid:=ag5 (M:=M) (D:=ds.map aE) (H:=H) hl m ⟨by omega,by omega⟩
 have gr:(bif decide (H.length<H.length) then H.length else H.length)=H.length:=by simp
 have hkL:dA.length=8:=rfl
 have hnL:iM.length=8:=rfl
 have hk:=ints_at (l:=dA) (i:=i) (n:=dA.getD i 0) (by rw[apX,apy (by omega)];rfl)
 have uI:(strs iM)[i]?=some [.str (iM.getD i [])]:=by simp[strs,apy (show i<iM.length by omega)]
 have oR:(ints dA).length=8:=rfl
 have pP:(strs iM).length=8:=rfl
 generalize dA.getD i 0=k at *
 generalize iM.getD i []=nm at *
 have hg:∀ m,(pH H l m M (ds.map aE))[H.length]?=some (.cj [.sref (H.length+M.length) 0 M.length 6,aA (H.length+M.length) 31 (ds.map aE),.slice (ints l) false,.int .i64 m.pos,.int .i64 m.next,.int .i64 m.left,.int .i64 m.own]):=fun m=>mu
 have Jr:∀ m,(pH H l m M (ds.map aE))[H.length+M.length]?=some (.box aL M.flatten):=fun m=>te hM
 have jq:=fun (m1:Mk) (B:AP) (T:ax) gen t K os o=>adi (B:=B) (T:=T) (H:=H) (l:=l) (m:=m1) (M:=M) (D:=ds.map aE) (r:=aE (NH m.next k mi nm)) (gen:=gen) (t:=t) (K:=K) (os:=os) (o:=o) ga x5 (by rw[G5];rfl) (by rw[apQ];omega)
 have hgX:∀ (m:Mk) r,(pX H l m M (ds.map aE) r)[H.length]?=some (.cj [.sref (H.length+M.length) 0 M.length 6,aA (H.length+M.length) 31 (ds.map aE),.slice (ints l) false,.int .i64 m.pos,.int .i64 m.next,.int .i64 m.left,.int .i64 m.own]):=fun m r=>ahi
 have hsX:∀ (m:Mk) r,(pX H l m M (ds.map aE) r).set H.length (.cj [.sref (H.length+M.length) 0 M.length 6,.sref (H.length+M.length+(ds.map aE++[r]).length) 0 (ds.map aE++[r]).length 31,.slice (ints l) false,.int .i64 m.pos,.int .i64 m.next,.int .i64 m.left,.int .i64 m.own])=pH H l m M (ds.map aE++[r]):=fun m r=>by
  have:=adj (H:=H) (l:=l) (m:=m) (M:=M) (D:=ds.map aE) (r:=r)
  rw[<- this,fG]
  have h2:(pC H l M (ds.map aE++[r])).pd=.sref (H.length+M.length+(ds.map aE++[r]).length) 0 (ds.map aE++[r]).length 31:=jl (by simp)
  rw[h2];rfl
 rw[arK,List.map_singleton] at hQ
 rw[an] at hmi hid
 simp only[G5] at jq hQ
 have hD:aA (H.length+M.length) 31 (ds.map aE)=.ae\/aA (H.length+M.length) 31 (ds.map aE)=.sref (H.length+M.length+(ds.map aE).length) 0 (ds.map aE).length 31:=by
  cases ds with
  | nil=>exact .inl rfl
  | cons d ds=>exact .inr rfl
 have hlm:decide (y<M.length)=true:=by simpa using hy
 rcases hD with hD|hD
 all_goals
  rw[hD] at jq
  simp only[hD] at hg hgX
  simp only[apQ,apL,ap3] at hg hgX hsX jq
  simp(disch:=omega)only[aG,aa,simprocAttr,A8,p8,mT,oF,oE,oD,oC,oB,oA,iA,cu,du,iL,hid,gr,hg,Jr,hmi,e3,e5,e6,e7,e8,hk,uI,oR,pP,hgX,hsX,jq,aY,lK,jX,hlm]
  exact hQ _ (by simp(disch:=omega)only[aG,aa,simprocAttr])
def pn(l:List Id):AV:=match l with|[]=>.ae|_=>.slice (al l) true
theorem ae9{l:List Int}{H:ag}(hl:∀ n∈l,pS n){T:ax}{m:Mk}{ds:List Def}{g i:Nat}{d:Def}(l0 l1:List Id){Q:bq->AS->Prop}(hd:ds[i]?=some d)
  (e3:T 3=.ref H.length 0) (e7:T 7=.int .i64 i) (e8:T 8=.int .i64 0)
  (hQ:∀ T' : ax,(T' 2=T 2/\T' 3=T 3/\T' 4=T 4/\T' 5=T 5/\T' 6=T 6/\T' 7=T 7/\T' 8=T 8)->Q .normal ⟨T',pH H l m (aH false ([]++[d.id]) l1) (ds.map aE),H.length,g⟩) :
  W A B8 ⟨T,pH H l m (aH false [] l1) (ds.map aE),H.length,g⟩ Q:=by
 have aU:i<ds.length:=(apw.1 hd).1
 have bC:ds.map aE≠[]:=by intro h;rw[List.map_eq_nil_iff] at h;rw[h] at aU;simp at aU
 have gr:(bif decide (H.length<H.length) then H.length else H.length)=H.length:=by simp
 have Bh:(bif decide (H.length+1<H.length) then H.length+1 else H.length)=H.length:=by rw[aqy (by omega)];rfl
 have hD:aA (H.length+1) 31 (ds.map aE)=.sref (H.length+1+ds.length) 0 ds.length 31:=by rw[jl bC,apQ]
 have hg:(pH H l m (aH false [] l1) (ds.map aE))[H.length]?=some (.cj [.sref (H.length+1) 0 1 6,.sref (H.length+1+ds.length) 0 ds.length 31,.slice (ints l) false,.int .i64 m.pos,.int .i64 m.next,.int .i64 m.left,.int .i64 m.own]):=by
  rw[<- hD];exact mu
 have Jr:(pH H l m (aH false [] l1) (ds.map aE))[H.length+1]?=some (.box aL [.int .i64 0,.int .i64 1,.int .i64 0,.str ju,.ae,.ae]):=te fU
 have jH:(pH H l m (aH false [] l1) (ds.map aE))[H.length+1+ds.length]?=some (.box aL (ds.map aE).flatten):=by
  have:=td (H:=H) (l:=l) (m:=m) (M:=(aH false [] l1)) bC
  rw[apQ] at this
  exact this
 have h1:H.length+1≠H.length:=by omega
 have h2:H.length+1≠H.length+1+ds.length:=by omega
 have hlen:H.length+1<(pH H l m (aH false [] l1) (ds.map aE)).length:=by rw[mL];show H.length+1<H.length+1+1+_;omega
 have HT:∀ o,((pH H l m (aH false [] l1) (ds.map aE)).set (H.length+1) o)[H.length]?=some (.cj [.sref (H.length+1) 0 1 6,.sref (H.length+1+ds.length) 0 ds.length 31,.slice (ints l) false,.int .i64 m.pos,.int .i64 m.next,.int .i64 m.left,.int .i64 m.own]):=fun o=>by rw[ap1 h1];exact hg
 have KX:∀ o,((pH H l m (aH false [] l1) (ds.map aE)).set (H.length+1) o)[H.length+1]?=some o:=fun o=>ap5 hlen
 have PW:∀ o,((pH H l m (aH false [] l1) (ds.map aE)).set (H.length+1) o)[H.length+1+ds.length]?=some (.box aL (ds.map aE).flatten):=fun o=>by rw[ap1 h2];exact jH
 have dI:(pH H l m (aH false [] l1) (ds.map aE)).set (H.length+1) (.box aL [.int .i64 0,.int .i64 1,.int .i64 0,.str ju,.ae,.slice (al ([]++[d.id])) true])=pH H l m (aH false ([]++[d.id]) l1) (ds.map aE):=sF (M:=(aH false [] l1)) (M':=(aH false ([]++[d.id]) l1)) fU rfl
 have hr:(ds.map aE)[i]?=some (aE d):=by rw[apG,hd];rfl
 have Qg:ah false true 3 (i*31) (ds.map aE).flatten=some (.agg [.int .i64 d.id.bK,.int .i64 d.id.seq,.int .i64 d.id.index]) :=
  (gF (j:=0) ga hr (by omega) (by omega) (by omega)).trans rfl
 have jq:bt false 3 24 (.slice [] true) (.slice [[.int .i64 d.id.bK,.int .i64 d.id.seq,.int .i64 d.id.index]] true)=some (.slice (al ([]++[d.id])) true):=rfl
 have C6:ah true false 1 5 [.int .i64 0,.int .i64 1,.int .i64 0,.str ju,.ae,.ae]=some (.ae):=rfl
 have lQ:decide (i<ds.length)=true:=by simpa using aU
 simp only[aqa,ap2] at dI hQ jq
 simp(disch:=omega)only[aG,aa,simprocAttr,bW,bZ,bF,ca,cM,bB,dQ,aw,av,aW,cQ,bU,aqu,aqv,B8,p8,mT,oF,oE,oD,oC,oB,oA,iA,cu,du,iL,C6,gr,Bh,hg,Jr,jH,HT,KX,PW,List.set_set,dI,Qg,jq,lQ,e3,e7,e8,aY,lK,jX]
 exact hQ _ (by simp(disch:=omega)only[aG,aa,simprocAttr])
theorem ae8{l:List Int}{H:ag}(hl:∀ n∈l,pS n){T:ax}{m:Mk}{ds:List Def}{g i:Nat}{d:Def}(l0 l1:List Id)(a:Id)(t:List Id){Q:bq->AS->Prop}(hd:ds[i]?=some d)(ht:t.length<=100)
  (e3:T 3=.ref H.length 0) (e7:T 7=.int .i64 i) (e8:T 8=.int .i64 0)
  (hQ:∀ T' : ax,(T' 2=T 2/\T' 3=T 3/\T' 4=T 4/\T' 5=T 5/\T' 6=T 6/\T' 7=T 7/\T' 8=T 8)->Q .normal ⟨T',pH H l m (aH false ((a :: t)++[d.id]) l1) (ds.map aE),H.length,g⟩) :
  W A B8 ⟨T,pH H l m (aH false (a :: t) l1) (ds.map aE),H.length,g⟩ Q:=by
 have aU:i<ds.length:=(apw.1 hd).1
 have bC:ds.map aE≠[]:=by intro h;rw[List.map_eq_nil_iff] at h;rw[h] at aU;simp at aU
 have gr:(bif decide (H.length<H.length) then H.length else H.length)=H.length:=by simp
 have Bh:(bif decide (H.length+1<H.length) then H.length+1 else H.length)=H.length:=by rw[aqy (by omega)];rfl
 have hD:aA (H.length+1) 31 (ds.map aE)=.sref (H.length+1+ds.length) 0 ds.length 31:=by rw[jl bC,apQ]
 have hg:(pH H l m (aH false (a :: t) l1) (ds.map aE))[H.length]?=some (.cj [.sref (H.length+1) 0 1 6,.sref (H.length+1+ds.length) 0 ds.length 31,.slice (ints l) false,.int .i64 m.pos,.int .i64 m.next,.int .i64 m.left,.int .i64 m.own]):=by
  rw[<- hD];exact mu
 have Jr:(pH H l m (aH false (a :: t) l1) (ds.map aE))[H.length+1]?=some (.box aL [.int .i64 0,.int .i64 1,.int .i64 0,.str ju,.ae,.slice (al (a :: t)) true]):=te fU
 have jH:(pH H l m (aH false (a :: t) l1) (ds.map aE))[H.length+1+ds.length]?=some (.box aL (ds.map aE).flatten):=by
  have:=td (H:=H) (l:=l) (m:=m) (M:=(aH false (a :: t) l1)) bC
  rw[apQ] at this
  exact this
 have h1:H.length+1≠H.length:=by omega
 have h2:H.length+1≠H.length+1+ds.length:=by omega
 have hlen:H.length+1<(pH H l m (aH false (a :: t) l1) (ds.map aE)).length:=by rw[mL];show H.length+1<H.length+1+1+_;omega
 have HT:∀ o,((pH H l m (aH false (a :: t) l1) (ds.map aE)).set (H.length+1) o)[H.length]?=some (.cj [.sref (H.length+1) 0 1 6,.sref (H.length+1+ds.length) 0 ds.length 31,.slice (ints l) false,.int .i64 m.pos,.int .i64 m.next,.int .i64 m.left,.int .i64 m.own]):=fun o=>by rw[ap1 h1];exact hg
 have KX:∀ o,((pH H l m (aH false (a :: t) l1) (ds.map aE)).set (H.length+1) o)[H.length+1]?=some o:=fun o=>ap5 hlen
 have PW:∀ o,((pH H l m (aH false (a :: t) l1) (ds.map aE)).set (H.length+1) o)[H.length+1+ds.length]?=some (.box aL (ds.map aE).flatten):=fun o=>by rw[ap1 h2];exact jH
 have dI:(pH H l m (aH false (a :: t) l1) (ds.map aE)).set (H.length+1) (.box aL [.int .i64 0,.int .i64 1,.int .i64 0,.str ju,.ae,.slice (al ((a :: t)++[d.id])) true])=pH H l m (aH false ((a :: t)++[d.id]) l1) (ds.map aE):=sF (M:=(aH false (a :: t) l1)) (M':=(aH false ((a :: t)++[d.id]) l1)) fU rfl
 have hr:(ds.map aE)[i]?=some (aE d):=by rw[apG,hd];rfl
 have Qg:ah false true 3 (i*31) (ds.map aE).flatten=some (.agg [.int .i64 d.id.bK,.int .i64 d.id.seq,.int .i64 d.id.index]) :=
  (gF (j:=0) ga hr (by omega) (by omega) (by omega)).trans rfl
 have jq:bt false 3 24 (.slice (al (a :: t)) true) (.slice [[.int .i64 d.id.bK,.int .i64 d.id.seq,.int .i64 d.id.index]] true)=some (.slice (al ((a :: t)++[d.id])) true):=tu (by simp;omega)
 have C6:ah true false 1 5 [.int .i64 0,.int .i64 1,.int .i64 0,.str ju,.ae,.slice (al (a :: t)) true]=some (.slice (al (a :: t)) true):=rfl
 have lQ:decide (i<ds.length)=true:=by simpa using aU
 simp only[aqa,ap2] at dI hQ jq
 simp(disch:=omega)only[aG,aa,simprocAttr,bW,bZ,bF,ca,cM,bB,dQ,aw,av,aW,cQ,bU,aqu,aqv,B8,p8,mT,oF,oE,oD,oC,oB,oA,iA,cu,du,iL,C6,gr,Bh,hg,Jr,jH,HT,KX,PW,List.set_set,dI,Qg,jq,lQ,e3,e7,e8,aY,lK,jX]
 exact hQ _ (by simp(disch:=omega)only[aG,aa,simprocAttr])
theorem afa{l:List Int}{H:ag}(hl:∀ n∈l,pS n){T:ax}{m:Mk}{ds:List Def}{g i:Nat}{d:Def}(l0 l1:List Id){Q:bq->AS->Prop}(hd:ds[i]?=some d)
  (e3:T 3=.ref H.length 0) (e7:T 7=.int .i64 i) (e8:T 8=.int .i64 0)
  (hQ:∀ T' : ax,(T' 2=T 2/\T' 3=T 3/\T' 4=T 4/\T' 5=T 5/\T' 6=T 6/\T' 7=T 7/\T' 8=T 8)->Q .normal ⟨T',pH H l m (aH true ([]++[d.id]) l1) (ds.map aE),H.length,g⟩) :
  W A B8 ⟨T,pH H l m (aH true [] l1) (ds.map aE),H.length,g⟩ Q:=by
 have aU:i<ds.length:=(apw.1 hd).1
 have bC:ds.map aE≠[]:=by intro h;rw[List.map_eq_nil_iff] at h;rw[h] at aU;simp at aU
 have gr:(bif decide (H.length<H.length) then H.length else H.length)=H.length:=by simp
 have Bh:(bif decide (H.length+2<H.length) then H.length+2 else H.length)=H.length:=by rw[aqy (by omega)];rfl
 have hD:aA (H.length+2) 31 (ds.map aE)=.sref (H.length+2+ds.length) 0 ds.length 31:=by rw[jl bC,apQ]
 have hg:(pH H l m (aH true [] l1) (ds.map aE))[H.length]?=some (.cj [.sref (H.length+2) 0 2 6,.sref (H.length+2+ds.length) 0 ds.length 31,.slice (ints l) false,.int .i64 m.pos,.int .i64 m.next,.int .i64 m.left,.int .i64 m.own]):=by
  rw[<- hD];exact mu
 have Jr:(pH H l m (aH true [] l1) (ds.map aE))[H.length+2]?=some (.box aL [.int .i64 0,.int .i64 1,.int .i64 0,.str ju,.ae,.ae,.int .i64 0,.int .i64 1,.int .i64 1,.str jY,.slice [[.int .i64 0,.int .i64 1,.int .i64 0]] false,pn l1]):=te fU
 have jH:(pH H l m (aH true [] l1) (ds.map aE))[H.length+2+ds.length]?=some (.box aL (ds.map aE).flatten):=by
  have:=td (H:=H) (l:=l) (m:=m) (M:=(aH true [] l1)) bC
  rw[apQ] at this
  exact this
 have h1:H.length+2≠H.length:=by omega
 have h2:H.length+2≠H.length+2+ds.length:=by omega
 have hlen:H.length+2<(pH H l m (aH true [] l1) (ds.map aE)).length:=by rw[mL];show H.length+2<H.length+1+2+_;omega
 have HT:∀ o,((pH H l m (aH true [] l1) (ds.map aE)).set (H.length+2) o)[H.length]?=some (.cj [.sref (H.length+2) 0 2 6,.sref (H.length+2+ds.length) 0 ds.length 31,.slice (ints l) false,.int .i64 m.pos,.int .i64 m.next,.int .i64 m.left,.int .i64 m.own]):=fun o=>by rw[ap1 h1];exact hg
 have KX:∀ o,((pH H l m (aH true [] l1) (ds.map aE)).set (H.length+2) o)[H.length+2]?=some o:=fun o=>ap5 hlen
 have PW:∀ o,((pH H l m (aH true [] l1) (ds.map aE)).set (H.length+2) o)[H.length+2+ds.length]?=some (.box aL (ds.map aE).flatten):=fun o=>by rw[ap1 h2];exact jH
 have dI:(pH H l m (aH true [] l1) (ds.map aE)).set (H.length+2) (.box aL [.int .i64 0,.int .i64 1,.int .i64 0,.str ju,.ae,.slice (al ([]++[d.id])) true,.int .i64 0,.int .i64 1,.int .i64 1,.str jY,.slice [[.int .i64 0,.int .i64 1,.int .i64 0]] false,pn l1])=pH H l m (aH true ([]++[d.id]) l1) (ds.map aE):=sF (M:=(aH true [] l1)) (M':=(aH true ([]++[d.id]) l1)) fU rfl
 have hr:(ds.map aE)[i]?=some (aE d):=by rw[apG,hd];rfl
 have Qg:ah false true 3 (i*31) (ds.map aE).flatten=some (.agg [.int .i64 d.id.bK,.int .i64 d.id.seq,.int .i64 d.id.index]) :=
  (gF (j:=0) ga hr (by omega) (by omega) (by omega)).trans rfl
 have jq:bt false 3 24 (.slice [] true) (.slice [[.int .i64 d.id.bK,.int .i64 d.id.seq,.int .i64 d.id.index]] true)=some (.slice (al ([]++[d.id])) true):=rfl
 have C6:ah true false 1 5 [.int .i64 0,.int .i64 1,.int .i64 0,.str ju,.ae,.ae,.int .i64 0,.int .i64 1,.int .i64 1,.str jY,.slice [[.int .i64 0,.int .i64 1,.int .i64 0]] false,pn l1]=some (.ae):=rfl
 have lQ:decide (i<ds.length)=true:=by simpa using aU
 simp only[aqa,ap2] at dI hQ jq
 simp(disch:=omega)only[aG,aa,simprocAttr,bW,bZ,bF,ca,cM,bB,dQ,aw,av,aW,cQ,bU,aqu,aqv,B8,p8,mT,oF,oE,oD,oC,oB,oA,iA,cu,du,iL,C6,gr,Bh,hg,Jr,jH,HT,KX,PW,List.set_set,dI,Qg,jq,lQ,e3,e7,e8,aY,lK,jX]
 exact hQ _ (by simp(disch:=omega)only[aG,aa,simprocAttr])
theorem ae'{l:List Int}{H:ag}(hl:∀ n∈l,pS n){T:ax}{m:Mk}{ds:List Def}{g i:Nat}{d:Def}(l0 l1:List Id)(a:Id)(t:List Id){Q:bq->AS->Prop}(hd:ds[i]?=some d)(ht:t.length<=100)
  (e3:T 3=.ref H.length 0) (e7:T 7=.int .i64 i) (e8:T 8=.int .i64 0)
  (hQ:∀ T' : ax,(T' 2=T 2/\T' 3=T 3/\T' 4=T 4/\T' 5=T 5/\T' 6=T 6/\T' 7=T 7/\T' 8=T 8)->Q .normal ⟨T',pH H l m (aH true ((a :: t)++[d.id]) l1) (ds.map aE),H.length,g⟩) :
  W A B8 ⟨T,pH H l m (aH true (a :: t) l1) (ds.map aE),H.length,g⟩ Q:=by
 have aU:i<ds.length:=(apw.1 hd).1
 have bC:ds.map aE≠[]:=by intro h;rw[List.map_eq_nil_iff] at h;rw[h] at aU;simp at aU
 have gr:(bif decide (H.length<H.length) then H.length else H.length)=H.length:=by simp
 have Bh:(bif decide (H.length+2<H.length) then H.length+2 else H.length)=H.length:=by rw[aqy (by omega)];rfl
 have hD:aA (H.length+2) 31 (ds.map aE)=.sref (H.length+2+ds.length) 0 ds.length 31:=by rw[jl bC,apQ]
 have hg:(pH H l m (aH true (a :: t) l1) (ds.map aE))[H.length]?=some (.cj [.sref (H.length+2) 0 2 6,.sref (H.length+2+ds.length) 0 ds.length 31,.slice (ints l) false,.int .i64 m.pos,.int .i64 m.next,.int .i64 m.left,.int .i64 m.own]):=by
  rw[<- hD];exact mu
 have Jr:(pH H l m (aH true (a :: t) l1) (ds.map aE))[H.length+2]?=some (.box aL [.int .i64 0,.int .i64 1,.int .i64 0,.str ju,.ae,.slice (al (a :: t)) true,.int .i64 0,.int .i64 1,.int .i64 1,.str jY,.slice [[.int .i64 0,.int .i64 1,.int .i64 0]] false,pn l1]):=te fU
 have jH:(pH H l m (aH true (a :: t) l1) (ds.map aE))[H.length+2+ds.length]?=some (.box aL (ds.map aE).flatten):=by
  have:=td (H:=H) (l:=l) (m:=m) (M:=(aH true (a :: t) l1)) bC
  rw[apQ] at this
  exact this
 have h1:H.length+2≠H.length:=by omega
 have h2:H.length+2≠H.length+2+ds.length:=by omega
 have hlen:H.length+2<(pH H l m (aH true (a :: t) l1) (ds.map aE)).length:=by rw[mL];show H.length+2<H.length+1+2+_;omega
 have HT:∀ o,((pH H l m (aH true (a :: t) l1) (ds.map aE)).set (H.length+2) o)[H.length]?=some (.cj [.sref (H.length+2) 0 2 6,.sref (H.length+2+ds.length) 0 ds.length 31,.slice (ints l) false,.int .i64 m.pos,.int .i64 m.next,.int .i64 m.left,.int .i64 m.own]):=fun o=>by rw[ap1 h1];exact hg
 have KX:∀ o,((pH H l m (aH true (a :: t) l1) (ds.map aE)).set (H.length+2) o)[H.length+2]?=some o:=fun o=>ap5 hlen
 have PW:∀ o,((pH H l m (aH true (a :: t) l1) (ds.map aE)).set (H.length+2) o)[H.length+2+ds.length]?=some (.box aL (ds.map aE).flatten):=fun o=>by rw[ap1 h2];exact jH
 have dI:(pH H l m (aH true (a :: t) l1) (ds.map aE)).set (H.length+2) (.box aL [.int .i64 0,.int .i64 1,.int .i64 0,.str ju,.ae,.slice (al ((a :: t)++[d.id])) true,.int .i64 0,.int .i64 1,.int .i64 1,.str jY,.slice [[.int .i64 0,.int .i64 1,.int .i64 0]] false,pn l1])=pH H l m (aH true ((a :: t)++[d.id]) l1) (ds.map aE):=sF (M:=(aH true (a :: t) l1)) (M':=(aH true ((a :: t)++[d.id]) l1)) fU rfl
 have hr:(ds.map aE)[i]?=some (aE d):=by rw[apG,hd];rfl
 have Qg:ah false true 3 (i*31) (ds.map aE).flatten=some (.agg [.int .i64 d.id.bK,.int .i64 d.id.seq,.int .i64 d.id.index]) :=
  (gF (j:=0) ga hr (by omega) (by omega) (by omega)).trans rfl
 have jq:bt false 3 24 (.slice (al (a :: t)) true) (.slice [[.int .i64 d.id.bK,.int .i64 d.id.seq,.int .i64 d.id.index]] true)=some (.slice (al ((a :: t)++[d.id])) true):=tu (by simp;omega)
 have C6:ah true false 1 5 [.int .i64 0,.int .i64 1,.int .i64 0,.str ju,.ae,.slice (al (a :: t)) true,.int .i64 0,.int .i64 1,.int .i64 1,.str jY,.slice [[.int .i64 0,.int .i64 1,.int .i64 0]] false,pn l1]=some (.slice (al (a :: t)) true):=rfl
 have lQ:decide (i<ds.length)=true:=by simpa using aU
 simp only[aqa,ap2] at dI hQ jq
 simp(disch:=omega)only[aG,aa,simprocAttr,bW,bZ,bF,ca,cM,bB,dQ,aw,av,aW,cQ,bU,aqu,aqv,B8,p8,mT,oF,oE,oD,oC,oB,oA,iA,cu,du,iL,C6,gr,Bh,hg,Jr,jH,HT,KX,PW,List.set_set,dI,Qg,jq,lQ,e3,e7,e8,aY,lK,jX]
 exact hQ _ (by simp(disch:=omega)only[aG,aa,simprocAttr])
theorem afc{l:List Int}{H:ag}(hl:∀ n∈l,pS n){T:ax}{m:Mk}{ds:List Def}{g i:Nat}{d:Def}(l0 l1:List Id){Q:bq->AS->Prop}(hd:ds[i]?=some d)
  (e3:T 3=.ref H.length 0) (e7:T 7=.int .i64 i) (e8:T 8=.int .i64 1)
  (hQ:∀ T' : ax,(T' 2=T 2/\T' 3=T 3/\T' 4=T 4/\T' 5=T 5/\T' 6=T 6/\T' 7=T 7/\T' 8=T 8)->Q .normal ⟨T',pH H l m (aH true l0 ([]++[d.id])) (ds.map aE),H.length,g⟩) :
  W A B8 ⟨T,pH H l m (aH true l0 []) (ds.map aE),H.length,g⟩ Q:=by
 have aU:i<ds.length:=(apw.1 hd).1
 have bC:ds.map aE≠[]:=by intro h;rw[List.map_eq_nil_iff] at h;rw[h] at aU;simp at aU
 have gr:(bif decide (H.length<H.length) then H.length else H.length)=H.length:=by simp
 have Bh:(bif decide (H.length+2<H.length) then H.length+2 else H.length)=H.length:=by rw[aqy (by omega)];rfl
 have hD:aA (H.length+2) 31 (ds.map aE)=.sref (H.length+2+ds.length) 0 ds.length 31:=by rw[jl bC,apQ]
 have hg:(pH H l m (aH true l0 []) (ds.map aE))[H.length]?=some (.cj [.sref (H.length+2) 0 2 6,.sref (H.length+2+ds.length) 0 ds.length 31,.slice (ints l) false,.int .i64 m.pos,.int .i64 m.next,.int .i64 m.left,.int .i64 m.own]):=by
  rw[<- hD];exact mu
 have Jr:(pH H l m (aH true l0 []) (ds.map aE))[H.length+2]?=some (.box aL [.int .i64 0,.int .i64 1,.int .i64 0,.str ju,.ae,pn l0,.int .i64 0,.int .i64 1,.int .i64 1,.str jY,.slice [[.int .i64 0,.int .i64 1,.int .i64 0]] false,.ae]):=te fU
 have jH:(pH H l m (aH true l0 []) (ds.map aE))[H.length+2+ds.length]?=some (.box aL (ds.map aE).flatten):=by
  have:=td (H:=H) (l:=l) (m:=m) (M:=(aH true l0 [])) bC
  rw[apQ] at this
  exact this
 have h1:H.length+2≠H.length:=by omega
 have h2:H.length+2≠H.length+2+ds.length:=by omega
 have hlen:H.length+2<(pH H l m (aH true l0 []) (ds.map aE)).length:=by rw[mL];show H.length+2<H.length+1+2+_;omega
 have HT:∀ o,((pH H l m (aH true l0 []) (ds.map aE)).set (H.length+2) o)[H.length]?=some (.cj [.sref (H.length+2) 0 2 6,.sref (H.length+2+ds.length) 0 ds.length 31,.slice (ints l) false,.int .i64 m.pos,.int .i64 m.next,.int .i64 m.left,.int .i64 m.own]):=fun o=>by rw[ap1 h1];exact hg
 have KX:∀ o,((pH H l m (aH true l0 []) (ds.map aE)).set (H.length+2) o)[H.length+2]?=some o:=fun o=>ap5 hlen
 have PW:∀ o,((pH H l m (aH true l0 []) (ds.map aE)).set (H.length+2) o)[H.length+2+ds.length]?=some (.box aL (ds.map aE).flatten):=fun o=>by rw[ap1 h2];exact jH
 have dI:(pH H l m (aH true l0 []) (ds.map aE)).set (H.length+2) (.box aL [.int .i64 0,.int .i64 1,.int .i64 0,.str ju,.ae,pn l0,.int .i64 0,.int .i64 1,.int .i64 1,.str jY,.slice [[.int .i64 0,.int .i64 1,.int .i64 0]] false,.slice (al ([]++[d.id])) true])=pH H l m (aH true l0 ([]++[d.id])) (ds.map aE):=sF (M:=(aH true l0 [])) (M':=(aH true l0 ([]++[d.id]))) fU rfl
 have hr:(ds.map aE)[i]?=some (aE d):=by rw[apG,hd];rfl
 have Qg:ah false true 3 (i*31) (ds.map aE).flatten=some (.agg [.int .i64 d.id.bK,.int .i64 d.id.seq,.int .i64 d.id.index]) :=
  (gF (j:=0) ga hr (by omega) (by omega) (by omega)).trans rfl
 have jq:bt false 3 24 (.slice [] true) (.slice [[.int .i64 d.id.bK,.int .i64 d.id.seq,.int .i64 d.id.index]] true)=some (.slice (al ([]++[d.id])) true):=rfl
 have C6:ah true false 1 11 [.int .i64 0,.int .i64 1,.int .i64 0,.str ju,.ae,pn l0,.int .i64 0,.int .i64 1,.int .i64 1,.str jY,.slice [[.int .i64 0,.int .i64 1,.int .i64 0]] false,.ae]=some (.ae):=rfl
 have lQ:decide (i<ds.length)=true:=by simpa using aU
 simp only[aqa,ap2] at dI hQ jq
 simp(disch:=omega)only[aG,aa,simprocAttr,bW,bZ,bF,ca,cM,bB,dQ,aw,av,aW,cQ,bU,aqu,aqv,B8,p8,mT,oF,oE,oD,oC,oB,oA,iA,cu,du,iL,C6,gr,Bh,hg,Jr,jH,HT,KX,PW,List.set_set,dI,Qg,jq,lQ,e3,e7,e8,aY,lK,jX]
 exact hQ _ (by simp(disch:=omega)only[aG,aa,simprocAttr])
theorem afb{l:List Int}{H:ag}(hl:∀ n∈l,pS n){T:ax}{m:Mk}{ds:List Def}{g i:Nat}{d:Def}(l0 l1:List Id)(a:Id)(t:List Id){Q:bq->AS->Prop}(hd:ds[i]?=some d)(ht:t.length<=100)
  (e3:T 3=.ref H.length 0) (e7:T 7=.int .i64 i) (e8:T 8=.int .i64 1)
  (hQ:∀ T' : ax,(T' 2=T 2/\T' 3=T 3/\T' 4=T 4/\T' 5=T 5/\T' 6=T 6/\T' 7=T 7/\T' 8=T 8)->Q .normal ⟨T',pH H l m (aH true l0 ((a :: t)++[d.id])) (ds.map aE),H.length,g⟩) :
  W A B8 ⟨T,pH H l m (aH true l0 (a :: t)) (ds.map aE),H.length,g⟩ Q:=by
 have aU:i<ds.length:=(apw.1 hd).1
 have bC:ds.map aE≠[]:=by intro h;rw[List.map_eq_nil_iff] at h;rw[h] at aU;simp at aU
 have gr:(bif decide (H.length<H.length) then H.length else H.length)=H.length:=by simp
 have Bh:(bif decide (H.length+2<H.length) then H.length+2 else H.length)=H.length:=by rw[aqy (by omega)];rfl
 have hD:aA (H.length+2) 31 (ds.map aE)=.sref (H.length+2+ds.length) 0 ds.length 31:=by rw[jl bC,apQ]
 have hg:(pH H l m (aH true l0 (a :: t)) (ds.map aE))[H.length]?=some (.cj [.sref (H.length+2) 0 2 6,.sref (H.length+2+ds.length) 0 ds.length 31,.slice (ints l) false,.int .i64 m.pos,.int .i64 m.next,.int .i64 m.left,.int .i64 m.own]):=by
  rw[<- hD];exact mu
 have Jr:(pH H l m (aH true l0 (a :: t)) (ds.map aE))[H.length+2]?=some (.box aL [.int .i64 0,.int .i64 1,.int .i64 0,.str ju,.ae,pn l0,.int .i64 0,.int .i64 1,.int .i64 1,.str jY,.slice [[.int .i64 0,.int .i64 1,.int .i64 0]] false,.slice (al (a :: t)) true]):=te fU
 have jH:(pH H l m (aH true l0 (a :: t)) (ds.map aE))[H.length+2+ds.length]?=some (.box aL (ds.map aE).flatten):=by
  have:=td (H:=H) (l:=l) (m:=m) (M:=(aH true l0 (a :: t))) bC
  rw[apQ] at this
  exact this
 have h1:H.length+2≠H.length:=by omega
 have h2:H.length+2≠H.length+2+ds.length:=by omega
 have hlen:H.length+2<(pH H l m (aH true l0 (a :: t)) (ds.map aE)).length:=by rw[mL];show H.length+2<H.length+1+2+_;omega
 have HT:∀ o,((pH H l m (aH true l0 (a :: t)) (ds.map aE)).set (H.length+2) o)[H.length]?=some (.cj [.sref (H.length+2) 0 2 6,.sref (H.length+2+ds.length) 0 ds.length 31,.slice (ints l) false,.int .i64 m.pos,.int .i64 m.next,.int .i64 m.left,.int .i64 m.own]):=fun o=>by rw[ap1 h1];exact hg
 have KX:∀ o,((pH H l m (aH true l0 (a :: t)) (ds.map aE)).set (H.length+2) o)[H.length+2]?=some o:=fun o=>ap5 hlen
 have PW:∀ o,((pH H l m (aH true l0 (a :: t)) (ds.map aE)).set (H.length+2) o)[H.length+2+ds.length]?=some (.box aL (ds.map aE).flatten):=fun o=>by rw[ap1 h2];exact jH
 have dI:(pH H l m (aH true l0 (a :: t)) (ds.map aE)).set (H.length+2) (.box aL [.int .i64 0,.int .i64 1,.int .i64 0,.str ju,.ae,pn l0,.int .i64 0,.int .i64 1,.int .i64 1,.str jY,.slice [[.int .i64 0,.int .i64 1,.int .i64 0]] false,.slice (al ((a :: t)++[d.id])) true])=pH H l m (aH true l0 ((a :: t)++[d.id])) (ds.map aE):=sF (M:=(aH true l0 (a :: t))) (M':=(aH true l0 ((a :: t)++[d.id]))) fU rfl
 have hr:(ds.map aE)[i]?=some (aE d):=by rw[apG,hd];rfl
 have Qg:ah false true 3 (i*31) (ds.map aE).flatten=some (.agg [.int .i64 d.id.bK,.int .i64 d.id.seq,.int .i64 d.id.index]) :=
  (gF (j:=0) ga hr (by omega) (by omega) (by omega)).trans rfl
 have jq:bt false 3 24 (.slice (al (a :: t)) true) (.slice [[.int .i64 d.id.bK,.int .i64 d.id.seq,.int .i64 d.id.index]] true)=some (.slice (al ((a :: t)++[d.id])) true):=tu (by simp;omega)
 have C6:ah true false 1 11 [.int .i64 0,.int .i64 1,.int .i64 0,.str ju,.ae,pn l0,.int .i64 0,.int .i64 1,.int .i64 1,.str jY,.slice [[.int .i64 0,.int .i64 1,.int .i64 0]] false,.slice (al (a :: t)) true]=some (.slice (al (a :: t)) true):=rfl
 have lQ:decide (i<ds.length)=true:=by simpa using aU
 simp only[aqa,ap2] at dI hQ jq
 simp(disch:=omega)only[aG,aa,simprocAttr,bW,bZ,bF,ca,cM,bB,dQ,aw,av,aW,cQ,bU,aqu,aqv,B8,p8,mT,oF,oE,oD,oC,oB,oA,iA,cu,du,iL,C6,gr,Bh,hg,Jr,jH,HT,KX,PW,List.set_set,dI,Qg,jq,lQ,e3,e7,e8,aY,lK,jX]
 exact hQ _ (by simp(disch:=omega)only[aG,aa,simprocAttr])
theorem aiT{l:List Int}{H:ag}(hl:∀ n∈l,pS n){T:ax}{m:Mk}{ds:List Def}{g i y:Nat}{d:Def}(two:Bool)(l0 l1:List Id){Q:bq->AS->Prop}(hd:ds[i]?=some d)(hy:y=0\/(two=true/\y=1))(h0:l0.length<=100)(h1:l1.length<=100)
  (e3:T 3=.ref H.length 0) (e7:T 7=.int .i64 i) (e8:T 8=.int .i64 y)
  (hQ:∀ (T' : ax) (l0' l1' : List Id),(T' 2=T 2/\T' 3=T 3/\T' 4=T 4/\T' 5=T 5/\T' 6=T 6/\T' 7=T 7/\T' 8=T 8)->l0'.length<=l0.length+1->l1'.length<=l1.length+1->Q .normal ⟨T',pH H l m (aH two l0' l1') (ds.map aE),H.length,g⟩) :
  W A B8 ⟨T,pH H l m (aH two l0 l1) (ds.map aE),H.length,g⟩ Q:=by
 rcases hy with rfl|⟨rfl,rfl⟩
 ·cases two with
  | false =>
   cases l0 with
   | nil=>exact ae9 hl [] l1 hd e3 e7 e8 fun T' hT=>hQ T' _ l1 hT (by simp) (by omega)
   | cons a t=>exact ae8 hl [] l1 a t hd (by simp at h0;omega) e3 e7 e8 fun T' hT=>hQ T' _ l1 hT (by simp) (by omega)
  | true =>
   cases l0 with
   | nil=>exact afa hl [] l1 hd e3 e7 e8 fun T' hT=>hQ T' _ l1 hT (by simp) (by omega)
   | cons a t=>exact ae' hl [] l1 a t hd (by simp at h0;omega) e3 e7 e8 fun T' hT=>hQ T' _ l1 hT (by simp) (by omega)
 ·cases l1 with
  | nil=>exact afc hl l0 [] hd e3 e7 e8 fun T' hT=>hQ T' l0 _ hT (by omega) (by simp)
  | cons a t=>exact afb hl l0 [] a t hd (by simp at h1;omega) e3 e7 e8 fun T' hT=>hQ T' l0 _ hT (by omega) (by simp)
def bS(two:Bool):Nat:=if two then 2 else 1
theorem cT{two:Bool}{l0 l1:List Id} : (aH two l0 l1).length=bS two:=by cases two<;>rfl
def DS(two:Bool)(ds:List Def):Prop:=∀ j d,ds[j]?=some d->∃ mi,d=NH ((bS two:Nat)+(j:Nat)) (dA.getD j 0) mi (iM.getD j [])/\(mi=lh 0\/(two=true/\mi=lh 1))
theorem DS.snoc{two:Bool}{ds:List Def}(h:DS two ds){mi:Id}(hm:mi=lh 0\/(two=true/\mi=lh 1)):DS two (ds++[NH ((bS two:Nat)+(ds.length:Nat)) (dA.getD ds.length 0) mi (iM.getD ds.length [])]):=by
 intro j d hj
 by_cases e:j<ds.length
 ·rw[apN e] at hj;exact h j d hj
 ·rw[apM (by omega)] at hj
  have:j-ds.length=0:=by
   cases hh:j-ds.length with
   | zero=>rfl
   | succ k=>rw[hh] at hj;simp at hj
  have hJ:j=ds.length:=by omega
  subst hJ
  rw[this] at hj
  cases hj
  exact⟨mi,rfl,hm⟩
def OA(H:ag)(l:List Int)(two:Bool)(many:Nat)(s:AS):Prop:=∃ T m ds l0 l1,s=⟨T,pH H l m (aH two l0 l1) (ds.map aE),H.length,1⟩/\DS two ds/\ds.length=many/\l0.length<=many/\l1.length<=many /\
 T 2=.lbox 0 [.ae,.ae]/\T 3=.ref H.length 0/\T 4=.int .i64 many/\T 5=.slice (ints dA) true
theorem JZ{two:Bool}{l0 l1:List Id}{y:Nat}(hy:y=0\/(two=true/\y=1)):ah false true 3 (y*6) (aH two l0 l1).flatten=some (.agg (an (lh y))):=by
 rcases hy with rfl|⟨rfl,rfl⟩
 ·cases two<;>rfl
 ·rfl
theorem Xv(l:List Int)(H:ag)(hl:∀ n∈l,pS n)(s:AS)(two:Bool)(many:Nat)(hm:many<=8)
  (h:∃ T m,s=⟨T,pH H l m (aH two [] []) [],H.length,1⟩/\m.next=(bS two:Nat)/\T 2=.lbox 0 [.ae,.ae]/\T 3=.ref H.length 0/\T 4=.int .i64 many/\T 5=.slice (ints dA) true/\T 6=.slice (strs iM) true) :
  W A p8 s (Lt (OA H l two many)):=by
 obtain⟨T,m,rfl,M7,e2,e3,e4,e5,e6⟩:=h
 rw[ahh]
 simp(disch:=omega)only[aG,aa,simprocAttr]
 have gr:(bif decide (H.length<H.length) then H.length else H.length)=H.length:=by simp
 have uI:bS two<=2/\1<=bS two:=by cases two<;>decide
 refine bd many 0 (fun i s=>∃ T m ds l0 l1,s=⟨T,pH H l m (aH two l0 l1) (ds.map aE),H.length,1⟩/\DS two ds/\ds.length=i/\l0.length<=i/\l1.length<=i/\m.next=((bS two:Nat):Int)+(i:Nat) /\
   T 2=.lbox 0 [.ae,.ae]/\T 3=.ref H.length 0/\T 4=.int .i64 many/\T 5=.slice (ints dA) true/\T 6=.slice (strs iM) true/\T 7=.int .i64 i)
  (OA H l two many) (fun _=>False) ?_ ?_ (fun _ h=>h.elim) 0 _ (by omega) ?_
 ·rintro i s hi ⟨T,m,ds,l0,l1,rfl,w9,lQ,Qf,hl1,M7,e2,e3,e4,e5,e6,e7⟩
  by_cases jr:i<many
  ·
   have step:∀ (T2:ax) (m2:Mk) (y:Nat),(y=0\/(two=true/\y=1))->m2.next=m.next->(T2 2=T 2/\T2 3=T 3/\T2 4=T 4/\T2 5=T 5/\T2 6=T 6/\T2 7=T 7/\T2 8=.int .i64 y)->∀ Q:bq->AS->Prop,
     (∀ s',(∃ T m ds l0 l1,s'=⟨T,pH H l m (aH two l0 l1) (ds.map aE),H.length,1⟩/\DS two ds/\ds.length=i+1/\l0.length<=i+1/\l1.length<=i+1/\m.next=((bS two:Nat):Int)+(i+1:Nat) /\
      T 2=.lbox 0 [.ae,.ae]/\T 3=.ref H.length 0/\T 4=.int .i64 many/\T 5=.slice (ints dA) true/\T 6=.slice (strs iM) true/\T 7=.int .i64 i)->Q .normal s') ->
     W A A8 ⟨T2,pH H l m2 (aH two l0 l1) (ds.map aE),H.length,1⟩ (andThen (fun s'=>W A B8 s' Q) Q):=by
    intro T2 m2 y hy VC hT2 Q hQ
    obtain⟨f2,f3,f4,f5,f6,f7,f8⟩:=hT2
    refine aiS hl (i:=i) (y:=y) (mi:=lh y) fU (by omega) (by rw[cT];rcases hy with rfl|⟨rfl,rfl⟩;omega;decide) (by rw[cT];omega) (by omega) (by rw[VC,M7];omega) (JZ hy) (f3.trans e3) (f5.trans e5) (f6.trans e6) (f7.trans e7) f8 ?_
    intro T3 hT3
    obtain⟨g2,g3,g4,g5,g6,g7,g8⟩:=hT3
    show W A B8 _ Q
    have hmi:lh (y:Int)=lh 0\/(two=true/\lh (y:Int)=lh 1):=by
     rcases hy with rfl|⟨rfl,rfl⟩
     ·exact .inl rfl
     ·exact .inr ⟨rfl,rfl⟩
    have zQ:=w9.snoc hmi
    rw[lQ] at zQ
    have hnx:m2.next=((bS two:Nat):Int)+(i:Nat):=by rw[VC,M7]
    rw[hnx]
    refine aiT hl two l0 l1 (i:=i) (y:=y) (d:=NH ((bS two:Nat)+(i:Nat)) (dA.getD i 0) (lh y) (iM.getD i [])) (by rw[apM (by omega),lQ,aqD];rfl) hy (by omega) (by omega) (by rw[g3,f3,e3]) (by rw[g7,f7,e7]) (by rw[g8,f8]) ?_
    intro T4 l0' l1' hT4 anv anw
    obtain⟨q2,q3,q4,q5,q6,q7,q8⟩:=hT4
    exact hQ _ ⟨T4,_,_,l0',l1',rfl,zQ,by simp[lQ],by omega,by omega,by simp only[Int.natCast_add];omega,by rw[q2,g2,f2,e2],by rw[q3,g3,f3,e3],by rw[q4,g4,f4,e4],by rw[q5,g5,f5,e5],by rw[q6,g6,f6,e6],by rw[q7,g7,f7,e7]⟩
   have hg:∀ m,(pH H l m (aH two l0 l1) (ds.map aE))[H.length]?=some (.cj (fG (pC H l (aH two l0 l1) (ds.map aE)) m)):=fun m=>mu
   by_cases h1:i<=1
   ·simp(disch:=omega)only[aG,aa,simprocAttr,e3,e4,e7]
    refine step _ m 0 (.inl rfl) rfl (by simp(disch:=omega)only[aG,aa,simprocAttr,apK]) _ ?_
    rintro s' ⟨T,m,ds,l0,l1,rfl,a1,a2,a3,a4,a5,b2,b3,b4,b5,b6,b7⟩
    simp(disch:=omega)only[aG,aa,simprocAttr,b7]
    exact⟨jr,_,m,ds,l0,l1,rfl,a1,a2,a3,a4,a5,by simp(disch:=omega)only[aG,aa,simprocAttr,b2,b3,b4,b5,b6]⟩
   ·obtain⟨y,p,K',Qx,fN⟩:=zf (M:=aH two l0 l1) (D:=ds.map aE) (H:=H) hl m (bS two) (by omega)
    obtain⟨z,rfl⟩:∃ z:Nat,y=z:=⟨y.toNat,by omega⟩
    have hz:z=0\/(two=true/\z=1):=by
     cases two with
     | false=>have:bS false=1:=rfl;omega
     | true =>
      have:bS true=2:=rfl
      by_cases hz:z=0
      ·exact .inl hz
      ·exact .inr ⟨rfl,by omega⟩
    have Om:(pH H l m (aH two l0 l1) (ds.map aE))[H.length]?=some (.cj [.sref (H.length+bS two) 0 (bS two) 6,aA (H.length+bS two) 31 (ds.map aE),.slice (ints l) false,.int .i64 m.pos,.int .i64 m.next,.int .i64 m.left,.int .i64 m.own]):=by
     have:=mu (H:=H) (l:=l) (m:=m) (M:=aH two l0 l1) (D:=ds.map aE)
     rw[fG,pC,cT] at this
     exact this
    simp(disch:=omega)only[aG,aa,simprocAttr,e3,e4,e7,Om,aY,fN,gr]
    refine step _ { m with pos:=p } z hz rfl (by simp(disch:=omega)only[aG,aa,simprocAttr]) _ ?_
    rintro s' ⟨T,m,ds,l0,l1,rfl,a1,a2,a3,a4,a5,b2,b3,b4,b5,b6,b7⟩
    simp(disch:=omega)only[aG,aa,simprocAttr,b7]
    exact⟨jr,_,m,ds,l0,l1,rfl,a1,a2,a3,a4,a5,by simp(disch:=omega)only[aG,aa,simprocAttr,b2,b3,b4,b5,b6]⟩
  ·have:i=many:=by omega
   subst this
   simp(disch:=omega)only[aG,aa,simprocAttr,e4,e7]
   exact⟨_,m,ds,l0,l1,rfl,w9,lQ,Qf,hl1,by simp(disch:=omega)only[aG,aa,simprocAttr,e2,e3,e4,e5]⟩
 ·rintro s ⟨T,m,ds,l0,l1,rfl,w9,lQ,Qf,hl1,e2,e3,e4,e5⟩
  simp(disch:=omega)only[aG,aa,simprocAttr]
  exact⟨_,m,ds,l0,l1,rfl,w9,lQ,Qf,hl1,e2,e3,e4,e5⟩
 ·exact⟨_,m,[],[],[],rfl,fun j d hj=>by simp at hj,rfl,by simp,by simp,by rw[M7];simp,by simp(disch:=omega)only[aG,aa,simprocAttr,e2,e3,e4,e5,e6,apK]⟩
section
def C9:bO:=cu (cu (cu (du (iA (cu (du (du (cu (cu (du (iA (cu (du (du (cu (p9))))))))))))))))
theorem BN{s:Slot} : (ff s).take 11=ff s:=aqn (aqJ mw)
theorem zA{s:Slot} : (ff s).all AV.plain=true:=uY sL
theorem LD{s:Slot} : NG (ff s)=true:=Tp sL
theorem take_modify{cs:List AV}{n:Nat}{f:AV->AV} : (cs.modify n f).take n=cs.take n:=by
 refine aqS fun j=>?_
 rw[apR,apR]
 split
 ·rename_i h
  rw[List.getElem?_modify]
  have h2:¬ n=j:=by omega
  simp[h2]
 ·rfl
theorem wq{cs:List AV}{n:Nat}{f:AV->AV} : (cs.modify n f).drop (n+1)=cs.drop (n+1):=by
 refine aqS fun j=>?_
 rw[ap',ap',List.getElem?_modify]
 have h2:¬ n=n+1+j:=by omega
 simp[h2]
theorem tT{l:List Slot}(h:l≠[]):wW l=.slice (bw l) true:=by
 cases l with
 | nil=>exact absurd rfl h
 | cons a l=>rfl
theorem Pk{d:Def} : (aE d)[8]?=some (wW d.aZ):=by simp[aE,an]
theorem Mx{d:Def}{s:List Slot} : putAt (aE d) 8 [wW s]=aE { d with aZ:=s }:=by simp[putAt,aE,an]
theorem map_set{ds:List Def}{i:Nat}{d:Def} : (ds.set i d).map aE=(ds.map aE).set i (aE d):=by rw[List.map_set]
section
variable {l:List Int}{H:ag}{m:Mk}{M:List (List AV)}{ds:List Def}{i:Nat}{d:Def}
theorem UR(hd:ds[i]?=some d)(s:List Slot):putAt (ds.map aE).flatten (i*31+8) [wW s]=((ds.set i { d with aZ:=s }).map aE).flatten:=by
 rw[nO ga (by rw[apG,hd];rfl) (by simp),Mx,map_set]
theorem UT(hd:ds[i]?=some d):ah true false 1 (i*31+8) (ds.map aE).flatten=some (wW d.aZ):=by
 simp only[ah,apE,cond_true]
 rw[A2 (r:=aE d) ga (by rw[apG,hd];rfl) (by omega),Pk];rfl
theorem CB:(ds.map aE).flatten.length=ds.length*31:=by rw[dx ga,apQ]
theorem afd{T:ax}{g g2:Nat}{s:Slot}{Q:bq->AS->Prop}(hM:M≠[])(hd:ds[i]?=some d)(pP:d.aZ.length<=100)
  (e3:T 3=.ref H.length 0) (e9:T 9=.int .i64 i) (iO:T 12=.lbox g2 (ff s))
  (hQ:∀ T' : ax,(T' 2=T 2/\T' 3=T 3/\T' 4=T 4/\T' 5=T 5/\T' 9=T 9/\T' 10=T 10/\T' 11=T 11)->Q .normal ⟨T',pH H l m M ((ds.set i { d with aZ:=d.aZ++[s] }).map aE),H.length,g⟩) :
  W A C9 ⟨T,pH H l m M (ds.map aE),H.length,g⟩ Q:=by
 have aU:i<ds.length:=(apw.1 hd).1
 have bC:ds.map aE≠[]:=by intro h;rw[List.map_eq_nil_iff] at h;rw[h] at aU;simp at aU
 have gr:(bif decide (H.length<H.length) then H.length else H.length)=H.length:=by simp
 have Bh:(bif decide (H.length+M.length+ds.length<H.length) then H.length+M.length+ds.length else H.length)=H.length:=by rw[aqy (by omega)];rfl
 have hD:aA (H.length+M.length) 31 (ds.map aE)=.sref (H.length+M.length+ds.length) 0 ds.length 31:=by rw[jl bC,apQ]
 have hg:(pH H l m M (ds.map aE))[H.length]?=some (.cj [.sref (H.length+M.length) 0 M.length 6,.sref (H.length+M.length+ds.length) 0 ds.length 31,.slice (ints l) false,.int .i64 m.pos,.int .i64 m.next,.int .i64 m.left,.int .i64 m.own]):=by
  rw[<- hD];exact mu
 have jH:(pH H l m M (ds.map aE))[H.length+M.length+ds.length]?=some (.box aL (ds.map aE).flatten):=by
  have:=td (H:=H) (l:=l) (m:=m) (M:=M) bC
  rw[apQ] at this
  exact this
 have h1:H.length+M.length+ds.length≠H.length:=by omega
 have hlen:H.length+M.length+ds.length<(pH H l m M (ds.map aE)).length:=by rw[mL,apQ];omega
 have HT:∀ o,((pH H l m M (ds.map aE)).set (H.length+M.length+ds.length) o)[H.length]?=some (.cj [.sref (H.length+M.length) 0 M.length 6,.sref (H.length+M.length+ds.length) 0 ds.length 31,.slice (ints l) false,.int .i64 m.pos,.int .i64 m.next,.int .i64 m.left,.int .i64 m.own]):=fun o=>by rw[ap1 h1];exact hg
 have KX:∀ o,((pH H l m M (ds.map aE)).set (H.length+M.length+ds.length) o)[H.length+M.length+ds.length]?=some o:=fun o=>ap5 hlen
 have dI:(pH H l m M (ds.map aE)).set (H.length+M.length+ds.length) (.box aL ((ds.set i { d with aZ:=d.aZ++[s] }).map aE).flatten)=pH H l m M ((ds.set i { d with aZ:=d.aZ++[s] }).map aE):=by
  have:=Dp (H:=H) (l:=l) (m:=m) (M:=M) (D:=ds.map aE) (D':=(ds.set i { d with aZ:=d.aZ++[s] }).map aE) bC (by simp)
  rw[apQ] at this
  exact this
 have lQ:decide (i<ds.length)=true:=by simpa using aU
 have C6:=UT hd
 have pr:=UR hd (d.aZ++[s])
 rw[tT (by simp)] at pr
 simp only[putAt,ap3] at pr
 have pq:=CB (ds:=ds)
 have HZ:∀ f,((ds.map aE).flatten.modify (i*31+8) f).length=ds.length*31:=fun f=>by rw[List.length_modify,pq]
 have KY:decide (i*31+8+1<=ds.length*31)=true:=by simp;omega
 have Vt:decide (i*31+8<ds.length*31)=true:=by simp;omega
 rcases hs:d.aZ with _|⟨a,t⟩
 ·have jq:bt false 11 112 (.slice [] true) (.slice [ff s] true)=some (.slice (bw ([]++[s])) true):=nE (e:=[]) dT.nil (dT.one mw sL) (by omega) (by simp)
  rw[hs] at C6 pr dI hQ
  have abK:ah true false 1 (i*31+8) (ds.map aE).flatten=some .ae:=C6
  simp only[aqa] at pr dI hQ jq
  simp(disch:=omega)only[aG,aa,simprocAttr,bW,bZ,bF,ca,cM,bB,dQ,aw,av,aW,cQ,bU,C9,p9,wU,mT,oF,oE,oD,oC,oB,oA,iA,cu,du,iL,abK,mw,vY,BN,zA,LD,gr,Bh,hg,jH,HT,KX,List.set_set,take_modify,wq,pr,dI,jq,lQ,pq,HZ,KY,Vt,e3,e9,iO,aY,lK,jX]
  exact hQ _ (by simp(disch:=omega)only[aG,aa,simprocAttr])
 ·have jq:bt false 11 112 (.slice (bw (a :: t)) true) (.slice [ff s] true)=some (.slice (bw (a :: t++[s])) true):=by
   rw[nE u9 (dT.one mw sL) (by omega) (by rw[fA];rw[hs] at pP;simp at *;omega),Kq]
  rw[hs] at C6 pr dI hQ
  have abK:ah true false 1 (i*31+8) (ds.map aE).flatten=some (.slice (bw (a :: t)) true):=C6
  simp only[ap2] at pr dI hQ jq
  simp(disch:=omega)only[aG,aa,simprocAttr,bW,bZ,bF,ca,cM,bB,dQ,aw,av,aW,cQ,bU,C9,p9,wU,mT,oF,oE,oD,oC,oB,oA,iA,cu,du,iL,abK,mw,vY,BN,zA,LD,gr,Bh,hg,jH,HT,KX,List.set_set,take_modify,wq,pr,dI,jq,lQ,pq,HZ,KY,Vt,e3,e9,iO,aY,lK,jX]
  exact hQ _ (by simp(disch:=omega)only[aG,aa,simprocAttr])
end
end
section
def D9:bO:=cu (cu (du (iA (cu (du (du (cu (cu (du (iA (cu (du (du (cu (p9)))))))))))))))
theorem afe:D9=(.seq (.seq (.region false [{ dst:=some 164,guard:=none,op:=.mov false false (.tmp 5) },{ dst:=some 165,guard:=none,op:=.mov false false (.tmp 9) },{ dst:=some 166,guard:=none,op:=.ixSl 1 (.tmp 164) (.tmp 165) },{ dst:=some 167,guard:=none,op:=.load false false 1 (.tmp 166) },{ dst:=some 168,guard:=none,op:=.bin (.eql) (.other) (.tmp 167) (.cr (.int (.i64) 4)) }]) (.cond (.tmp 168) (.region false [{ dst:=some 169,guard:=none,op:=.mov false false (.tmp 3) },{ dst:=some 170,guard:=none,op:=.call (.fn 17) [.tmp 169,.cr (.int (.i64) 5)] },{ dst:=some 171,guard:=none,op:=.fieldAddr 9 (.tmp 12) },{ dst:=none,guard:=none,op:=.store 1 (.tmp 171) (.tmp 170) }]) (.skip))) C9):=rfl
theorem adh:p9=(.seq (.region false [{ dst:=some 9,guard:=none,op:=.mov true false (.cr (.int (.i64) 0)) }]) (.block 2 (.loop (.seq (.seq (.region false [{ dst:=some 132,guard:=none,op:=.mov false false (.tmp 9) },{ dst:=some 133,guard:=none,op:=.mov false false (.tmp 4) },{ dst:=some 134,guard:=none,op:=.bin (.lss) (.other) (.tmp 132) (.tmp 133) }]) (.cond (.tmp 134) (.skip) (.exit 2))) (.seq (.block 3 (.seq (.region false [{ dst:=some 137,guard:=none,op:=.mov false false (.tmp 3) },{ dst:=some 138,guard:=none,op:=.call (.fn 17) [.tmp 137,.cr (.int (.i64) 3)] },{ dst:=some 139,guard:=none,op:=.bin (.add) (.other) (.cr (.int (.i64) 1)) (.tmp 138) },{ dst:=some 10,guard:=none,op:=.mov true false (.tmp 139) }]) (.seq (.region false [{ dst:=some 11,guard:=none,op:=.mov true false (.cr (.int (.i64) 0)) }]) (.block 4 (.loop (.seq (.seq (.region false [{ dst:=some 140,guard:=none,op:=.mov false false (.tmp 11) },{ dst:=some 141,guard:=none,op:=.mov false false (.tmp 10) },{ dst:=some 142,guard:=none,op:=.bin (.lss) (.other) (.tmp 140) (.tmp 141) }]) (.cond (.tmp 142) (.skip) (.exit 4))) (.seq (.block 5 (.seq (.region false [{ dst:=some 145,guard:=none,op:=.mov false false (.tmp 3) },{ dst:=some 146,guard:=none,op:=.call (.fn 16) [.tmp 145] },{ dst:=some 147,guard:=none,op:=.mkslice false 1 [[.str []],[.str []],[.str []]] [(0,.cr (.str [97])),(1,.cr (.str [98])),(2,.cr (.str [100]))] },{ dst:=some 148,guard:=none,op:=.mov false false (.tmp 11) },{ dst:=none,guard:=none,op:=.j6 (.heap) (.tmp 147) },{ dst:=some 149,guard:=none,op:=.ixSl 1 (.tmp 147) (.tmp 148) },{ dst:=none,guard:=none,op:=.j6 (.Uw) (.tmp 149) },{ dst:=some 150,guard:=none,op:=.load false false 1 (.tmp 149) },{ dst:=some 151,guard:=none,op:=.mov false false (.tmp 11) },{ dst:=some 152,guard:=none,op:=.build [.int (.i64) 0,.int (.i64) 0,.int (.i64) 0,.str [],.int (.i64) 0,.int (.i64) 0,.int (.i64) 0,.int (.i64) 0,.ae,.int (.i64) 0,.int (.i64) 0] [(0,3,.tmp 146),(3,1,.tmp 150),(10,1,.tmp 151)] },{ dst:=some 12,guard:=none,op:=.allocL [.int (.i64) 0,.int (.i64) 0,.int (.i64) 0,.str [],.int (.i64) 0,.int (.i64) 0,.int (.i64) 0,.int (.i64) 0,.ae,.int (.i64) 0,.int (.i64) 0] },{ dst:=none,guard:=none,op:=.j6 (.frame 12) (.tmp 12) },{ dst:=none,guard:=none,op:=.store 11 (.tmp 12) (.tmp 152) }]) (.seq (.seq (.region false [{ dst:=some 153,guard:=none,op:=.mov false false (.tmp 9) },{ dst:=some 154,guard:=none,op:=.bin (.gtr) (.other) (.tmp 153) (.cr (.int (.i64) 1)) }]) (.cond (.tmp 154) (.region false [{ dst:=some 155,guard:=none,op:=.mov false false (.tmp 3) },{ dst:=some 156,guard:=none,op:=.call (.fn 18) [.tmp 155] },{ dst:=some 157,guard:=none,op:=.fieldAddr 4 (.tmp 12) },{ dst:=none,guard:=none,op:=.store 5 (.tmp 157) (.tmp 156) }]) (.seq (.region false [{ dst:=some 158,guard:=none,op:=.mov false false (.tmp 3) },{ dst:=some 159,guard:=none,op:=.call (.fn 17) [.tmp 158,.cr (.int (.i64) 2)] },{ dst:=some 160,guard:=none,op:=.bin (.eql) (.other) (.tmp 159) (.cr (.int (.i64) 1)) }]) (.cond (.tmp 160) (.region false [{ dst:=some 161,guard:=none,op:=.build [.int (.i64) 0,.int (.i64) 0,.int (.i64) 0,.int (.i64) 0,.slice [] true] [(0,1,.cr (.int (.i64) 1))] },{ dst:=some 162,guard:=none,op:=.call (.fn 19) [.tmp 161] },{ dst:=some 163,guard:=none,op:=.fieldAddr 4 (.tmp 12) },{ dst:=none,guard:=none,op:=.store 5 (.tmp 163) (.tmp 162) }]) (.skip))))) D9))) (.region false [{ dst:=some 143,guard:=none,op:=.mov false false (.tmp 11) },{ dst:=some 144,guard:=none,op:=.bin (.add) (.other) (.tmp 143) (.cr (.int (.i64) 1)) },{ dst:=some 11,guard:=none,op:=.mov true false (.tmp 144) }])))))))) (.region false [{ dst:=some 135,guard:=none,op:=.mov false false (.tmp 9) },{ dst:=some 136,guard:=none,op:=.bin (.add) (.other) (.tmp 135) (.cr (.int (.i64) 1)) },{ dst:=some 9,guard:=none,op:=.mov true false (.tmp 136) }])))))):=rfl
section
variable {l:List Int}{H:ag}{M:List (List AV)}{ds:List Def}{i:Nat}{d:Def}
theorem aiU(hl:∀ n∈l,pS n){T:ax}{m:Mk}{g g2:Nat}{si:Id}{nm:fa}{t0 t1 t2 t3 t4:AV}{k:Int}{Q:bq->AS->Prop}(hM:M≠[])(hd:ds[i]?=some d)(hi:i<8)(pP:d.aZ.length<=100)(ht:[t0,t1,t2,t3,t4].all dp=true)
  (e3:T 3=.ref H.length 0) (e5:T 5=.slice (ints dA) true) (e9:T 9=.int .i64 i) (iO:T 12=.lbox g2 [.int .i64 si.bK,.int .i64 si.seq,.int .i64 si.index,.str nm,t0,t1,t2,t3,t4,.int .i64 0,.int .i64 k])
  (hQ:∀ (T' : ax) (m' : Mk) (s:Slot),(T' 2=T 2/\T' 3=T 3/\T' 4=T 4/\T' 5=T 5/\T' 9=T 9/\T' 10=T 10/\T' 11=T 11)->Q .normal ⟨T',pH H l m' M ((ds.set i { d with aZ:=d.aZ++[s] }).map aE),H.length,g⟩) :
  W A D9 ⟨T,pH H l m M (ds.map aE),H.length,g⟩ Q:=by
 rw[afe]
 have gr:(bif decide (H.length<H.length) then H.length else H.length)=H.length:=by simp
 have hkL:dA.length=8:=rfl
 have oR:(ints dA).length=8:=rfl
 have hk:=ints_at (l:=dA) (i:=i) (n:=dA.getD i 0) (by rw[apX,apy (by omega)];rfl)
 obtain⟨x,p,rH,hx5,fN⟩:=zf (M:=M) (D:=ds.map aE) (H:=H) hl m 5 (by omega)
 cases h4:(dA.getD i 0==4) with
 | false =>
  simp(disch:=omega)only[aG,aa,simprocAttr,e3,e5,e9,hk,oR,h4]
  refine afd (g2:=g2) (s:=⟨si,nm,⟨[t0,t1,t2,t3,t4],rfl,ht⟩,0,k⟩) hM hd pP ?_ ?_ ?_ ?_
  ·simp(disch:=omega)only[aG,aa,simprocAttr,e3]
  ·simp(disch:=omega)only[aG,aa,simprocAttr,e9]
  ·simp(disch:=omega)only[aG,aa,simprocAttr,iO,ff,an,ap2,aqa]
  ·intro T' Vp
   obtain⟨a2,a3,a4,a5,a9,OG,a11⟩:=Vp
   exact hQ _ m _ ⟨a2,a3,a4,a5,a9,OG,a11⟩
 | true =>
  simp(disch:=omega)only[aG,aa,simprocAttr,e3,e5,e9,iO,hk,oR,h4,fN,gr]
  refine afd (g2:=g2) (s:=⟨si,nm,⟨[t0,t1,t2,t3,t4],rfl,ht⟩,x,k⟩) hM hd pP ?_ ?_ ?_ ?_
  ·simp(disch:=omega)only[aG,aa,simprocAttr,e3]
  ·simp(disch:=omega)only[aG,aa,simprocAttr,e9]
  ·simp(disch:=omega)only[aG,aa,simprocAttr,iO,ff,an,ap2,aqa]
  ·intro T' Vp
   obtain⟨a2,a3,a4,a5,a9,OG,a11⟩:=Vp
   exact hQ _ _ _ ⟨a2,a3,a4,a5,a9,OG,a11⟩
end
end
theorem UP{d:Def} : ah false true 3 0 (aE d)=some (.agg (an d.id)):=by
 have:((aE d).drop 0).take 3=an d.id:=by simp[aE,an]
 simp only[ah,x5,this,cond_true];rfl
def BD(d:Def):Prop:=d.body.l=aaa.l\/∃ e,EN e/\d.body.l=bk e
def GD(two:Bool)(ds:List Def):Prop:=∀ (j:Nat) (d:Def),ds[j]?=some d->d.id=lh ((bS two:Nat)+(j:Nat))/\(d.mod=lh 0\/(two=true/\d.mod=lh 1))/\d.name=iM.getD j []/\BD d
theorem DS.gd{two:Bool}{ds:List Def}(h:DS two ds):GD two ds:=fun j d hj=>by
 obtain⟨mi,rfl,hm⟩:=h j d hj
 exact⟨rfl,hm,rfl,.inl rfl⟩
theorem DS.sl{two:Bool}{ds:List Def}(h:DS two ds):∀ (j:Nat) (d:Def),ds[j]?=some d->d.aZ=[]:=fun j d hj=>by
 obtain⟨mi,rfl,hm⟩:=h j d hj
 rfl
theorem GD.set{two:Bool}{ds:List Def}{i:Nat}{d e:Def}(h:GD two ds)(hd:ds[i]?=some d)(h1:e.id=d.id)(h2:e.mod=d.mod)(h3:e.name=d.name)(h4:BD d->BD e):GD two (ds.set i e):=by
 intro j q hj
 rw[ap6] at hj
 split at hj
 ·rename_i jn
  subst jn
  split at hj
  ·cases hj
   obtain⟨a1,a2,a3,a4⟩:=h _ d hd
   rw[h1,h2,h3];exact⟨a1,a2,a3,h4 a4⟩
  ·cases hj
 ·exact h j q hj
def D4(H:ag)(l:List Int)(two:Bool)(l0 l1:List Id)(many:Nat)(s:AS):Prop:=∃ T m ds g,s=⟨T,pH H l m (aH two l0 l1) (ds.map aE),H.length,g⟩/\GD two ds/\ds.length=many/\(∀ (j:Nat) (d:Def),ds[j]?=some d->1<=d.aZ.length/\d.aZ.length<=3) /\
 T 2=.lbox 0 [.ae,.ae]/\T 3=.ref H.length 0/\T 4=.int .i64 many/\T 5=.slice (ints dA) true
def In2(H:ag)(l:List Int)(two:Bool)(l0 l1:List Id)(many i k:Nat)(T:ax)(s:AS):Prop:=∃ m ds g,s=⟨T,pH H l m (aH two l0 l1) (ds.map aE),H.length,g⟩/\GD two ds/\ds.length=many /\
 (∀ (j:Nat) (d:Def),ds[j]?=some d->(j<i->1<=d.aZ.length/\d.aZ.length<=3)/\(j=i->d.aZ.length=k)/\(i<j->d.aZ=[])) /\
 T 2=.lbox 0 [.ae,.ae]/\T 3=.ref H.length 0/\T 4=.int .i64 many/\T 5=.slice (ints dA) true/\T 9=.int .i64 i
theorem Xw(l:List Int)(H:ag)(hl:∀ n∈l,pS n)(s:AS)(two:Bool)(many:Nat)(hm:many<=8)(hm4:4<=many)(h:OA H l two many s) :
  W A p9 s (Lt fun s=>∃ l0 l1:List Id,l0.length<=many/\l1.length<=many/\D4 H l two l0 l1 many s):=by
 obtain⟨T,m,ds,l0,l1,rfl,w9,lQ,Qf,hl1,e2,e3,e4,e5⟩:=h
 rw[adh]
 simp(disch:=omega)only[aG,aa,simprocAttr]
 have gr:(bif decide (H.length<H.length) then H.length else H.length)=H.length:=by simp
 refine bd many 2 (fun i s=>∃ T,In2 H l two l0 l1 many i 0 T s)
  (D4 H l two l0 l1 many) (fun _=>False) ?_ ?_ (fun _ h=>h.elim) 0 _ (by omega) ?_
 ·rintro i s hi ⟨T,m,ds,g,rfl,jH,lQ,hs,e2,e3,e4,e5,e9⟩
  by_cases jr:i<many
  ·obtain⟨x,p,rH,hx3,fN⟩:=zf (M:=aH two l0 l1) (D:=ds.map aE) (H:=H) hl m 3 (by omega)
   obtain⟨z,rfl⟩:∃ z:Nat,x=z:=⟨x.toNat,by omega⟩
   simp(disch:=omega)only[aG,aa,simprocAttr,e3,e4,e9,fN,gr]
   refine bd (1+z) 4 (fun k s=>∃ T,In2 H l two l0 l1 many i k T s/\T 10=.int .i64 (1+z)/\T 11=.int .i64 k)
    (fun s=>∃ T,In2 H l two l0 l1 many i (1+z) T s) (fun _=>False) ?_ ?_ (fun _ h=>h.elim) 0 _ (by omega) ?_
   ·rintro k s hk ⟨T,⟨m,ds,g,rfl,jH,lQ,hs,e2,e3,e4,e5,e9⟩,iE,mB⟩
    by_cases gm:k<1+z
    ·obtain⟨d,hd⟩:∃ d,ds[i]?=some d:=⟨_,apy (by omega)⟩
     have ajK:=(hs i d hd).2.1 rfl
     obtain⟨si,nx,_,hid⟩:=ag3 (M:=aH two l0 l1) (D:=ds.map aE) (H:=H) hl m
     rw[an] at hid
     have hk3:∃ nm:fa,([[.str [97]],[.str [98]],[.str [100]]]:List (List AV))[k]?=some [.str nm]:=by
      have:k=0\/k=1\/k=2:=by omega
      rcases this with rfl|rfl|rfl<;>exact⟨_,rfl⟩
     obtain⟨nm,uI⟩:=hk3
     have step:∀ (T2:ax) (m2:Mk) (g2 g3:Nat) (t0 t1 t2 t3 t4:AV),[t0,t1,t2,t3,t4].all dp=true->(T2 2=T 2/\T2 3=T 3/\T2 4=T 4/\T2 5=T 5/\T2 9=T 9/\T2 10=T 10/\T2 11=T 11) ->
       T2 12=.lbox g2 [.int .i64 si.bK,.int .i64 si.seq,.int .i64 si.index,.str nm,t0,t1,t2,t3,t4,.int .i64 0,.int .i64 k]->∀ Q:bq->AS->Prop,
       (∀ s',(∃ T,In2 H l two l0 l1 many i (k+1) T s'/\T 10=.int .i64 (1+z)/\T 11=.int .i64 k)->Q .normal s')->W A D9 ⟨T2,pH H l m2 (aH two l0 l1) (ds.map aE),H.length,g3⟩ Q:=by
      intro T2 m2 g2 g3 t0 t1 t2 t3 t4 ht hT2 h12 Q hQ
      obtain⟨f2,f3,f4,f5,f9,f10,f11⟩:=hT2
      refine aiU hl (g2:=g2) (si:=si) (nm:=nm) (t0:=t0) (t1:=t1) (t2:=t2) (t3:=t3) (t4:=t4) (k:=k) fU hd (by omega) (by omega) ht (by rw[f3,e3]) (by rw[f5,e5]) (by rw[f9,e9]) h12 ?_
      intro T3 m3 sl hT3
      obtain⟨q2,q3,q4,q5,q9,q10,q11⟩:=hT3
      refine hQ _ ⟨T3,⟨m3,_,g3,rfl,jH.set hd rfl rfl rfl (fun h=>h),by rw[aqE];exact lQ,?_,by rw[q2,f2,e2],by rw[q3,f3,e3],by rw[q4,f4,e4],by rw[q5,f5,e5],by rw[q9,f9,e9]⟩,by rw[q10,f10,iE],by rw[q11,f11,mB]⟩
      intro j q hj
      rw[ap6] at hj
      split at hj
      ·rename_i jn
       subst jn
       split at hj
       ·cases hj
        exact⟨fun h=>absurd h (by omega),fun _=>by simp[ajK],fun h=>absurd h (by omega)⟩
       ·cases hj
      ·rename_i jn
       have:=hs j q hj
       exact⟨this.1,fun h=>absurd h.symm jn,this.2.2⟩
     by_cases h1:1<i
     ·obtain⟨d0,P6⟩:∃ d,ds[0]?=some d:=⟨_,apy (by omega)⟩
      obtain⟨d1,hd1⟩:∃ d,ds[1]?=some d:=⟨_,apy (by omega)⟩
      have bC:ds.map aE≠[]:=by intro h;rw[List.map_eq_nil_iff] at h;rw[h] at lQ;simp at lQ;omega
      have n7:∀ (j:Nat) (d:Def),ds[j]?=some d->ah false true 3 (j*31) (ds.map aE).flatten=some (.agg (an d.id)):=fun j d hj =>
       by
       have h1:=gF (agg:=true) (i:=j) (j:=0) (sz:=3) (r:=aE d) (ga (ds:=ds)) (by rw[apG,hj];rfl) (by omega) (by omega) (by omega)
       rw[aqO] at h1
       rw[h1,UP]
      have hmh:=BC hl (m:={ m with next:=nx }) (M:=aH two l0 l1) (D:=ds.map aE) (H:=H)
      obtain⟨t,m2,ht,_,_,rE⟩:=SW (ld:=H.length+(aH two l0 l1).length+(ds.map aE).length) (n:=(ds.map aE).length) (D:=ds.map aE) hmh (jl bC) (by show H.length≠_;rw[apQ];omega) (td bC) (by rw[apQ];omega) d0.id d1.id (n7 0 d0 P6) (n7 1 d1 hd1)
      rw[qy] at rE
      have Jt:az A 18 [.ref H.length 0] (pH H l { m with next:=nx } (aH two l0 l1) (ds.map aE))=some (.agg t,some ⟨pH H l m2 (aH two l0 l1) (ds.map aE),H.length⟩):=rE
      obtain⟨Uu,H5,ht3⟩:=ht
      rcases t with _|⟨t0,_|⟨t1,_|⟨t2,_|⟨t3,_|⟨t4,_|⟨t5,tr⟩⟩⟩⟩⟩⟩
      all_goals try (simp at Uu;done)
      have dy:=H5
      simp only[List.all_cons,List.all_nil,Bool.and_true,Bool.and_eq_true] at dy
      obtain⟨k0,k1,k2,k3,k4⟩:=dy
      have d0':=bQ k0
      have d1':=bQ k1
      have d2':=bQ k2
      have d3':=bQ k3
      have d4':=bQ k4
      have f0:=bY k0
      have f1:=bY k1
      have f2:=bY k2
      have f3:=bY k3
      have f4:=bY k4
      simp(disch:=omega)only[aG,aa,simprocAttr,e3,e9,iE,mB,hid,gr,uI,Jt,d0',d1',d2',d3',d4',f0,f1,f2,f3,f4,gt_iff_lt]
      refine step _ m2 g (g+1) t0 t1 t2 t3 t4 H5 (by simp(disch:=omega)only[aG,aa,simprocAttr,e3,e9,iE,mB]) (by simp(disch:=omega)only[aG,aa,simprocAttr]) _ ?_
      rintro s' ⟨T,⟨m,ds,g,rfl,a1,a2,a3,b2,b3,b4,b5,b9⟩,b10,b11⟩
      simp(disch:=omega)only[aG,aa,simprocAttr,b11]
      exact⟨gm,_,⟨m,ds,g,rfl,a1,a2,a3,by simp(disch:=omega)only[aG,aa,simprocAttr,b2,b3,b4,b5,b9]⟩,by simp(disch:=omega)only[aG,aa,simprocAttr,b10]⟩
     ·obtain⟨y,p2,K',hy2,dz⟩:=zf (M:=aH two l0 l1) (D:=ds.map aE) (H:=H) hl { m with next:=nx } 2 (by omega)
      have hli:=fun H=>JT 1 ⟨0,0,0⟩ [] H rfl
      simp only[wZ] at hli
      have hy:y=0\/y=1:=by omega
      rcases hy with rfl|rfl
      ·simp(disch:=omega)only[aG,aa,simprocAttr,e3,e9,iE,mB,hid,gr,uI,dz,gt_iff_lt]
       refine step _ _ g (g+1) (.int .i64 0) (.int .i64 0) (.int .i64 0) (.int .i64 0) .ae rfl (by simp(disch:=omega)only[aG,aa,simprocAttr,e3,e9,iE,mB]) (by simp(disch:=omega)only[aG,aa,simprocAttr]) _ ?_
       rintro s' ⟨T,⟨m,ds,g,rfl,a1,a2,a3,b2,b3,b4,b5,b9⟩,b10,b11⟩
       simp(disch:=omega)only[aG,aa,simprocAttr,b11]
       exact⟨gm,_,⟨m,ds,g,rfl,a1,a2,a3,by simp(disch:=omega)only[aG,aa,simprocAttr,b2,b3,b4,b5,b9]⟩,by simp(disch:=omega)only[aG,aa,simprocAttr,b10]⟩
      ·simp(disch:=omega)only[aG,aa,simprocAttr,e3,e9,iE,mB,hid,gr,uI,dz,hli,gt_iff_lt]
       refine step _ _ g (g+1) (.int .i64 2) (.int .i64 0) (.int .i64 0) (.int .i64 0) (.slice [[.int .i64 1,.int .i64 0,.int .i64 0,.int .i64 0,.slice [] false]] false) rfl (by simp(disch:=omega)only[aG,aa,simprocAttr,e3,e9,iE,mB]) (by simp(disch:=omega)only[aG,aa,simprocAttr]) _ ?_
       rintro s' ⟨T,⟨m,ds,g,rfl,a1,a2,a3,b2,b3,b4,b5,b9⟩,b10,b11⟩
       simp(disch:=omega)only[aG,aa,simprocAttr,b11]
       exact⟨gm,_,⟨m,ds,g,rfl,a1,a2,a3,by simp(disch:=omega)only[aG,aa,simprocAttr,b2,b3,b4,b5,b9]⟩,by simp(disch:=omega)only[aG,aa,simprocAttr,b10]⟩
    ·have:k=1+z:=by omega
     subst this
     simp(disch:=omega)only[aG,aa,simprocAttr,iE,mB]
     exact⟨_,m,ds,g,rfl,jH,lQ,hs,by simp(disch:=omega)only[aG,aa,simprocAttr,e2,e3,e4,e5,e9]⟩
   ·rintro s ⟨T,m,ds,g,rfl,jH,lQ,hs,e2,e3,e4,e5,e9⟩
    simp(disch:=omega)only[aG,aa,simprocAttr,e9]
    refine⟨jr,_,m,ds,g,rfl,jH,lQ,?_,by simp(disch:=omega)only[aG,aa,simprocAttr,e2,e3,e4,e5]⟩
    intro j d hj
    obtain⟨a1,a2,a3⟩:=hs j d hj
    refine⟨fun h=>?_,fun h=>?_,fun h=>a3 (by omega)⟩
    ·by_cases iz:j<i
     ·exact a1 iz
     ·have:=a2 (by omega);omega
    ·rw[a3 (by omega)];rfl
   ·exact⟨_,⟨_,ds,g,rfl,jH,lQ,hs,by simp(disch:=omega)only[aG,aa,simprocAttr,e2,e3,e4,e5,e9]⟩,by simp(disch:=omega)only[aG,aa,simprocAttr,apK]⟩
  ·have:i=many:=by omega
   subst this
   simp(disch:=omega)only[aG,aa,simprocAttr,e4,e9]
   refine⟨_,m,ds,g,rfl,jH,lQ,fun j d hj=>?_,by simp(disch:=omega)only[aG,aa,simprocAttr,e2,e3,e4,e5]⟩
   exact (hs j d hj).1 (by have:=(apw.1 hj).1;omega)
 ·rintro s ⟨T,m,ds,g,rfl,jH,lQ,hs,e2,e3,e4,e5⟩
  simp(disch:=omega)only[aG,aa,simprocAttr]
  exact⟨l0,l1,Qf,hl1,_,m,ds,g,rfl,jH,lQ,hs,e2,e3,e4,e5⟩
 ·exact⟨_,m,ds,1,rfl,w9.gd,lQ,fun j d hj=>⟨fun h=>absurd h (by omega),fun _=>by rw[w9.sl j d hj];rfl,fun _=>w9.sl j d hj⟩,by simp(disch:=omega)only[aG,aa,simprocAttr,e2,e3,e4,e5,apK]⟩
section
def E10:bO:=iA (cu (cu (cu (cu (cu (du (iA (cu (du (du (cu (p10))))))))))))
def F10:bO:=cu (cu (cu (cu (cu (cu (du (iA (cu (du (du (cu (p10))))))))))))
theorem adg:p10=(.seq (.region false [{ dst:=some 13,guard:=none,op:=.mov true false (.cr (.int (.i64) 0)) }]) (.block 6 (.loop (.seq (.seq (.region false [{ dst:=some 192,guard:=none,op:=.mov false false (.tmp 13) },{ dst:=some 193,guard:=none,op:=.mov false false (.tmp 4) },{ dst:=some 194,guard:=none,op:=.bin (.lss) (.other) (.tmp 192) (.tmp 193) }]) (.cond (.tmp 194) (.skip) (.exit 6))) (.seq (.block 7 (.seq (.seq (.region false [{ dst:=some 197,guard:=none,op:=.mov false false (.tmp 5) },{ dst:=some 198,guard:=none,op:=.mov false false (.tmp 13) },{ dst:=some 199,guard:=none,op:=.ixSl 1 (.tmp 197) (.tmp 198) },{ dst:=some 200,guard:=none,op:=.load false false 1 (.tmp 199) },{ dst:=some 201,guard:=none,op:=.call (.fn 20) [.tmp 200] },{ dst:=some 202,guard:=none,op:=.un (.not) (.tmp 201) }]) (.cond (.tmp 202) (.exit 7) (.skip))) (.seq (.region false [{ dst:=some 14,guard:=none,op:=.mov true false (.cr (.slice [] true)) }]) (.seq (.seq (.region false [{ dst:=some 15,guard:=none,op:=.mov true false (.cr (.int (.i64) 0)) }]) (.block 8 (.loop (.seq (.seq (.region false [{ dst:=some 203,guard:=none,op:=.mov false false (.tmp 15) },{ dst:=some 204,guard:=none,op:=.mov false false (.tmp 3) },{ dst:=some 205,guard:=none,op:=.nilCheck (.tmp 204) },{ dst:=some 206,guard:=none,op:=.fieldAddr 0 (.tmp 205) },{ dst:=some 207,guard:=none,op:=.fieldAddr 1 (.tmp 206) },{ dst:=some 208,guard:=none,op:=.load false false 1 (.tmp 207) },{ dst:=some 209,guard:=none,op:=.mov false false (.tmp 13) },{ dst:=some 210,guard:=none,op:=.ixSl 31 (.tmp 208) (.tmp 209) },{ dst:=some 211,guard:=none,op:=.fieldAddr 8 (.tmp 210) },{ dst:=some 212,guard:=none,op:=.load false false 1 (.tmp 211) },{ dst:=some 213,guard:=none,op:=.len (.sl) (.tmp 212) },{ dst:=some 214,guard:=none,op:=.bin (.lss) (.other) (.tmp 203) (.tmp 213) }]) (.cond (.tmp 214) (.skip) (.exit 8))) (.seq (.block 9 (.region false [{ dst:=some 217,guard:=none,op:=.mov false false (.tmp 14) },{ dst:=some 218,guard:=none,op:=.mov false false (.tmp 3) },{ dst:=some 219,guard:=none,op:=.nilCheck (.tmp 218) },{ dst:=some 220,guard:=none,op:=.fieldAddr 0 (.tmp 219) },{ dst:=some 221,guard:=none,op:=.fieldAddr 1 (.tmp 220) },{ dst:=some 222,guard:=none,op:=.load false false 1 (.tmp 221) },{ dst:=some 223,guard:=none,op:=.mov false false (.tmp 13) },{ dst:=some 224,guard:=none,op:=.ixSl 31 (.tmp 222) (.tmp 223) },{ dst:=some 225,guard:=none,op:=.fieldAddr 8 (.tmp 224) },{ dst:=some 226,guard:=none,op:=.load false false 1 (.tmp 225) },{ dst:=some 227,guard:=none,op:=.mov false false (.tmp 15) },{ dst:=some 228,guard:=none,op:=.ixSl 11 (.tmp 226) (.tmp 227) },{ dst:=some 229,guard:=none,op:=.fieldAddr 0 (.tmp 228) },{ dst:=some 230,guard:=none,op:=.load false true 3 (.tmp 229) },{ dst:=some 231,guard:=none,op:=.call (.fn 21) [.tmp 217,.cr (.str []),.tmp 230,.cr (.int (.i64) 0)] },{ dst:=some 14,guard:=none,op:=.mov true false (.tmp 231) }])) (.region false [{ dst:=some 215,guard:=none,op:=.mov false false (.tmp 15) },{ dst:=some 216,guard:=none,op:=.bin (.add) (.other) (.tmp 215) (.cr (.int (.i64) 1)) },{ dst:=some 15,guard:=none,op:=.mov true false (.tmp 216) }])))))) (.seq (.region false [{ dst:=some 232,guard:=none,op:=.mov false false (.tmp 3) },{ dst:=some 233,guard:=none,op:=.mov false false (.tmp 13) },{ dst:=some 234,guard:=none,op:=.nilCheck (.tmp 232) },{ dst:=some 235,guard:=none,op:=.fieldAddr 6 (.tmp 234) },{ dst:=none,guard:=none,op:=.store 1 (.tmp 235) (.tmp 233) }]) (.seq (.region false [{ dst:=some 236,guard:=none,op:=.mov false false (.tmp 3) },{ dst:=some 237,guard:=none,op:=.nilCheck (.tmp 236) },{ dst:=some 238,guard:=none,op:=.fieldAddr 5 (.tmp 237) },{ dst:=none,guard:=none,op:=.store 1 (.tmp 238) (.cr (.int (.i64) 22)) }]) (.seq E10 F10))))))) (.region false [{ dst:=some 195,guard:=none,op:=.mov false false (.tmp 13) },{ dst:=some 196,guard:=none,op:=.bin (.add) (.other) (.tmp 195) (.cr (.int (.i64) 1)) },{ dst:=some 13,guard:=none,op:=.mov true false (.tmp 196) }])))))):=rfl
theorem Ls{l:List AV}(h:l.all dp=true)(b:Nat):l.all (aV b)=true:=by
 rw[apA] at *
 intro x hx
 have hd:=bQ (h x hx)
 have hp:=bM (h x hx)
 cases x with
 | ref a b=>simp[AV.plain] at hp
 | sref a b c d=>simp[AV.plain] at hp
 | mref a=>simp[AV.plain] at hp
 | func f fs cs=>cases fs<;>cases cs<;>first|rfl|(simp[AV.plain] at hp)
 | _=>exact (ar0 AV.plain hd).trans hp
def dcC(l:List Id):Cells 1:=⟨[(pn l).drop],rfl,by cases l<;>rfl⟩
def gq(two:Bool)(l0 l1:List Id):List Mod:=⟨lh 0,ju,[],dcC l0⟩ :: (if two then [⟨lh 1,jY,[lh 0],dcC l1⟩] else [])
theorem na{two:Bool}{l0 l1:List Id} : (gq two l0 l1).length=bS two:=by cases two<;>rfl
theorem za{two:Bool}{l0 l1:List Id} : qM (aH two l0 l1)=bD (gq two l0 l1):=by
 cases two<;>cases l0<;>cases l1<;>rfl
theorem Mw{d:Def}(h:d.aZ≠[]):(aE d).map AV.drop=br d:=by
 unfold aE br
 rw[tT h]
 simp only[arK,apZ,aqe,jV d.res.ok,jV d.body.ok,jV d.tl.ok,an]
 rfl
theorem x6{ds:List Def}(h:∀ d∈ds,d.aZ≠[]):qM (ds.map aE)=bz ds:=by
 rw[qM,arB,bz]
 exact apY fun d hd=>Mw (h d hd)
theorem Lx{l:List Int}{H:ag}{m:Mk}{two:Bool}{l0 l1:List Id}{ds:List Def}(h:∀ d∈ds,d.aZ≠[])(bC:ds≠[]) :
  PH (pC H l (aH two l0 l1) (ds.map aE)) (H.length+bS two) (H.length+bS two+ds.length) (aH two l0 l1) (ds.map aE) (gq two l0 l1) ds (pH H l m (aH two l0 l1) (ds.map aE)):=by
 have tJ:ds.map aE≠[]:=by simpa using bC
 refine⟨?_,?_,?_,?_,za,x6 h,?_,?_⟩
 ·rw[na];show AV.sref (H.length+(aH two l0 l1).length) 0 (aH two l0 l1).length 6=_;rw[cT]
 ·show aA (H.length+(aH two l0 l1).length) 31 (ds.map aE)=_
  rw[jl tJ,apQ,cT]
 ·have:=te (H:=H) (l:=l) (m:=m) (M:=aH two l0 l1) (D:=ds.map aE) fU
  rwa [cT] at this
 ·have:=td (H:=H) (l:=l) (m:=m) (M:=aH two l0 l1) (D:=ds.map aE) tJ
  rwa [cT,apQ] at this
 ·show H.length≠_
  have:1<=bS two:=by cases two<;>decide
  omega
 ·show H.length≠_
  have:1<=bS two:=by cases two<;>decide
  omega
theorem My{d:Def}{r:Cells 5} : putAt (aE d) 9 r.l=aE { d with res:=r }:=by
 have h1:=d.res.len
 have h2:=r.len
 have e:aE d=(an d.id++[.int .i64 d.kind]++an d.mod++[.str d.name,wW d.aZ])++(d.res.l++(d.body.l++d.tl.l)):=by simp[aE]
 unfold putAt
 rw[e,h2,List.take_left' (by simp[an]),show (9:Nat)+5=9+5 by rfl,<- aq8,List.drop_left' (by simp[an]),List.drop_left' h1]
 simp[aE]
theorem IP{d:Def}{b:Cells 15} : putAt (aE d) 14 b.l=aE { d with body:=b }:=by
 have h1:=d.res.len
 have h2:=d.body.len
 have h3:=b.len
 have e:aE d=(an d.id++[.int .i64 d.kind]++an d.mod++[.str d.name,wW d.aZ]++d.res.l)++(d.body.l++d.tl.l):=by simp[aE]
 unfold putAt
 rw[e,h3,List.take_left' (by simp[an,h1]),<- aq8,List.drop_left' (by simp[an,h1]),List.drop_left' h2]
 simp[aE]
section
variable {l:List Int}{H:ag}{two:Bool}{l0 l1:List Id}{ds:List Def}{i:Nat}{d:Def}
theorem US(hd:ds[i]?=some d)(r:Cells 5):putAt (ds.map aE).flatten (i*31+9) r.l=((ds.set i { d with res:=r }).map aE).flatten:=by
 rw[nO ga (by rw[apG,hd];rfl) (by rw[r.len];omega),My,map_set]
theorem Pl(hd:ds[i]?=some d)(r:Cells 15):putAt (ds.map aE).flatten (i*31+14) r.l=((ds.set i { d with body:=r }).map aE).flatten:=by
 rw[nO ga (by rw[apG,hd];rfl) (by rw[r.len];omega),IP,map_set]
theorem afg(hl:∀ n∈l,pS n){T:ax}{m:Mk}{g:Nat}{Q:bq->AS->Prop}(hd:ds[i]?=some d)(h2:2<=ds.length)(hs:∀ d∈ds,d.aZ≠[])
  (e3:T 3=.ref H.length 0) (lr:T 13=.int .i64 i)
  (hQ:∀ (T' : ax) (m' : Mk) (r:Cells 5),(T' 2=T 2/\T' 3=T 3/\T' 4=T 4/\T' 5=T 5/\T' 13=T 13/\T' 14=T 14)->m'.own=m.own->Q .normal ⟨T',pH H l m' (aH two l0 l1) ((ds.set i { d with res:=r }).map aE),H.length,g⟩) :
  W A E10 ⟨T,pH H l m (aH two l0 l1) (ds.map aE),H.length,g⟩ Q:=by
 have aU:i<ds.length:=(apw.1 hd).1
 have bC:ds≠[]:=by intro h;rw[h] at aU;simp at aU
 have tJ:ds.map aE≠[]:=by simpa using bC
 have gr:(bif decide (H.length<H.length) then H.length else H.length)=H.length:=by simp
 have Bh:(bif decide (H.length+bS two+ds.length<H.length) then H.length+bS two+ds.length else H.length)=H.length:=by rw[aqy (by omega)];rfl
 have hD:aA (H.length+bS two) 31 (ds.map aE)=.sref (H.length+bS two+ds.length) 0 ds.length 31:=by rw[jl tJ,apQ]
 have hg:∀ m,(pH H l m (aH two l0 l1) (ds.map aE))[H.length]?=some (.cj [.sref (H.length+bS two) 0 (bS two) 6,.sref (H.length+bS two+ds.length) 0 ds.length 31,.slice (ints l) false,.int .i64 m.pos,.int .i64 m.next,.int .i64 m.left,.int .i64 m.own]):=fun m=>by
  rw[<- hD,<- cT (l0:=l0) (l1:=l1)];exact mu
 have hp:=fun m=>Lx (l:=l) (H:=H) (m:=m) (two:=two) (l0:=l0) (l1:=l1) hs bC
 obtain⟨t,m2,ht,_,qW,rE⟩:=SV (BC hl (m:=m) (M:=aH two l0 l1) (D:=ds.map aE) (H:=H)) (hp m) h2
 rw[qy] at rE
 have Jt:az A 18 [.ref H.length 0] (pH H l m (aH two l0 l1) (ds.map aE))=some (.agg t,some ⟨pH H l m2 (aH two l0 l1) (ds.map aE),H.length⟩):=rE
 have jH:=(hp m2).hd
 have lQ:decide (i<ds.length)=true:=by simpa using aU
 have pq:=CB (ds:=ds)
 obtain⟨Uu,H5,ht3⟩:=ht
 have pr:=US hd ⟨t,Uu,H5⟩
 have htd:=jV H5
 have htf:=mq H5
 have htt:t.take 5=t:=aqn (by omega)
 have htp:=uY H5
 have hhc:=Ls H5
 have dI:(pH H l m2 (aH two l0 l1) (ds.map aE)).set (H.length+bS two+ds.length) (.box aL ((ds.set i { d with res:=⟨t,Uu,H5⟩ }).map aE).flatten)=pH H l m2 (aH two l0 l1) ((ds.set i { d with res:=⟨t,Uu,H5⟩ }).map aE):=by
  have:=Dp (H:=H) (l:=l) (m:=m2) (M:=aH two l0 l1) (D:=ds.map aE) (D':=(ds.set i { d with res:=⟨t,Uu,H5⟩ }).map aE) tJ (by simp)
  rw[apQ,cT] at this
  exact this
 simp only[putAt,Uu] at pr
 have KY:decide (i*31+9+5<=ds.length*31)=true:=by simp;omega
 simp(disch:=omega)only[aG,aa,simprocAttr,bW,bZ,bF,ca,cM,bB,dQ,aw,av,aW,E10,p10,vV,wU,mT,oF,oE,oD,oC,oB,oA,iA,cu,du,iL,gr,Bh,hg,jH,Jt,pr,dI,lQ,pq,KY,Uu,htd,htf,htt,htp,hhc,e3,lr,aY,lK,jX]
 exact hQ _ m2 _ (by simp(disch:=omega)only[aG,aa,simprocAttr]) qW
theorem afh(hl:∀ n∈l,pS n){T:ax}{m:Mk}{g:Nat}{env:List Vr}{o:Bool}{Q:bq->AS->Prop}(hd:ds[i]?=some d)(h2:2<=ds.length)(w9:ds.length<=1000)(hs:∀ d∈ds,d.aZ≠[])(Ot:∀ d∈ds,d.aZ.length<=10)(abi:env.length<=100)(ho:m.own=(i:Int))
  (e3:T 3=.ref H.length 0) (lr:T 13=.int .i64 i) (sX:T 14=.slice (dG env) o)
  (hQ:∀ (T' : ax) (m' : Mk) (r:Cells 15),(T' 2=T 2/\T' 3=T 3/\T' 4=T 4/\T' 5=T 5/\T' 13=T 13/\T' 14=T 14)->(∃ e,EN e/\r.l=bk e)->Q .normal ⟨T',pH H l m' (aH two l0 l1) ((ds.set i { d with body:=r }).map aE),H.length,g⟩) :
  W A F10 ⟨T,pH H l m (aH two l0 l1) (ds.map aE),H.length,g⟩ Q:=by
 have aU:i<ds.length:=(apw.1 hd).1
 have bC:ds≠[]:=by intro h;rw[h] at aU;simp at aU
 have tJ:ds.map aE≠[]:=by simpa using bC
 have gr:(bif decide (H.length<H.length) then H.length else H.length)=H.length:=by simp
 have Bh:(bif decide (H.length+bS two+ds.length<H.length) then H.length+bS two+ds.length else H.length)=H.length:=by rw[aqy (by omega)];rfl
 have hD:aA (H.length+bS two) 31 (ds.map aE)=.sref (H.length+bS two+ds.length) 0 ds.length 31:=by rw[jl tJ,apQ]
 have hg:∀ m,(pH H l m (aH two l0 l1) (ds.map aE))[H.length]?=some (.cj [.sref (H.length+bS two) 0 (bS two) 6,.sref (H.length+bS two+ds.length) 0 ds.length 31,.slice (ints l) false,.int .i64 m.pos,.int .i64 m.next,.int .i64 m.left,.int .i64 m.own]):=fun m=>by
  rw[<- hD,<- cT (l0:=l0) (l1:=l1)];exact mu
 have hp:=fun m=>Lx (l:=l) (H:=H) (m:=m) (two:=two) (l0:=l0) (l1:=l1) hs bC
 have hgh:GH (pC H l (aH two l0 l1) (ds.map aE)) (H.length+bS two) (H.length+bS two+ds.length) (aH two l0 l1) (ds.map aE) (gq two l0 l1) ds i (pH H l m (aH two l0 l1) (ds.map aE)) :=
  GH.of m (BC hl) (hp m) aU w9 (by rw[na];cases two<;>decide) fun d M1=>by
   have hm:=arI M1
   exact⟨aqj.2 (hs d hm),Ot d hm⟩
 obtain⟨e,m2,gp,_,hx⟩:=PE h2 5 _ hgh env (by omega) (by omega) m ho
 rw[qy,qy] at hx
 have n8:az A 22 [.ref H.length 0,.slice (dG env) false,.int .i64 5] (pH H l m (aH two l0 l1) (ds.map aE))=some (.agg (bk e),some ⟨pH H l m2 (aH two l0 l1) (ds.map aE),H.length⟩):=hx
 have jH:=(hp m2).hd
 have lQ:decide (i<ds.length)=true:=by simpa using aU
 have pq:=CB (ds:=ds)
 have pr:=Pl hd ⟨bk e,bW,nM⟩
 have hhc:=Ls (nM (e:=e))
 have dI:(pH H l m2 (aH two l0 l1) (ds.map aE)).set (H.length+bS two+ds.length) (.box aL ((ds.set i { d with body:=⟨bk e,bW,nM⟩ }).map aE).flatten)=pH H l m2 (aH two l0 l1) ((ds.set i { d with body:=⟨bk e,bW,nM⟩ }).map aE):=by
  have:=Dp (H:=H) (l:=l) (m:=m2) (M:=aH two l0 l1) (D:=ds.map aE) (D':=(ds.set i { d with body:=⟨bk e,bW,nM⟩ }).map aE) tJ (by simp)
  rw[apQ,cT] at this
  exact this
 simp only[putAt,bW] at pr
 have KY:decide (i*31+14+15<=ds.length*31)=true:=by simp;omega
 simp(disch:=omega)only[aG,aa,simprocAttr,bW,bZ,bF,ca,cM,bB,dQ,aw,av,aW,F10,p10,vV,wU,mT,oF,oE,oD,oC,oB,oA,iA,cu,du,iL,gr,Bh,hg,jH,n8,pr,dI,lQ,pq,KY,hhc,e3,lr,sX,aY,lK,jX]
 exact hQ _ m2 _ (by simp(disch:=omega)only[aG,aa,simprocAttr]) ⟨e,gp,rfl⟩
end
end
theorem UQ{d:Def}(h:d.aZ≠[]):ah false false 1 8 (aE d)=some (.slice (bw d.aZ) false):=by
 simp only[ah,apE,Pk,tT h];rfl
theorem YT{s:Slot} : (ff s).take 3=an s.id:=by simp[ff,an]
def In3(H:ag)(l:List Int)(two:Bool)(l0 l1:List Id)(many:Nat)(T:ax)(s:AS):Prop:=∃ m ds g,s=⟨T,pH H l m (aH two l0 l1) (ds.map aE),H.length,g⟩/\GD two ds/\ds.length=many /\
 (∀ (j:Nat) (d:Def),ds[j]?=some d->1<=d.aZ.length/\d.aZ.length<=3)/\T 2=.lbox 0 [.ae,.ae]/\T 3=.ref H.length 0/\T 4=.int .i64 many/\T 5=.slice (ints dA) true
theorem Xx(l:List Int)(H:ag)(hl:∀ n∈l,pS n)(s:AS)(two:Bool)(l0 l1:List Id)(many:Nat)(hm:many<=8)(hm4:4<=many)(h:D4 H l two l0 l1 many s):W A p10 s (Lt (D4 H l two l0 l1 many)):=by
 obtain⟨T,m,ds,g,rfl,jH,lQ,hs,e2,e3,e4,e5⟩:=h
 rw[adg]
 simp(disch:=omega)only[aG,aa,simprocAttr]
 have gr:(bif decide (H.length<H.length) then H.length else H.length)=H.length:=by simp
 have oR:(ints dA).length=8:=rfl
 refine bd many 6 (fun i s=>∃ T,In3 H l two l0 l1 many T s/\T 13=.int .i64 i) (D4 H l two l0 l1 many) (fun _=>False) ?_ ?_ (fun _ h=>h.elim) 0 _ (by omega) ?_
 ·rintro i s hi ⟨T,⟨m,ds,g,rfl,jH,lQ,hs,e2,e3,e4,e5⟩,lr⟩
  by_cases jr:i<many
  ·have hk:=ints_at (l:=dA) (i:=i) (n:=dA.getD i 0) (by rw[apX,apy (by have:dA.length=8:=rfl;omega)];rfl)
   have hbo:=fun H=>OT (dA.getD i 0) H
   obtain⟨d,hd⟩:∃ d,ds[i]?=some d:=⟨_,apy (by omega)⟩
   have w9:=hs i d hd
   have bC:ds≠[]:=by intro h;rw[h] at hd;simp at hd
   have tJ:ds.map aE≠[]:=by simpa using bC
   have hdn:d.aZ≠[]:=aqj.1 (by omega)
   have zQ:∀ d∈ds,d.aZ≠[]:=fun d hd=>by
    obtain⟨j,hj⟩:=ap8.1 hd
    exact aqj.1 (by have:=(hs j d hj).1;omega)
   have an7:∀ d∈ds,d.aZ.length<=10:=fun d hd=>by
    obtain⟨j,hj⟩:=ap8.1 hd
    have:=(hs j d hj).2;omega
   generalize hkk:(dA.getD i 0==2 || dA.getD i 0==3 || dA.getD i 0==4 || dA.getD i 0==5)=bo at *
   cases bo with
   | false =>
    simp(disch:=omega)only[aG,aa,simprocAttr,e4,e5,lr,hk,oR,hbo]
    exact⟨jr,_,⟨m,ds,g,rfl,jH,lQ,hs,by simp(disch:=omega)only[aG,aa,simprocAttr,e2,e3,e4,e5]⟩,by simp(disch:=omega)only[aG,aa,simprocAttr]⟩
   | true =>
    have hD:aA (H.length+bS two) 31 (ds.map aE)=.sref (H.length+bS two+ds.length) 0 ds.length 31:=by rw[jl tJ,apQ]
    have hg:∀ m,(pH H l m (aH two l0 l1) (ds.map aE))[H.length]?=some (.cj [.sref (H.length+bS two) 0 (bS two) 6,.sref (H.length+bS two+ds.length) 0 ds.length 31,.slice (ints l) false,.int .i64 m.pos,.int .i64 m.next,.int .i64 m.left,.int .i64 m.own]):=fun m=>by
     rw[<- hD,<- cT (l0:=l0) (l1:=l1)];exact mu
    have agk:=(Lx (l:=l) (H:=H) (m:=m) (two:=two) (l0:=l0) (l1:=l1) zQ bC).hd
    have hl8:ah false false 1 (i*31+8) (ds.map aE).flatten=some (.slice (bw d.aZ) false):=by
     have h1:=gF (agg:=false) (i:=i) (j:=8) (sz:=1) (r:=aE d) (ga (ds:=ds)) (by rw[apG,hd];rfl) (by omega) (by omega) (by omega)
     rw[h1,UQ hdn]
    have agb:decide (i<ds.length)=true:=by simp;omega
    have hsm:∀ (m:Mk) (a b:Int),(pH H l m (aH two l0 l1) (ds.map aE)).set H.length (.cj [.sref (H.length+bS two) 0 (bS two) 6,.sref (H.length+bS two+ds.length) 0 ds.length 31,.slice (ints l) false,.int .i64 m.pos,.int .i64 m.next,.int .i64 a,.int .i64 b])=pH H l { m with left:=a,own:=b } (aH two l0 l1) (ds.map aE):=fun m a b=>by
     rw[<- hD,<- cT (l0:=l0) (l1:=l1)]
     exact Ly (m':={ m with left:=a,own:=b })
    simp(disch:=omega)only[aG,aa,simprocAttr,e4,e5,lr,hk,oR,hbo]
    refine bd d.aZ.length 8 (fun k s=>∃ T,s=⟨T,pH H l m (aH two l0 l1) (ds.map aE),H.length,g⟩/\T 2=.lbox 0 [.ae,.ae]/\T 3=.ref H.length 0/\T 4=.int .i64 many/\T 5=.slice (ints dA) true/\T 13=.int .i64 i/\T 15=.int .i64 k/\∃ env:List Vr,env.length=k/\T 14=.slice (dG env) true)
     (fun s=>∃ T,s=⟨T,pH H l m (aH two l0 l1) (ds.map aE),H.length,g⟩/\T 2=.lbox 0 [.ae,.ae]/\T 3=.ref H.length 0/\T 4=.int .i64 many/\T 5=.slice (ints dA) true/\T 13=.int .i64 i/\∃ env:List Vr,env.length<=10/\T 14=.slice (dG env) true) (fun _=>False) ?_ ?_ (fun _ h=>h.elim) 0 _ (by omega) ?_
    ·rintro k s hk2 ⟨T,rfl,e2,e3,e4,e5,lr,IQ,env,abi,sX⟩
     by_cases gm:k<d.aZ.length
     ·have hsa:=HH (apy gm)
      generalize d.aZ[k]=sl at *
      have mJ:=fun H=>zm env ⟨[],sl.id,0⟩ H (by omega)
      have h0:=YT (s:=sl)
      rw[an] at h0
      simp only[an] at mJ
      simp(disch:=omega)only[aG,aa,simprocAttr,e3,lr,sX,IQ,hg,agk,hl8,agb,fA,aY,hsa,h0,mw,vY,mJ]
      exact⟨gm,_,rfl,by simp(disch:=omega)only[aG,aa,simprocAttr,e2,e3,e4,e5,lr];exact⟨_,by simp[abi],rfl⟩⟩
     ·have:k=d.aZ.length:=by omega
      subst this
      simp(disch:=omega)only[aG,aa,simprocAttr,e3,lr,sX,IQ,hg,agk,hl8,agb,fA,aY]
      exact⟨_,rfl,by simp(disch:=omega)only[aG,aa,simprocAttr,e2,e3,e4,e5,lr,sX];exact⟨env,by omega,rfl⟩⟩
    ·rintro s ⟨T,rfl,e2,e3,e4,e5,lr,env,abi,sX⟩
     simp(disch:=omega)only[aG,aa,simprocAttr,e3,lr,hg,hsm,aY,gr,kL]
     refine afg hl hd (by omega) zQ ?_ ?_ ?_
     ·simp(disch:=omega)only[aG,aa,simprocAttr,e3]
     ·simp(disch:=omega)only[aG,aa,simprocAttr,lr]
     intro T2 m2 r hT2 qW
     obtain⟨f2,f3,f4,f5,f13,f14⟩:=hT2
     simp(disch:=omega)only[aG,aa,simprocAttr] at f2 f3 f4 f5 f13 f14
     show W A F10 _ _
     have pP:∀ (j:Nat) (q:Def),(ds.set i { d with res:=r })[j]?=some q->1<=q.aZ.length/\q.aZ.length<=3:=by
      intro j q hj
      rw[ap6] at hj
      split at hj
      ·split at hj
       ·cases hj;exact w9
       ·cases hj
      ·exact hs j q hj
     have hd2:(ds.set i { d with res:=r })[i]?=some { d with res:=r }:=ap5 (by omega)
     refine afh (o:=true) (env:=env) hl hd2 (by rw[aqE];omega) (by rw[aqE];omega) (fun q hq=>?_) (fun q hq=>?_) (by omega) (by rw[qW]) (by rw[f3,e3]) (by rw[f13,lr]) (by rw[f14,sX]) ?_
     ·obtain⟨j,hj⟩:=ap8.1 hq
      exact aqj.1 (by have:=(pP j q hj).1;omega)
     ·obtain⟨j,hj⟩:=ap8.1 hq
      have:=(pP j q hj).2;omega
     intro T3 m3 r2 hT3 KY
     obtain⟨q2,q3,q4,q5,q13,q14⟩:=hT3
     have ai8:T3 13=.int .i64 i:=by rw[q13,f13,lr]
     simp(disch:=omega)only[aG,aa,simprocAttr,ai8]
     refine⟨jr,_,⟨m3,_,g,rfl,(jH.set (e:={ d with res:=r }) hd rfl rfl rfl (fun h=>h)).set hd2 rfl rfl rfl (fun _=>.inr KY),by simp[lQ],?_,by simp(disch:=omega)only[aG,aa,simprocAttr,q2,q3,q4,q5,f2,f3,f4,f5,e2,e3,e4,e5]⟩,by simp(disch:=omega)only[aG,aa,simprocAttr]⟩
     intro j q hj
     rw[ap6] at hj
     split at hj
     ·split at hj
      ·cases hj;exact w9
      ·cases hj
     ·exact pP j q hj
    ·exact⟨_,rfl,by simp(disch:=omega)only[aG,aa,simprocAttr,e2,e3,e4,e5,lr,apK];exact⟨[],rfl,rfl⟩⟩
  ·have:i=many:=by omega
   subst this
   simp(disch:=omega)only[aG,aa,simprocAttr,e4,lr]
   exact⟨_,m,ds,g,rfl,jH,lQ,hs,by simp(disch:=omega)only[aG,aa,simprocAttr,e2,e3,e4,e5]⟩
 ·rintro s ⟨T,m,ds,g,rfl,jH,lQ,hs,e2,e3,e4,e5⟩
  simp(disch:=omega)only[aG,aa,simprocAttr]
  exact⟨_,m,ds,g,rfl,jH,lQ,hs,e2,e3,e4,e5⟩
 ·exact⟨_,⟨m,ds,g,rfl,jH,lQ,hs,by simp(disch:=omega)only[aG,aa,simprocAttr,e2,e3,e4,e5]⟩,by simp(disch:=omega)only[aG,aa,simprocAttr,apK]⟩
theorem A5{H:ag}{base l z k:Nat}{o:ct}{rows f:List (List AV)}(hb:base<=l)(hl:H[l]?=some o)(ho:j8 o=some rows.flatten)(hd:qM rows=f)(hw:dT z f)(hz:0<z) :
  fh H base (k+1) (.sref l 0 rows.length z)=.slice f false:=by
 have hx:∀ x∈rows.flatten,dp x.drop=true:=by
  intro x hx
  obtain⟨r,hr,hx⟩:=arH.1 hx
  have:r.map AV.drop∈f:=by rw[<- hd];exact List.mem_map_of_mem hr
  exact apA.1 (hw _ this).2 _ (List.mem_map_of_mem hx)
 have h1:(rows.flatten.all fun x=>(fh H base k x.drop).plain&&jU x)=true:=by
  rw[apA]
  intro x h
  have h2:=hx x h
  have h3:jU x=true:=by
   have:=j7 h2
   cases x<;>first|exact this|rfl
  rw[nF h2,bM h2,h3];rfl
 have h2:rows.flatten.map (fun x=>fh H base k x.drop)=f.flatten:=by
  rw[<- hd,qM,<- List.map_flatten]
  refine apY fun x h=>?_
  rw[nF (hx x h)]
 have h4:=dx (tz hd hw.wide)
 have h5:f.length=rows.length:=(Ml hd).symm
 rw[fh]
 simp only[aqk hb,cond_true,hl,apB,ho,h1,h2,h4,h5,Nat.zero_add,aqh,aqk (apz _),Bool.and_true]
 rw[show Nat.blt 0 z=true by simpa [ap0] using hz,cond_true,<- h5,oh hw.wide]
theorem N0:TI=(.seq (.region false [{ dst:=some 260,guard:=none,op:=.mov false false (.tmp 3) },{ dst:=some 261,guard:=none,op:=.nilCheck (.tmp 260) },{ dst:=some 262,guard:=none,op:=.fieldAddr 0 (.tmp 261) },{ dst:=some 263,guard:=none,op:=.load false true 2 (.tmp 262) },{ dst:=none,guard:=none,op:=.store 2 (.tmp 2) (.tmp 263) }]) (.ret)):=rfl
theorem adn(l:List Int)(H:ag)(hl:∀ n∈l,pS n):∃ (two:Bool) (l0 l1:List Id) (ds:List Def),az A 6 [.slice (ints l) false] H=some (.agg (aF ⟨gq two l0 l1,ds⟩),none)/\GD two ds/\4<=ds.length/\ds.length<=8 /\
  (∀ (j:Nat) (d:Def),ds[j]?=some d->1<=d.aZ.length/\d.aZ.length<=3):=by
 have key:∃ r,az A 6 [.slice (ints l) false] H=some r/\∃ (two:Bool) (l0 l1:List Id) (ds:List Def),r=(.agg (aF ⟨gq two l0 l1,ds⟩),none)/\GD two ds/\4<=ds.length/\ds.length<=8 /\
   (∀ (j:Nat) (d:Def),ds[j]?=some d->1<=d.aZ.length/\d.aZ.length<=3):=by
  refine sf (fn:=iL) rfl rfl rfl ?_
  refine ahl l H hl _ ?_
  rintro s ⟨T,m,two,many,rfl,M7,h4,h8,e2,e3,e4,e5,e6⟩
  rw[show mT=.seq p8 wU from rfl]
  refine KA (Xv l H hl _ two many h8 ⟨T,m,rfl,by rw[M7,cT],e2,e3,e4,e5,e6⟩) ?_
  intro s1 Bk
  rw[show wU=.seq p9 vV from rfl]
  refine KA (Xw l H hl s1 two many h8 h4 Bk) ?_
  rintro s2 ⟨l0,l1,Qf,hl1,Ot⟩
  rw[show vV=.seq p10 TI from rfl]
  refine KA (Xx l H hl s2 two l0 l1 many h8 h4 Ot) ?_
  rintro s3 ⟨T,m,ds,g,rfl,jH,lQ,hs,e2,e3,e4,e5⟩
  have bC:ds≠[]:=by intro h;rw[h] at lQ;simp at lQ;omega
  have tJ:ds.map aE≠[]:=by simpa using bC
  have zQ:∀ d∈ds,d.aZ≠[]:=fun d hd=>by
   obtain⟨j,hj⟩:=ap8.1 hd
   exact aqj.1 (by have:=(hs j d hj).1;omega)
  have hD:aA (H.length+bS two) 31 (ds.map aE)=.sref (H.length+bS two+ds.length) 0 ds.length 31:=by rw[jl tJ,apQ]
  have hg:(pH H l m (aH two l0 l1) (ds.map aE))[H.length]?=some (.cj [.sref (H.length+bS two) 0 (bS two) 6,.sref (H.length+bS two+ds.length) 0 ds.length 31,.slice (ints l) false,.int .i64 m.pos,.int .i64 m.next,.int .i64 m.left,.int .i64 m.own]):=by
   rw[<- hD,<- cT (l0:=l0) (l1:=l1)];exact mu
  have hp:=Lx (l:=l) (H:=H) (m:=m) (two:=two) (l0:=l0) (l1:=l1) zQ bC
  rw[N0]
  simp(disch:=omega)only[aG,aa,simprocAttr,e2,e3,hg,aY]
  have z1:fh (pH H l m (aH two l0 l1) (ds.map aE)) H.length 3 (.sref (H.length+bS two) 0 (bS two) 6)=.slice (bD (gq two l0 l1)) false:=by
   have:=A5 (k:=2) (base:=H.length) (by omega) hp.hm rfl za Lo (by omega)
   rwa [cT] at this
  have z2:fh (pH H l m (aH two l0 l1) (ds.map aE)) H.length 3 (.sref (H.length+bS two+ds.length) 0 ds.length 31)=.slice (bz ds) false:=by
   have:=A5 (k:=2) (base:=H.length) (by omega) hp.hd rfl (x6 zQ) xp (by omega)
   rwa [apQ] at this
  have hmp:(([.sref (H.length+bS two) 0 (bS two) 6,.sref (H.length+bS two+ds.length) 0 ds.length 31]:List AV).map AV.drop).map (fh (pH H l m (aH two l0 l1) (ds.map aE)) H.length 3)=aF ⟨gq two l0 l1,ds⟩:=by
   have z1' : fh (pH H l m (aH two l0 l1) (ds.map aE)) H.length 3 (AV.sref (H.length+bS two) 0 (bS two) 6).drop=.slice (bD (gq two l0 l1)) false:=z1
   have z2' : fh (pH H l m (aH two l0 l1) (ds.map aE)) H.length 3 (AV.sref (H.length+bS two+ds.length) 0 ds.length 31).drop=.slice (bz ds) false:=z2
   simp only[apZ,aqe,z1',z2',aF]
  refine⟨(.agg (aF ⟨gq two l0 l1,ds⟩),none),?_,two,l0,l1,ds,rfl,jH,by omega,by omega,hs⟩
  have hf:=vD (base:=H.length) (fn:=iL) (tc:=2) (n:=2) (g:=0) (s:=⟨((((T.put 260 (.ref H.length 0)).put 261 (.ref H.length 0)).put 262 (.ref H.length 0)).put 263 (.agg [.sref (H.length+bS two) 0 (bS two) 6,.sref (H.length+bS two+ds.length) 0 ds.length 31])).put 2 (.lbox 0 [.sref (H.length+bS two) 0 (bS two) 6,.sref (H.length+bS two+ds.length) 0 ds.length 31]),pH H l m (aH two l0 l1) (ds.map aE),H.length,g⟩) (cs:=[.sref (H.length+bS two) 0 (bS two) 6,.sref (H.length+bS two+ds.length) 0 ds.length 31]) rfl (by decide) (by simp[ax.put]) rfl (by unfold j9;simp) (by show (List.map _ (List.map AV.drop _)).all AV.plain=true;rw[hmp];rfl)
  rw[show (List.map (fh _ _ 3) (List.map AV.drop _))=_ from hmp] at hf
  unfold finish
  rw[hf,Option.map_some,nT (by decide)]
  simp
 obtain⟨r,h1,two,l0,l1,ds,rfl,h2⟩:=key
 exact⟨two,l0,l1,ds,h1,h2⟩
end Go.Proofs.YthbncinhhdogpaaGreatDoor
