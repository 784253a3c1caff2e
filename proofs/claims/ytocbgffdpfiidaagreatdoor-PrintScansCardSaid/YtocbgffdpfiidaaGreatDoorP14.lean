/-
  A part of the proof of PrintScans: AbsOKS, AbsClose, AbsSeatS.
-/
import Derived.ProofKit
import Derived.LaidMore
import Derived.Carry
import Derived.ChangeMaps5
import Derived.OpenShut
import Derived.Lib.LaidTab
import Derived.Deep.Strs
import Derived.Test.YtocbgffdpfiidaaGreatDoorCards
import Derived.Test.YtocbgffdpfiidaaGreatDoorTie
import Derived.Test.YtocbgffdpfiidaaGreatDoorP13
import Derived.Test.YtocbgffdpfiidaaGreatDoorP09
set_option linter.unusedSimpArgs false
set_option linter.unusedVariables false
set_option linter.defProp false
set_option maxRecDepth 100000
namespace Go.Proofs.YtocbgffdpfiidaaGreatDoor
open Go Go.Abs Go.Proofs
theorem fo{f:FuncId}{fn:Func}{i pB:au}{a b c:List Nat}(h:Tryz.prog.funcs[f]?=some fn)(k:pG Tryz.prog a b c fn=some i)(e:some i=some pB):∃ fn bR locals muts,Tryz.prog.funcs[f]?=some fn/\pG Tryz.prog bR locals muts fn=some pB:=by
 injection e with e
 subst e
 exact⟨_,_,_,_,h,k⟩
theorem K9(f:FuncId)(pB:au)(h:fns f=some pB):∃ fn bR locals muts,Tryz.prog.funcs[f]?=some fn/\pG Tryz.prog bR locals muts fn=some pB:=by
 unfold fns at h
 split at h
 ·exact fo Tryz.func3 Wy h
 ·exact fo Tryz.func4 WI h
 ·exact fo Tryz.func5 WS h
 ·exact fo Tryz.func6 WU h
 ·exact fo Tryz.func7 W6 h
 ·exact fo Tryz.func8 Xf h
 ·exact fo Tryz.func9 Xg h
 ·exact fo Tryz.func10 QC h
 ·exact fo Tryz.func11 QD h
 ·exact fo Tryz.func12 QE h
 ·exact fo Tryz.func13 QF h
 ·exact fo Tryz.func14 QG h
 ·exact fo Tryz.func15 QH h
 ·exact fo Tryz.func16 QI h
 ·exact fo Tryz.func17 QJ h
 ·exact fo Tryz.func18 QK h
 ·exact fo Tryz.func19 QL h
 ·exact fo Tryz.func20 QM h
 ·exact fo Tryz.func21 QN h
 ·exact fo Tryz.func22 QO h
 ·exact fo Tryz.func23 QP h
 ·exact fo Tryz.func24 QQ h
 ·exact fo Tryz.func25 QR h
 ·exact fo Tryz.func26 QS h
 ·exact fo Tryz.func27 QT h
 ·exact fo Tryz.func28 QU h
 ·exact fo Tryz.func29 QV h
 ·exact fo Tryz.func30 QW h
 ·exact fo Tryz.func31 QX h
 ·exact fo Tryz.func32 QY h
 ·exact fo Tryz.func33 QZ h
 ·exact fo Tryz.func34 Q0 h
 ·exact fo Tryz.func35 Q1 h
 ·exact fo Tryz.func36 Q2 h
 ·exact fo Tryz.func37 Q3 h
 ·exact fo Tryz.func39 Q4 h
 ·exact fo Tryz.func40 Q5 h
 ·exact fo Tryz.func41 Q6 h
 ·exact fo Tryz.func42 Q7 h
 ·exact fo Tryz.func43 Q8 h
 ·exact fo Tryz.func44 Q9 h
 ·exact fo Tryz.func45 Ra h
 ·exact fo Tryz.func46 Rb h
 ·exact fo Tryz.func47 Rc h
 ·exact fo Tryz.func48 Rd h
 ·exact fo Tryz.func49 Re h
 ·exact fo Tryz.func50 Rf h
 ·exact fo Tryz.func51 Rg h
 ·exact fo Tryz.func52 Rh h
 ·exact fo Tryz.func53 Ri h
 ·exact fo Tryz.func54 Rj h
 ·exact fo Tryz.func55 Rk h
 ·exact fo Tryz.func56 Rl h
 ·exact fo Tryz.func57 Rm h
 ·exact fo Tryz.func58 Rn h
 ·exact fo Tryz.func59 Ro h
 ·exact fo Tryz.func60 Rp h
 ·exact fo Tryz.func61 Rq h
 ·exact fo Tryz.func62 Rr h
 ·exact fo Tryz.func63 Rs h
 ·exact fo Tryz.func64 Rt h
 ·exact fo Tryz.func65 Ru h
 ·exact fo Tryz.func67 Rv h
 ·exact fo Tryz.func69 Rw h
 ·exact fo Tryz.func70 Rx h
 ·exact fo Tryz.func71 Ry h
 ·exact fo Tryz.func72 Rz h
 ·exact fo Tryz.func73 RA h
 ·exact fo Tryz.func74 RB h
 ·exact fo Tryz.func75 RC h
 ·exact fo Tryz.func76 RD h
 ·exact fo Tryz.func77 RE h
 ·exact fo Tryz.func78 RF h
 ·exact fo Tryz.func79 RG h
 ·exact fo Tryz.func80 RH h
 ·exact fo Tryz.func82 RI h
 ·exact fo Tryz.func83 RJ h
 ·exact fo Tryz.func84 RL h
 ·exact fo Tryz.func85 RM h
 ·exact fo Tryz.func86 RN h
 ·exact fo Tryz.func87 RO h
 ·exact fo Tryz.func88 RP h
 ·exact fo Tryz.func89 RQ h
 ·exact fo Tryz.func90 RR h
 ·exact fo Tryz.func91 RS h
 ·exact fo Tryz.func92 RT h
 ·exact fo Tryz.func93 RU h
 ·exact fo Tryz.func94 RV h
 ·exact fo Tryz.func95 RW h
 ·exact fo Tryz.func96 RX h
 ·exact fo Tryz.func98 RY h
 ·exact fo Tryz.func100 LY h
 ·exact fo Tryz.func101 L0 h
 ·exact fo Tryz.func102 L2 h
 ·exact fo Tryz.func103 L4 h
 ·exact fo Tryz.func104 L6 h
 ·exact fo Tryz.func105 L8 h
 ·exact fo Tryz.func106 L' h
 ·exact fo Tryz.func107 Mb h
 ·exact fo Tryz.func108 Md h
 ·exact fo Tryz.func110 Mg h
 ·exact fo Tryz.func111 Mi h
 ·exact fo Tryz.func112 Mk h
 ·exact fo Tryz.func113 Mm h
 ·exact fo Tryz.func114 Mo h
 ·exact fo Tryz.func115 Mq h
 ·exact fo Tryz.func116 Ms h
 ·exact fo Tryz.func117 Mu h
 ·exact fo Tryz.func118 Mw h
 ·exact fo Tryz.func119 My h
 ·exact fo Tryz.func120 Mz h
 ·exact fo Tryz.func123 MB h
 ·exact fo Tryz.func124 MD h
 ·exact fo Tryz.func126 MF h
 ·exact fo Tryz.func127 MH h
 ·exact fo Tryz.func128 MJ h
 ·exact fo Tryz.func129 ML h
 ·exact fo Tryz.func130 MO h
 ·exact fo Tryz.func131 MQ h
 ·exact fo Tryz.func132 MS h
 ·exact fo Tryz.func135 MU h
 ·exact fo Tryz.func136 MW h
 ·exact fo Tryz.func137 MY h
 ·exact fo Tryz.func138 M0 h
 ·exact fo Tryz.func143 M3 h
 ·exact fo Tryz.func144 M5 h
 ·exact fo Tryz.func150 M8 h
 ·exact fo Tryz.func157 M' h
 ·exact fo Tryz.func158 Nb h
 ·exact fo Tryz.func164 Nf h
 ·exact fo Tryz.func187 Nh h
 ·exact fo Tryz.func188 Ni h
 ·cases h
theorem XB(f:FuncId)(g:List AV->ag->Option (AV × Option fD))(h:ov0 f=some g):jy Tryz.prog HN f g:=by
 unfold ov0 at h
 split at h
 ·injection h with h;subst h;exact rQ
 ·injection h with h;subst h;exact vE
 ·injection h with h;subst h;exact uS
 ·injection h with h;subst h;exact tE
 ·injection h with h;subst h;exact ru
 ·injection h with h;subst h;exact uI
 ·cases h
theorem Su:rY Tryz.prog A0:=⟨by kernel_rfl,K9,XB⟩
theorem N2:jy Tryz.prog HN 6 Ac:=by
 have h:=Vo Su 59 6
 intro args H r c he
 unfold Ac at he
 split at he
 ·injection he with he
  injection he with e1 e2
  subst e1 e2
  exact h _ _ _ _ Jk
 ·cases he
theorem aaW(f:FuncId)(g:List AV->ag->Option (AV × Option fD))(h:ov f=some g):jy Tryz.prog HN f g:=by
 unfold ov at h
 split at h
 ·injection h with h;subst h;exact N2
 ·injection h with h;subst h;exact rQ
 ·injection h with h;subst h;exact vE
 ·injection h with h;subst h;exact uS
 ·injection h with h;subst h;exact tE
 ·injection h with h;subst h;exact ru
 ·injection h with h;subst h;exact uI
 ·cases h
theorem XC:rY Tryz.prog A:=⟨by kernel_rfl,K9,aaW⟩
end Go.Proofs.YtocbgffdpfiidaaGreatDoor
namespace Go.Abs
open Go Go.RowKit Go.ChangeShapes Go.WideShapes Go.ChangeMaps Go.MapKept
section
theorem abQ{n:Int}(h:(Lit.int .i64 n).wf=true):AG n:=by
 have h1:IntKind.i64.min=-9223372036854775808:=rfl
 have h2:IntKind.i64.max=9223372036854775807:=rfl
 simp only[Lit.wf,ahR,ah8,h1,h2] at h
 exact h
def gr(W:World):Gh:={ S:=fun b o=>(∃ v,W.cell? ⟨b,o,none⟩=some v/\v.oneCell'=true/\∀ n,v≠.int .u8 n)\/(∃ E ck,W.heap[b]?=some (.map E ck)),κ:=fun _=>.none,ρ:=fun _=>0 }
theorem PG{W:World}{b o:Nat}{v:Value}(h:W.cell? ⟨b,o,none⟩=some v):b<W.heap.size:=by
 rcases aja b W.heap.size with h'|h'
 ·exact h'
 ·simp[World.cell?,ai5 h'] at h
theorem abR{G:Nat->List AV}{W:World}(hg:∀ (g j:Nat) (x:AV),(G g)[j]?=some x->∃ v,W.cell? ⟨g,j,none⟩=some v/\PR (gr W).S W v x/\∀ n,v≠.int .u8 n)
  (ht:∀ g,G g≠[]->∃ ty,nj W g ty (G g).length):aF G W.heap.size [] (gr W) W where
 size:=ahQ _
 lX:=fun b o h=>by
  rcases h with ⟨v,h,_⟩|⟨E,ck,h⟩
  ·exact PG h
  ·exact (ahT.1 h).1
 mH:=fun b h=>absurd rfl h
 aP:=fun g j x h=>by
  obtain⟨v,h1,h2,h3⟩:=hg g j x h
  exact⟨v,h1,h2,.inl ⟨v,h1,h2.dv,h3⟩⟩
 boxes:=fun loc ty cs h=>by simp at h
 refs:=fun loc ty cs h=>by simp at h
 uj:=ht
 bytes:=fun b o n h hc=>by
  rcases h with ⟨v,h,_,h3⟩|⟨E,ck,h⟩
  ·rw[h] at hc
   injection hc with hc
   exact absurd hc (h3 n)
  ·simp only[World.cell?,h] at hc
   cases hc
 more:=fun loc o h=>by simp at h
 types:=fun loc ty cs h=>by simp at h
theorem Pw{gh:Gh}{n:Nat}{w:World}{p:aW}{v:Value}{b:Bool}(h:CR gh n w p v (.bool b)):v=.bool b:=by
 rcases h with h|⟨e,h,_⟩
 ·cases h with
  | plain v x h=>cases h;rfl
 ·cases h
theorem R3{P:Program}{A:AP}(hA:rY P A){f:FuncId}{xs:List AV}(h:aB A f xs []=some (.bool true,none)){W:World}(hW:aF A.aP W.heap.size [] (gr W) W)
  {vs:Array Value} (hs:vs.size=xs.length) (hv:∀ (j:Nat) (v:Value) (x:AV),vs[j]?=some v->xs[j]?=some x->PR (gr W).S W v x) :
  Calls P f vs W fun e W'=>e=.returned (.bool true)/\Below W.heap.size W W':=by
 obtain⟨n,hn⟩:=mO.1 h
 obtain⟨_,_,hc⟩:=xO hA n f xs [] _ _ hn
 refine (hc W.heap.size (gr W) W vs hW (fun b=>.inl rfl) hs (fun j v x h1 h2=>.inl (.plain _ _ (hv j v x h1 h2)))).mono fun e W' ⟨v,aD,he,r⟩=>?_
 refine⟨by rw[he,Pw r.val],r.st.os,r.st.tape,r.st.output,r.st.size,fun k hk=>?_⟩
 obtain⟨h1,_,_⟩:=r.st.xB k hk (by
  intro ht
  simp only[fG,gr] at ht
  rcases ht with ⟨l,ht⟩|⟨l,j,ht⟩|⟨j,ht⟩<;>cases ht)
 rcases h1 with h1|⟨C,ty,lo,hi,lo',ku,k1,_,⟨o,m,⟨v',h2,_,h3⟩|⟨E,ck,h2⟩,hm⟩,_⟩
 ·exact h1
 rotate_left
 ·rw[k1] at h2;cases h2
 ·exfalso
  have:W.cell? ⟨k,o,none⟩=some (.int .u8 m):=by
   simp only[World.cell?,k1];exact hm
  rw[this] at h2
  injection h2 with h2
  exact h3 m h2.symm
theorem pQ{H:Type}{enc:TypeId × Value->H}{P:Program}(hl:laidOutB P=true){W W' : World}(hb:Below W.heap.size W W'){sp:Nat->Bool} :
  ∀ {ts:List TypeId} {vs:List Value} {ds:List (DataW H)} {ps:List MemPlace},(ts.all fun t=>P.readableRec t&&decide (t<P.types.size))=true->DataW.TrodAll enc P W 0 (fun _=>true) true ts vs ds ps ->
   (∀ x∈ps,x.block<W.heap.size)->(∀ p∈ps,sp p.block=true)->DataW.TrodAll enc P W' 0 sp true ts vs ds ps
 | [],[],[],_,_,h,_,_=>h
 | t :: ts,v :: vs,d :: ds,ps,ht,⟨p,q,h1,h2,e⟩,aZ,hs=>by
  simp only[ajb,ahR] at ht
  exact⟨p,q,WideElems.Trod_stays hl ht.1.1 (of_decide_eq_true ht.1.2) h1 (fun x hx=>hb.same (aZ x (by rw[e];exact ajd _ hx))) (fun x hx=>hs x (by rw[e];exact ajd _ hx)),
   pQ hl hb ht.2 h2 (fun x hx=>aZ x (by rw[e];exact ajM _ hx)) (fun x hx=>hs x (by rw[e];exact ajM _ hx)),e⟩
theorem NX{H:Type}{enc:TypeId × Value->H}{P:Program}(hl:laidOutB P=true){f:Func}{s:ChangeSpec}{W W' : World}{args:Array Value}{ds gs:List (DataW H)}{before:List MemPlace}{tb:TypeId}
  (hW:DataW.Whole enc P f.params.toList s.vars false W args.toList ds gs before) (hb:Below W.heap.size W W') (hv:s.vars=[])
  (hts:(f.params.toList.all fun t=>P.readableRec t&&decide (t<P.types.size))=true) (hr:f.resultTypes=#[tb]) (ht:P.underlying tb=some .bool)
  (qk:(s.fn H (ds++gs)).results=[.lit (.bool true)]) (dq:(s.fn H (ds++gs)).args=ds) (aax:(s.fn H (ds++gs)).vars=[]) :
  s.post enc P f false true false false W args (.bool true) W':=by
 have j0:=hW
 obtain⟨p,q,hA,hV,he,hfz,Ho⟩:=hW
 rw[hv] at hV
 obtain⟨rfl,rfl⟩:=trodVars_none hV
 have aZ:∀ x∈before,x.block<W.heap.size:=fun x hx=>by simpa using j0.lt x hx
 subst he
 refine⟨ds,[],p++[],[],p,[],j0,?_,?_,?_,World.keptBut_mono (fun x hx=>hx.elim) (hb.frame fun _=>False),fun h=>by cases h⟩
 ·rw[qk,hr]
  exact trodAll_mk1 (shut_bool ht true)
 ·rw[dq]
  exact pQ hl hb hts hA (fun x hx=>aZ x (ajd _ hx)) (fun x hx=>by simpa using aZ x (ajd _ hx))
 ·rw[aax,hv];rfl
section
variable {H:Type}{enc:TypeId × Value->H}{P:Program}{W:World}{sp:Nat->Bool}{hd:Bool}{b0:Nat}{t e:TypeId}{v:Value}{d:DataW H}{p:List MemPlace}
theorem PD(ht:P.underlying t=some (.int .i64))(fY:Value.okWide P W .any b0 t v)(h:DataW.Trod enc P W 0 sp hd t v d p) :
  ∃ n:Int,d=.lit (.int .i64 n)/\AG n/\PR (gr W).S W v (.int .i64 n):=by
 obtain⟨n,rfl,rfl,rfl,hw⟩:=open_int ht fY h
 exact⟨n,rfl,abQ hw,.int _ _⟩
theorem wv(ht:P.underlying t=some (.slice e))(fY:Value.okWide P W .any b0 t v):v=.slice none 0 0\/∃ b o len cap,v=.slice (some ⟨b,o,none⟩) len cap/\len<=cap:=by
 simp only[Value.okWide,ht,Cell.okWide,Cell.ok] at fY
 split at fY
 case h_7=>exact .inl rfl
 case h_9 e' a len cap hh =>
  obtain⟨h1,_,_,h3,_⟩:=fY
  obtain⟨b,o,s⟩:=a
  simp only at h3
  subst h3
  exact .inr ⟨b,o,len,cap,rfl,h1⟩
 all_goals first|(simp_all;done)|exact fY.elim
theorem AZ(ht:P.underlying t=some (.slice e))(he:P.underlying e=some (.int .i64))(hc:P.cellsOf e=1)(fY:Value.okWide P W .any b0 t v)(h:DataW.Trod enc P W 0 sp hd t v d p) :
  ∃ (l:List Int) (rest:List (DataW H)),((d=.nil/\l=[])\/d=.slice (lits .i64 l) rest)/\(∀ n∈l,AG n)/\PR (gr W).S W v (.slice (ints l) false):=by
 obtain⟨fuel,hf⟩:=h
 rcases open_ints ht he hc hf with ⟨fq,hx⟩|⟨a,len,cap,zs,fq,_,hlc,_,Qz,hx,bI,hwf⟩
 ·injection hx with ZX hp
  rcases wv ht fY with rfl|⟨b,o,len,cap,rfl,_⟩
  ·exact⟨[],[],.inl ⟨ZX,rfl⟩,fun _ h=>(ajz h).elim,.cy⟩
  ·simp[Value.cells] at fq
 ·injection hx with ZX hp
  rcases wv ht fY with rfl|⟨b,o,Ji,qH,rfl,_⟩
  ·simp[Value.cells] at fq
  ·simp only[Value.cells,ajG,Value.slice.injEq,ahM,ai9] at fq
   obtain⟨rfl,rfl,rfl⟩:=fq
   have ae1:Ji<=zs.length:=by rw[Qz];split<;>omega
   have hI:∀ n∈zs,AG n:=fun n hn=>abQ (hwf n hn)
   have sG:∀ (i:Nat) (r:List AV),(ints (zs.take Ji))[i]?=some r->i<Ji/\r=[.int .i64 (zs.getD i 0)]:=by
    intro i r hr
    rw[LX,ah5] at hr
    split at hr
    ·rename_i hi
     have uw:i<zs.length:=by omega
     rw[ahP uw] at hr
     simp only[ah0,ahM] at hr
     exact⟨hi,by rw[<- hr,aim,ahP uw];rfl⟩
    ·simp at hr
   refine⟨zs.take Ji,lits .i64 (zs.drop Ji),.inr ZX,fun n hn=>hI n (aiO hn),.slice b o Ji qH 1 _ (fun i j=>.int .i64 (zs.getD i 0)) ?_ hlc ?_ ?_ ?_⟩
   ·rw[lL,List.length_take];omega
   ·intro i r hr
    rw[(sG i r hr).2];rfl
   ·intro i j r x hr hx
    obtain⟨hi,rfl⟩:=sG i r hr
    have hj:j=0:=by
     cases j with
     | zero=>rfl
     | succ j=>simp at hx
    subst hj
    have xg:=bI i (by omega)
    have Lh:(Addr.mk b o none).add i=⟨b,o+i*1+0,none⟩:=by
     unfold Addr.add
     split
     ·rename_i h0;subst h0;simp
     ·simp
    have gu:W.cell? ⟨b,o+i*1+0,none⟩=some (.int .i64 (zs.getD i 0)):=by rw[<- Lh];exact xg
    exact⟨.inl ⟨_,gu,rfl,fun n hn=>by cases hn⟩,gu,rfl⟩
   ·intro i j r x hr hx
    obtain⟨hi,rfl⟩:=sG i r hr
    cases j with
    | zero =>
     simp only[ah',ahM] at hx
     subst hx
     exact .int _ _
    | succ j=>simp at hx
end
def pE(W:World)(g:Nat)(xs:List AV):Prop :=
 (∃ ty,nj W g ty xs.length)/\∀ (j:Nat) (x:AV),xs[j]?=some x->∃ v,W.cell? ⟨g,j,none⟩=some v/\PR (gr W).S W v x/\∀ n,v≠.int .u8 n
theorem JO{G:Nat->List AV}{W:World}(h:∀ g,G g≠[]->pE W g (G g)):aF G W.heap.size [] (gr W) W:=by
 refine abR (fun g j x hx=>?_) (fun g hg=>(h g hg).1)
 exact (h g (fun h=>by rw[h] at hx;simp at hx)).2 j x hx
theorem sZ{P:Program}{W:World}{name:String}{g:Nat}{cs:Array Value}{xs:List AV}(hg:P.globalNamed name=some g)(hv:W.var? P name=some cs)(hl:cs.size=xs.length)
  (h:∀ (j:Nat) (v:Value) (x:AV),cs[j]?=some v->xs[j]?=some x->PR (gr W).S W v x/\∀ n,v≠.int .u8 n):pE W g xs:=by
 have hv0:=hv
 simp only[World.var?,hg,ahV] at hv
 refine⟨?_,fun j x hx=>?_⟩
 ·split at hv
  ·rename_i C ty fr hC
   injection hv with hv
   exact⟨ty,C,fr,hC,by rw[hv,hl]⟩
  ·cases hv
 ·have aZ:j<cs.size:=by rw[hl];exact (ahO.1 hx).1
  exact⟨cs[j],by rw[World.var?_cell hg hv0 j,ahY aZ],h j _ x (ahY aZ) hx⟩
theorem rB{P:Program}{W:World}{n:String}{d:DataW Unit} : ∀ {l:List (String × DataW Unit)} {ps:List MemPlace},DataW.LaidVars P W l ps->(n,d)∈l ->
  ∃ g t cs fuel p,P.globalNamed n=some g/\(P.globals[g]?).map (·.type)=some t/\W.var? P n=some cs/\DataW.trod (fun _=>()) P W 0 (fun _=>true) false fuel t cs.toList=some (d,p)/\∀ x∈MemPlace.row ⟨g,0,none⟩ cs.size,x∈ps
 | [],_,_,hm=>(ajz hm).elim
 | (n',d') :: r,ps,⟨g,t,cs,fuel,p,q,h1,h2,h3,h4,hr,he⟩,hm=>by
  rcases aii.1 hm with hm|hm
  ·injection hm with e1 e2
   subst e1 e2
   exact⟨g,t,cs,fuel,p,h1,h2,h3,h4,fun x hx=>by rw[he];exact ajd _ (ajd _ hx)⟩
  ·obtain⟨g',t',cs',ZF,p',k1,k2,k3,k4,k5⟩:=rB hr hm
   exact⟨g',t',cs',ZF,p',k1,k2,k3,k4,fun x hx=>by rw[he];exact ajM _ (k5 x hx)⟩
theorem yg{P:Program}{W:World}{n:String}{d:DataW Unit}{l:List (String × DataW Unit)}(h:laidMetH P l W)(hm:(n,d)∈l)(hd:d.handleName?.isNone=true) :
  ∃ g t cs fuel p,P.globalNamed n=some g/\(P.globals[g]?).map (·.type)=some t/\W.var? P n=some cs/\DataW.trod (fun _=>()) P W 0 (fun _=>true) false fuel t cs.toList=some (d,p) /\
   ∀ j u v,j<cs.size->W.cell? ⟨g,j,none⟩=some (.iface u v)->Value.okWide P W .any 0 u v:=by
 have key:∀ l',laidMet P l' W->(n,d)∈l'->∃ g t cs fuel p,P.globalNamed n=some g/\(P.globals[g]?).map (·.type)=some t/\W.var? P n=some cs/\DataW.trod (fun _=>()) P W 0 (fun _=>true) false fuel t cs.toList=some (d,p) /\
   ∀ j u v,j<cs.size->W.cell? ⟨g,j,none⟩=some (.iface u v)->Value.okWide P W .any 0 u v:=by
  rintro l' ⟨ps,hv,_,pb⟩ Dx
  obtain⟨g,t,cs,fuel,p,h1,h2,h3,h4,h5⟩:=rB hv Dx
  exact⟨g,t,cs,fuel,p,h1,h2,h3,h4,fun j u v hj hc=>(pb g j (h5 _ (by simp only[MemPlace.row];simpa using hj))).2 u v hc⟩
 unfold laidMetH at h
 split at h
 ·exact key _ h hm
 ·exact key _ h.1 (akr.2 ⟨hm,hd⟩)
theorem rC{P:Program}{W:World}{n:String}{d:DataW Unit}{l:List (String × DataW Unit)}(h:laidMetH P l W)(hm:(n,d)∈l)(hd:d.handleName?.isNone=true) :
  ∃ g t cs fuel p,P.globalNamed n=some g/\(P.globals[g]?).map (·.type)=some t/\W.var? P n=some cs/\DataW.trod (fun _=>()) P W 0 (fun _=>true) false fuel t cs.toList=some (d,p):=by
 obtain⟨g,t,cs,fuel,p,h1,h2,h3,h4,_⟩:=yg h hm hd
 exact⟨g,t,cs,fuel,p,h1,h2,h3,h4⟩
theorem CA{cs:List Value}{i:Nat}{v:Value}(h:(cs.drop (i*1)).take 1=[v]):cs[i]?=some v:=by
 have:((cs.drop (i*1)).take 1)[0]?=some v:=by rw[h];rfl
 simpa [ah5,ail] using this
theorem Dg{P:Program}{W:World}{name:String}{l:List (String × DataW Unit)}{ss:List (List UInt8)}{g n:Nat}{t e:TypeId}(h:laidMetH P l W)(hm:(name,.agg (ss.map fun s=>.lit (.string s)))∈l)
  (hg:P.globalNamed name=some g) (I5:(P.globals[g]?).map (·.type)=some t) (ht:P.underlying t=some (.array n e)) (he:P.underlying e=some .string) (YT:P.cellsOf e=1) (hct:P.cellsOf t=n):pE W g (ss.map .str):=by
 obtain⟨g',t',cs,fuel,p,h1,h2,h3,h4⟩:=rC h hm rfl
 obtain rfl:=aiM (hg.symm.trans h1)
 obtain rfl:=aiM (I5.symm.trans h2)
 obtain⟨xs,m,rfl,hx,hlen,hn,VT⟩:=DataW.trod_array ht h4
 injection hx with hx hp
 injection hx with hx
 have tC:ss.length=n:=by
  have:=aj8 List.length hx
  simpa [hn] using this
 refine sZ hg h3 (by rw[aie,tC,<- hct,<- hlen];exact (akj).symm) fun j v x hv mG=>?_
 have hj:j<n:=by
  have:=(ahO.1 mG).1
  simpa [tC] using this
 have tZ:=VT j hj
 rw[YT] at tZ
 rw[ahP (show j<xs.length by omega)] at tZ
 obtain⟨s,h5,h6,_⟩:=DataW.trod_string he tZ
 have nW:cs.toList[j]?=some v:=by rw[aik];exact hv
 rw[CA h5] at nW
 injection nW with nW
 have h7:(ss.map fun s=>(DataW.lit (.string s):DataW Unit))[j]?=some (.lit (.string s.data.toList)):=by
  rw[hx,ah2,ahP (show j<xs.length by omega),h6];rfl
 rw[ah2] at h7 mG
 cases hs:ss[j]? with
 | none=>rw[hs] at mG;cases mG
 | some b =>
  rw[hs] at h7 mG
  simp only[ah0,ahM,DataW.lit.injEq,Lit.string.injEq] at h7 mG
  subst mG nW
  exact⟨.str _ _ h7.symm,fun n hn=>by cases hn⟩
theorem O'{P:Program}{W:World}{name:String}{l:List (String × DataW Unit)}{k:IntKind}{zs:List Int}{g n:Nat}{t e:TypeId}(hk:k≠.u8)(h:laidMetH P l W)(hm:(name,.agg (zs.map fun z=>.lit (.int k z)))∈l)
  (hg:P.globalNamed name=some g) (I5:(P.globals[g]?).map (·.type)=some t) (ht:P.underlying t=some (.array n e)) (he:P.underlying e=some (.int k)) (YT:P.cellsOf e=1) (hct:P.cellsOf t=n):pE W g (zs.map (.int k)):=by
 obtain⟨g',t',cs,fuel,p,h1,h2,h3,h4⟩:=rC h hm rfl
 obtain rfl:=aiM (hg.symm.trans h1)
 obtain rfl:=aiM (I5.symm.trans h2)
 have fq:=Lib.cells_of_tab ht he YT hct h4
 have fA:cs.size=zs.length:=by rw[<- akj,fq,aie]
 refine sZ hg h3 (by rw[aie,fA]) fun j v x hv hx=>?_
 rw[<- aik,fq] at hv
 rw[ah2] at hv hx
 cases hz:zs[j]? with
 | none=>rw[hz] at hv;cases hv
 | some z =>
  rw[hz] at hv hx
  simp only[ah0,ahM] at hv hx
  subst hv hx
  exact⟨.int _ _,fun n hn=>by injection hn with h1 h2;exact hk h1⟩
theorem TG{P:Program}{W:World}{name nm:String}{l:List (String × DataW Unit)}{d:DataW Unit}{g:Nat}{t te:TypeId}{ms:Array (String × TypeId)}(h:laidMetH P l W)(hm:(name,.iface nm d)∈l)
  (hd:(DataW.iface nm d).handleName?.isNone=true) (hg:P.globalNamed name=some g) (I5:(P.globals[g]?).map (·.type)=some t) (ht:P.underlying t=some (.interface ms)) (bp:∀ u,P.typeName? 3 u=some nm->u=te)
  (dY:∀ v,Value.okWide P W .any 0 te v->v.oneCell'=true):pE W g [.iface te .any]:=by
 obtain⟨g',t',cs,fuel,p,h1,h2,h3,h4,pb⟩:=yg h hm hd
 obtain rfl:=aiM (hg.symm.trans h1)
 obtain rfl:=aiM (I5.symm.trans h2)
 cases fuel with
 | zero=>simp[DataW.trod] at h4
 | succ fuel =>
  unfold DataW.trod at h4
  rw[ht] at h4
  split at h4<;>try (rename_i hh _;cases hh;done)
  all_goals first|(simp_all;done)|skip
  rename_i u v fq hh
  split at h4
  ·cases h4
  ·rename_i nm' hn
   simp only[ahK,ahN,DataW.iface.injEq] at h4
   obtain⟨⟨d',p'⟩,h5,⟨rfl,rfl⟩,_⟩:=h4
   have hu:=bp u hn
   subst hu
   have Lm:cs=#[.iface u v]:=by
    cases cs;simp_all
   subst Lm
   refine sZ hg h3 rfl fun j v' x hv hx=>?_
   cases j with
   | zero =>
    simp only[ah9,ah',ahM] at hv hx
    subst hv hx
    exact⟨.iface _ _ _ (.any _ (dY _ (pb 0 _ _ (by simp) (by rw[World.var?_cell hg h3 0];rfl)))),fun n hn=>by cases hn⟩
   | succ j=>simp at hx
  ·cases h4
theorem GP{P:Program}{W:World}{name:String}{l:List (String × DataW Unit)}{ss:List (List UInt8)}{g:Nat}{t e:TypeId}(h:laidMetH P l W)(hm:(name,.slice (ss.map fun s=>.lit (.string s)) [])∈l)
  (hg:P.globalNamed name=some g) (I5:(P.globals[g]?).map (·.type)=some t) (ht:P.underlying t=some (.slice e)) (he:P.underlying e=some .string) (YT:P.cellsOf e=1) (cS:0<ss.length):pE W g [.slice (strs ss) false]:=by
 obtain⟨g',t',cs,fuel,p,h1,h2,h3,h4⟩:=rC h hm rfl
 obtain rfl:=aiM (hg.symm.trans h1)
 obtain rfl:=aiM (I5.symm.trans h2)
 obtain⟨a,cap,fq,hlc,VT⟩:=open_row ht YT h4
 rw[aie] at fq hlc
 have Lm:cs=#[.slice (some a) ss.length cap]:=by cases cs;simp_all
 subst Lm
 refine sZ hg h3 rfl fun j v x hv hx=>?_
 cases j with
 | succ j=>simp at hx
 | zero =>
  simp only[ah9,ah',ahM] at hv hx
  subst hv hx
  have iN:∀ i,∀ s,ss[i]?=some s->∃ b:ByteArray,b.data.toList=s/\W.cell? (a.add i)=some (.string b):=by
   intro i s hs
   obtain⟨v,n,q,k1,k2⟩:=VT i (.lit (.string s)) (by rw[ah2,hs];rfl)
   obtain⟨b,k3,k4,_⟩:=DataW.trod_string he k2
   simp only[ahN,DataW.lit.injEq,Lit.string.injEq,ajG,ai9] at k3 k4
   subst k3
   exact⟨b,k4.1.symm,k1⟩
  obtain⟨b,o,sb⟩:=a
  have hsb:sb=none:=by
   obtain⟨s0,_,k2⟩:=iN 0 ss[0] (ahP cS)
   have e0:(Addr.mk b o sb).add 0=⟨b,o,sb⟩:=by simp[Addr.add]
   rw[e0] at k2
   cases sb with
   | none=>rfl
   | some z =>
    unfold World.cell? at k2
    split at k2
    ·simp at k2
    ·cases k2
  subst hsb
  have sG:∀ (i:Nat) (r:List AV),(strs ss)[i]?=some r->∃ s,ss[i]?=some s/\r=[.str s]:=by
   intro i r hr
   rw[strs,ah2] at hr
   cases hk:ss[i]? with
   | none=>rw[hk] at hr;cases hr
   | some s=>rw[hk] at hr;injection hr with hr;exact⟨s,rfl,hr.symm⟩
  have jb:∀ i s,ss[i]?=some s->∃ B:ByteArray,W.cell? ⟨b,o+i*1+0,none⟩=some (.string B)/\B.data.toList=s:=by
   intro i s hs
   obtain⟨B,k1,k2⟩:=iN i s hs
   have Lh:(Addr.mk b o none).add i=⟨b,o+i*1+0,none⟩:=by
    unfold Addr.add
    split
    ·rename_i h0;subst h0;simp
    ·simp
   rw[Lh] at k2
   exact⟨B,k2,k1⟩
  refine⟨.slice b o _ cap 1 _ (fun i j=>(W.cell? ⟨b,o+i*1+0,none⟩).getD .nilIface) (by rw[strs,aie]) hlc ?_ ?_ ?_,fun n hn=>by cases hn⟩
  ·intro i r hr
   obtain⟨s,_,rfl⟩:=sG i r hr
   rfl
  ·intro i j r x hr hx
   obtain⟨s,hs,rfl⟩:=sG i r hr
   cases j with
   | succ j=>simp at hx
   | zero =>
    obtain⟨B,k1,_⟩:=jb i s hs
    rw[k1]
    exact⟨.inl ⟨_,k1,rfl,fun n hn=>by cases hn⟩,rfl,rfl⟩
  ·intro i j r x hr hx
   obtain⟨s,hs,rfl⟩:=sG i r hr
   cases j with
   | succ j=>simp at hx
   | zero =>
    obtain⟨B,k1,k2⟩:=jb i s hs
    rw[k1]
    simp only[ah',ahM] at hx
    subst hx
    exact .str _ _ k2
def rowOf(q:Lit × DataW Unit):List AV :=
 match q with
 | (.string k,.agg [.lit (.int .i64 a),.lit (.int .i64 b)])=>[.str k,.int .i64 a,.int .i64 b]
 | _=>[]
theorem O9{P:Program}{W:World}{name:String}{l:List (String × DataW Unit)}{L:List (Lit × DataW Unit)}{g:Nat}{t k e:TypeId}{f0 f1:Field}(h:laidMetH P l W)(hm:(name,.map L)∈l)
  (hg:P.globalNamed name=some g) (I5:(P.globals[g]?).map (·.type)=some t) (ht:P.underlying t=some (.map k e)) (hk:P.underlying k=some .string) (he:P.underlying e=some (.struct #[f0,f1]))
  (YT:P.cellsOf e=2) (hf0:P.underlying f0.type=some (.int .i64)) (hf1:P.underlying f1.type=some (.int .i64)) (Ud:P.cellsOf f0.type=1) (hc1:P.cellsOf f1.type=1) (ho0:f0.offset=0) (Qn:f1.offset=1)
  (hL:∀ q∈L,∃ k a b,q=(.string k,.agg [.lit (.int .i64 a),.lit (.int .i64 b)])):pE W g [.l9 1 false true (L.map rowOf)]:=by
 obtain⟨g',t',cs,fuel,p,h1,h2,h3,h4⟩:=rC h hm rfl
 obtain rfl:=aiM (hg.symm.trans h1)
 obtain rfl:=aiM (I5.symm.trans h2)
 rcases WideElems.open_map ht h4 with ⟨_,hx⟩|⟨b,es,ck,n,rfl,fq,hb,_,F,hx⟩
 ·simp at hx
 have Lm:cs=#[.map (some b)]:=by cases cs;simp_all
 subst Lm
 injection hx with hx hp
 injection hx with hx
 have x5:(es.toList.map (WideElems.rg P k (WideElems.elemAt (fun _=>()) P W 0 (fun _=>true) false n e))).Perm L:=by rw[hx];exact (WideShapes.sorted_perm _).symm
 have each:∀ x∈es.toList,∃ (s:ByteArray) (a c:Int),x.key=.string s/\x.val=.agg #[.int .i64 a,.int .i64 c]/\rowOf (WideElems.rg P k (WideElems.elemAt (fun _=>()) P W 0 (fun _=>true) false n e) x)=[.str s.data.toList,.int .i64 a,.int .i64 c]:=by
  intro x Y6
  obtain⟨k0,a,c,hq⟩:=hL _ (x5.mem_iff.1 (List.mem_map_of_mem Y6))
  obtain⟨y,hy⟩:=F.reads x Y6
  rw[WideElems.rg_of hy] at hq ⊢
  subst hq
  have Pn:=WideElems.rd_key hy
  obtain⟨z,hz,hz2⟩:=WideElems.rd_val hy
  unfold WideElems.elemAt at hz
  split at hz
  ·rename_i Hm
   obtain⟨y0,y1,m,rfl,hl,g0,g1⟩:=ChangeShapes.trod_struct2 he hz
   rw[Ud,ho0] at g0
   rw[hc1,Qn] at g1
   have fY:∃ c0 c1,x.val=.agg #[c0,c1]:=by
    unfold Value.formed at Hm
    rw[he] at Hm
    cases hv:x.val<;>rw[hv] at Hm hl<;>simp_all
    rename_i cs
    obtain⟨cl⟩:=cs
    match cl,Hm with
    | [c0,c1],_=>exact⟨c0,c1,rfl⟩
   obtain⟨c0,c1,fY⟩:=fY
   rw[fY] at g0 g1
   simp only[Value.cells,ai2,aiU,aiN,ajr] at g0 g1
   obtain⟨a',e1,e2,_⟩:=DataW.trod_int hf0 g0
   obtain⟨c',e3,e4,_⟩:=DataW.trod_int hf1 g1
   simp only[ajG,ai9] at e1 e3
   subst e1 e3 e2 e4
   simp only[DataW.agg.injEq,ajG,ai9,DataW.lit.injEq,Lit.int.injEq,akk] at hz2
   obtain⟨rfl,rfl⟩:=hz2
   have ac5:∃ s:ByteArray,x.key=.string s/\s.data.toList=k0:=by
    cases Pp:x.key<;>simp[keyOf,hk,mapKey,Pp] at Pn
    exact⟨_,rfl,Pn.2⟩
   obtain⟨s,k1,rfl⟩:=ac5
   exact⟨s,_,_,k1,fY,rfl⟩
  ·cases hz
 refine sZ hg h3 rfl fun j v x hv mG=>?_
 cases j with
 | succ j=>simp at mG
 | zero =>
  simp only[ah9,ah',ahM] at hv mG
  subst hv mG
  refine⟨.l9 b 1 false true _ ((es.toList.map (WideElems.rg P k (WideElems.elemAt (fun _=>()) P W 0 (fun _=>true) false n e))).map rowOf) es ck
   (fun i j=>match es[i]? with|some x=>(match j with|0=>x.key|j+1=>(x.val.cells[j]?).getD .nilIface)|none=>.nilIface) (.inr ⟨_,_,hb⟩) hb ⟨by simp,?_,?_,?_⟩ (x5.map rowOf) ?_,fun n hn=>by cases hn⟩
  ·intro i x rr
   exact ((stamped_iff es ck).1 F.stamped).1 x (by have:=ajK rr;simpa using this)
  ·intro i j x y rr hy1 Ht
   have Ho:=((stamped_iff es ck).1 F.stamped).2.1
   have hi:i<(es.toList.map (·.born)).length:=by
    have:=(ahT.1 rr).1
    simpa using this
   refine (List.getElem?_inj hi Ho).1 ?_
   rw[ah2,ah2,aik,aik,rr,hy1]
   simp only[ah0,Ht]
  ·intro i x r rr hr
   have Y6:x∈es.toList:=by
    have:=ajK rr
    simpa using this
   obtain⟨s,a,c,k1,k2,k3⟩:=each x Y6
   rw[ajh,ah2,aik,rr] at hr
   simp only[ah0,Function.comp_apply,ahM] at hr
   rw[k3] at hr
   subst hr
   refine⟨by simp,fun _=>rfl,fun h=>(by cases h),?_,?_⟩
   ·simp[n8,rr]
   ·simp[n8,rr,k2,Value.cells,List.range_succ]
  ·intro i j r x hr rr
   rw[ajh,ah2,aik] at hr
   cases hx2:es[i]? with
   | none=>rw[hx2] at hr;cases hr
   | some y =>
    rw[hx2] at hr
    have Y6:y∈es.toList:=by
     have:=ajK hx2
     simpa using this
    obtain⟨s,a,c,k1,k2,k3⟩:=each y Y6
    simp only[ah0,Function.comp_apply,ahM] at hr
    rw[k3] at hr
    subst hr
    match j with
    | 0=>simp only[ah',ahM] at rr;subst rr;simp only[k1];exact .str _ _ rfl
    | 1=>simp only[ah',aiL,ahM] at rr;subst rr;simp only[k2,Value.cells];exact .int _ _
    | 2=>simp only[ah',aiL,ahM] at rr;subst rr;simp only[k2,Value.cells];exact .int _ _
    | j+3=>simp at rr
end
end Go.Abs
namespace Go.Proofs.YtocbgffdpfiidaaGreatDoor
open Go Go.Abs Go.Proofs Go.RowKit
def mj:List (String × DataW Unit):=Rows.printScansRow.laid
theorem Je{W:World}(h:laidMetH Tryz.prog mj W):pE W 0 (HN 0):=by
 obtain⟨g,t,cs,fuel,p,hg,ht,hv,hd⟩:=h.funcs (n:= "splicery/lex.kinds") (d:=.agg [.agg [.iface "func" (.lit (.string [115,112,108,105,99,101,114,121,47,108,101,120,46,108,101,116,116,101,114])),.iface "func" (.lit (.string [115,112,108,105,99,101,114,121,47,108,101,120,46,101,105,116,104,101,114]))],.agg [.iface "func" (.lit (.string [115,112,108,105,99,101,114,121,47,108,101,120,46,100,105,103,105,116])),.iface "func" (.lit (.string [115,112,108,105,99,101,114,121,47,108,101,120,46,100,105,103,105,116]))]]) (by simp[mj,Rows.printScansRow,Rows.laid_splicery_lex_kinds])
 have FN:Tryz.prog.globalNamed "splicery/lex.kinds"=some 0:=by kernel_rfl
 have ht0:(Tryz.prog.globals[0]?).map (·.type)=some 129:=by kernel_rfl
 obtain rfl:=aiM (FN.symm.trans hg)
 obtain rfl:=aiM (ht0.symm.trans ht)
 have u97:Tryz.prog.underlying 129=some (.array 2 128):=by kernel_rfl
 have u96:Tryz.prog.underlying 128=some (.array 2 127):=by kernel_rfl
 have c96:Tryz.prog.cellsOf 128=2:=by kernel_rfl
 have c97:Tryz.prog.cellsOf 129=4:=by kernel_rfl
 have c91:Tryz.prog.cellsOf 127=1:=by kernel_rfl
 obtain⟨xs,m,rfl,hx,hlen,hn,VT⟩:=DataW.trod_array u97 hd
 injection hx with hx hp
 rw[c97] at hlen
 obtain⟨l⟩:=cs
 simp only at hlen VT hv
 match l,hlen with
 | [v0,v1,v2,v3],_ =>
 match xs,hn with
 | [x0,x1],_ =>
 have e0:=VT 0 (by omega)
 have e1:=VT 1 (by omega)
 simp only[c96,akp,ai2,aiU,aiN,ah',aiL,akt,ajr] at e0 e1
 simp only[DataW.funcsOut,DataW.funcsOutAll,ah1,ah3,DataW.agg.injEq,ajG,ai9,beq_self_eq_true,ai3] at hx
 obtain⟨qE,rr⟩:=hx
 obtain⟨ys,k,rfl,hy,_,hyn,aaC⟩:=DataW.trod_array u96 e0
 obtain⟨zs,k',pz,hz,_,hzn,aaE⟩:=DataW.trod_array u96 e1
 rw[hy] at qE
 rw[hz] at rr
 match ys,hyn with
 | [y0,y1],_ =>
 match zs,hzn with
 | [z0,z1],_ =>
 have f0:=aaC 0 (by omega)
 have f1:=aaC 1 (by omega)
 have g0:=aaE 0 (by omega)
 have g1:=aaE 1 (by omega)
 simp only[c91,akp,ai2,aiU,aiN,ah',aiL,akt,ajr] at f0 f1 g0 g1
 simp only[ah1,ah3,DataW.agg.injEq,ajG,ai9] at qE rr
 obtain⟨a0,q0⟩:=y0
 obtain⟨a1,q1⟩:=y1
 obtain⟨b0,r0⟩:=z0
 obtain⟨b1,r1⟩:=z1
 simp only at qE rr
 obtain⟨rfl,rfl⟩:=qE
 obtain⟨rfl,rfl⟩:=rr
 obtain rfl:=func_of_trod (f0:=100) (show Tryz.prog.underlying 127=some (.func #[5] #[4] false) by kernel_rfl) (by kernel_rfl) f0
 obtain rfl:=func_of_trod (f0:=187) (show Tryz.prog.underlying 127=some (.func #[5] #[4] false) by kernel_rfl) (by kernel_rfl) f1
 obtain rfl:=func_of_trod (f0:=188) (show Tryz.prog.underlying 127=some (.func #[5] #[4] false) by kernel_rfl) (by kernel_rfl) g0
 obtain rfl:=func_of_trod (f0:=188) (show Tryz.prog.underlying 127=some (.func #[5] #[4] false) by kernel_rfl) (by kernel_rfl) g1
 refine sZ FN hv rfl fun j v x hj hx=>?_
 match j with
 | 0=>simp only[ah9,ah',ahM,HN] at hj hx;subst hj hx;exact⟨.func _,fun n h=>by cases h⟩
 | 1=>simp only[ah9,ah',aiL,ahM,HN] at hj hx;subst hj hx;exact⟨.func _,fun n h=>by cases h⟩
 | 2=>simp only[ah9,ah',aiL,ahM,HN] at hj hx;subst hj hx;exact⟨.func _,fun n h=>by cases h⟩
 | 3=>simp only[ah9,ah',aiL,ahM,HN] at hj hx;subst hj hx;exact⟨.func _,fun n h=>by cases h⟩
 | k+4=>simp at hj
theorem By{W:World}(h:laidMetH Tryz.prog mj W){name:String}{d:DataW Unit}{g:Nat}(hm:(name,.iface "*errors.errorString" (.ptr d))∈mj)(hg:Tryz.prog.globalNamed name=some g)
  (I5:(Tryz.prog.globals[g]?).map (·.type)=some 94):pE W g [.iface yM .any]:=by
 refine TG (nm:= "*errors.errorString") h hm (by rfl) hg I5 (show Tryz.prog.underlying 94=some (.interface #[("Error",56)]) by kernel_rfl) (fun u hu=>typeName_ptr_named (nm:= "errors.errorString") (tp:=210) (by kernel_rfl) (by kernel_rfl) (by decide) u hu) ?_
 intro v hv
 simp only[Value.okWide,show Tryz.prog.underlying yM=some (.pointer 212) by kernel_rfl,Cell.okWide,Cell.ok] at hv
 cases v<;>simp_all [Value.oneCell']
def opsL:List (Lit × DataW Unit):=[(.string [37],.agg [.lit (.int .i64 4),.lit (.int .i64 6)]),(.string [42],.agg [.lit (.int .i64 2),.lit (.int .i64 6)]),(.string [43],.agg [.lit (.int .i64 0),.lit (.int .i64 5)]),(.string [45],.agg [.lit (.int .i64 1),.lit (.int .i64 5)]),(.string [47],.agg [.lit (.int .i64 3),.lit (.int .i64 6)]),(.string [60],.agg [.lit (.int .i64 5),.lit (.int .i64 3)]),(.string [61,61],.agg [.lit (.int .i64 6),.lit (.int .i64 3)]),(.string [97,110,100],.agg [.lit (.int .i64 7),.lit (.int .i64 2)]),(.string [106,111,105,110],.agg [.lit (.int .i64 10),.lit (.int .i64 4)]),(.string [111,114],.agg [.lit (.int .i64 8),.lit (.int .i64 1)])]
theorem TH{W:World}(h:laidMetH Tryz.prog mj W):∀ g,A.aP g≠[]->pE W g (A.aP g):=by
 intro g hg
 match g with
 | 0=>exact Je h
 | 1=>exact Dg (ss:=jf) (name:= "splicery/lex.signs") h (ahZ (i:=5) rfl) (g:=1) (n:=18) (t:=130) (e:=9) (by kernel_rfl) (by kernel_rfl) (by kernel_rfl) (by kernel_rfl) (by kernel_rfl) (by kernel_rfl)
 | 2=>exact GP (ss:=qp) (name:= "splicery/syntax.kinds") h (ahZ (i:=9) rfl) (g:=2) (t:=23) (e:=9) (by kernel_rfl) (by kernel_rfl) (by kernel_rfl) (by kernel_rfl) (by kernel_rfl) (by decide)
 | 3=>exact Dg (ss:=dP) (name:= "splicery/lex.keywords") h (ahZ (i:=7) rfl) (g:=3) (n:=27) (t:=159) (e:=9) (by kernel_rfl) (by kernel_rfl) (by kernel_rfl) (by kernel_rfl) (by kernel_rfl) (by kernel_rfl)
 | 4=>exact O9 (L:=opsL) (name:= "splicery/syntax.operators") h (ahZ (i:=8) rfl) (g:=4) (t:=171) (k:=9) (e:=169) (f0:=⟨ "op",3,0,false,"","splicery/syntax",0⟩) (f1:=⟨ "level",3,1,false,"","splicery/syntax",8⟩) (by kernel_rfl) (by kernel_rfl) (by kernel_rfl) (by kernel_rfl) (by kernel_rfl) (by kernel_rfl) (by kernel_rfl) (by kernel_rfl) (by kernel_rfl) (by kernel_rfl) (by rfl) (by rfl) (by intro q hq;simp only[opsL,aii,ajz,akw] at hq;rcases hq with h|h|h|h|h|h|h|h|h|h<;>exact⟨_,_,_,h⟩)
 | 5=>exact absurd rfl hg
 | 6=>exact O' (k:=.u64) (zs:=Lib.pow10Tab) (name:= "internal/strconv.uint64pow10") (fun h=>by cases h) h (ahZ (i:=2) rfl) (g:=6) (n:=20) (t:=194) (e:=181) (by kernel_rfl) (by kernel_rfl) (by kernel_rfl) (by kernel_rfl) (by kernel_rfl) (by kernel_rfl)
 | 7=>exact By h (name:= "strconv.ErrSyntax") (d:=.agg [.lit (.string [105,110,118,97,108,105,100,32,115,121,110,116,97,120])]) (ahZ (i:=4) rfl) (by kernel_rfl) (by kernel_rfl)
 | 8=>exact By h (name:= "strconv.ErrRange") (d:=.agg [.lit (.string [118,97,108,117,101,32,111,117,116,32,111,102,32,114,97,110,103,101])]) (ahZ (i:=3) rfl) (by kernel_rfl) (by kernel_rfl)
 | 9=>exact absurd rfl hg
 | 10=>exact absurd rfl hg
 | k+11=>exact absurd rfl hg
theorem aee{W:World}(h:laidMetH Tryz.prog mj W):aF A.aP W.heap.size [] (gr W) W:=JO (TH h)
end Go.Proofs.YtocbgffdpfiidaaGreatDoor
