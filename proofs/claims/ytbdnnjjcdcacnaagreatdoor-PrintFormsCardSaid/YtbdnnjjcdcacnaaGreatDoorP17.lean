/-
  A part of the proof of PrintForms: AbsOKF, AbsClose, AbsSeatF.
-/
import Derived.ProofKit
import Derived.LaidMore
import Derived.Carry
import Derived.ChangeMaps5
import Derived.OpenShut
import Derived.Lib.LaidTab
import Derived.Deep.Strs
import Derived.Test.YtbdnnjjcdcacnaaGreatDoorCards
import Derived.Test.YtbdnnjjcdcacnaaGreatDoorTie
import Derived.Test.YtbdnnjjcdcacnaaGreatDoorP16
import Derived.Test.YtbdnnjjcdcacnaaGreatDoorP10
set_option linter.unusedSimpArgs false
set_option linter.unusedVariables false
set_option linter.defProp false
set_option maxRecDepth 100000
namespace Go.Proofs.YtbdnnjjcdcacnaaGreatDoor
open Go Go.Abs Go.Proofs
theorem fo{f:FuncId}{fn:Func}{i nI:aJ}(h:Tryz.prog.funcs[f]?=some fn)(k:bK fn i=some i)(e:some i=some nI):∃ fn ct locals muts,Tryz.prog.funcs[f]?=some fn/\oY Tryz.prog ct locals muts fn=some nI:=by
 injection e with e
 subst e
 exact⟨_,_,_,_,h,k⟩
theorem OV(f:FuncId)(nI:aJ)(h:fns f=some nI):∃ fn ct locals muts,Tryz.prog.funcs[f]?=some fn/\oY Tryz.prog ct locals muts fn=some nI:=by
 unfold fns at h
 split at h
 ·exact fo Tryz.func3 aa9 h
 ·exact fo Tryz.func4 aa' h
 ·exact fo Tryz.func5 abe h
 ·exact fo Tryz.func6 abo h
 ·exact fo Tryz.func7 abp h
 ·exact fo Tryz.func8 abr h
 ·exact fo Tryz.func9 abv h
 ·exact fo Tryz.func10 Uw h
 ·exact fo Tryz.func11 Ux h
 ·exact fo Tryz.func12 Uz h
 ·exact fo Tryz.func13 UA h
 ·exact fo Tryz.func14 UB h
 ·exact fo Tryz.func15 UC h
 ·exact fo Tryz.func16 UD h
 ·exact fo Tryz.func17 UE h
 ·exact fo Tryz.func18 UF h
 ·exact fo Tryz.func19 UG h
 ·exact fo Tryz.func20 UH h
 ·exact fo Tryz.func21 UI h
 ·exact fo Tryz.func22 UJ h
 ·exact fo Tryz.func23 UK h
 ·exact fo Tryz.func24 UL h
 ·exact fo Tryz.func25 UM h
 ·exact fo Tryz.func26 UN h
 ·exact fo Tryz.func27 UO h
 ·exact fo Tryz.func28 UP h
 ·exact fo Tryz.func29 UQ h
 ·exact fo Tryz.func30 UR h
 ·exact fo Tryz.func31 US h
 ·exact fo Tryz.func32 UT h
 ·exact fo Tryz.func33 UU h
 ·exact fo Tryz.func34 UW h
 ·exact fo Tryz.func35 UX h
 ·exact fo Tryz.func36 UY h
 ·exact fo Tryz.func37 UZ h
 ·exact fo Tryz.func38 U0 h
 ·exact fo Tryz.func39 U1 h
 ·exact fo Tryz.func40 U2 h
 ·exact fo Tryz.func41 U3 h
 ·exact fo Tryz.func42 U4 h
 ·exact fo Tryz.func43 U5 h
 ·exact fo Tryz.func44 U6 h
 ·exact fo Tryz.func45 U7 h
 ·exact fo Tryz.func46 U8 h
 ·exact fo Tryz.func48 U9 h
 ·exact fo Tryz.func49 U' h
 ·exact fo Tryz.func50 Va h
 ·exact fo Tryz.func51 Vb h
 ·exact fo Tryz.func52 Vc h
 ·exact fo Tryz.func54 Vd h
 ·exact fo Tryz.func55 Ve h
 ·exact fo Tryz.func56 Vf h
 ·exact fo Tryz.func57 Vg h
 ·exact fo Tryz.func58 Vh h
 ·exact fo Tryz.func59 Vi h
 ·exact fo Tryz.func60 Vj h
 ·exact fo Tryz.func61 Vk h
 ·exact fo Tryz.func62 Vl h
 ·exact fo Tryz.func63 Vm h
 ·exact fo Tryz.func64 Vn h
 ·exact fo Tryz.func65 Vo h
 ·exact fo Tryz.func66 Vp h
 ·exact fo Tryz.func67 Vq h
 ·exact fo Tryz.func68 Vr h
 ·exact fo Tryz.func69 Vs h
 ·exact fo Tryz.func70 Vt h
 ·exact fo Tryz.func71 Vu h
 ·exact fo Tryz.func72 Vv h
 ·exact fo Tryz.func73 Vw h
 ·exact fo Tryz.func74 Vx h
 ·exact fo Tryz.func75 Vy h
 ·exact fo Tryz.func76 Vz h
 ·exact fo Tryz.func77 VA h
 ·exact fo Tryz.func79 VB h
 ·exact fo Tryz.func80 VC h
 ·exact fo Tryz.func81 VD h
 ·exact fo Tryz.func82 VE h
 ·exact fo Tryz.func83 VF h
 ·exact fo Tryz.func84 VG h
 ·exact fo Tryz.func86 VH h
 ·exact fo Tryz.func87 VI h
 ·exact fo Tryz.func88 VJ h
 ·exact fo Tryz.func89 VK h
 ·exact fo Tryz.func90 VL h
 ·exact fo Tryz.func91 VM h
 ·exact fo Tryz.func92 VN h
 ·exact fo Tryz.func93 VO h
 ·exact fo Tryz.func94 VP h
 ·exact fo Tryz.func95 VQ h
 ·exact fo Tryz.func96 VS h
 ·exact fo Tryz.func97 VT h
 ·exact fo Tryz.func98 VU h
 ·exact fo Tryz.func99 VV h
 ·exact fo Tryz.func100 PF h
 ·exact fo Tryz.func101 PH h
 ·exact fo Tryz.func102 PJ h
 ·exact fo Tryz.func103 PL h
 ·exact fo Tryz.func104 PN h
 ·exact fo Tryz.func106 PQ h
 ·exact fo Tryz.func107 PT h
 ·exact fo Tryz.func108 PU h
 ·exact fo Tryz.func109 PV h
 ·exact fo Tryz.func110 PY h
 ·exact fo Tryz.func111 PZ h
 ·exact fo Tryz.func112 P0 h
 ·exact fo Tryz.func113 P1 h
 ·exact fo Tryz.func114 P2 h
 ·exact fo Tryz.func116 P3 h
 ·exact fo Tryz.func117 P4 h
 ·exact fo Tryz.func119 P5 h
 ·exact fo Tryz.func120 P6 h
 ·exact fo Tryz.func121 P7 h
 ·exact fo Tryz.func122 Gp h
 ·exact fo Tryz.func123 P8 h
 ·exact fo Tryz.func124 P9 h
 ·exact fo Tryz.func125 Qa h
 ·exact fo Tryz.func126 Qb h
 ·exact fo Tryz.func127 Qd h
 ·exact fo Tryz.func128 Qf h
 ·exact fo Tryz.func129 Qh h
 ·exact fo Tryz.func130 Qk h
 ·exact fo Tryz.func131 Qm h
 ·exact fo Tryz.func133 Qn h
 ·exact fo Tryz.func138 Qo h
 ·exact fo Tryz.func139 Qp h
 ·exact fo Tryz.func140 Qr h
 ·exact fo Tryz.func142 Qt h
 ·exact fo Tryz.func150 Qw h
 ·exact fo Tryz.func151 Qy h
 ·exact fo Tryz.func154 QA h
 ·exact fo Tryz.func155 QC h
 ·exact fo Tryz.func156 QE h
 ·exact fo Tryz.func159 QG h
 ·exact fo Tryz.func165 QJ h
 ·exact fo Tryz.func191 QL h
 ·exact fo Tryz.func192 QM h
 ·cases h
theorem abQ(f:FuncId)(g:List AV->ah->Option (AV × Option gJ))(h:ov0 f=some g):iQ Tryz.prog HZ f g:=by
 unfold ov0 at h
 split at h
 ·injection h with h;subst h;exact uZ
 ·injection h with h;subst h;exact yV
 ·injection h with h;subst h;exact xY
 ·injection h with h;subst h;exact wF
 ·injection h with h;subst h;exact uF
 ·injection h with h;subst h;exact xM
 ·cases h
theorem La:oB Tryz.prog A0:=⟨by kernel_rfl,OV,abQ⟩
theorem Rz:iQ Tryz.prog HZ 12 C7:=by
 have h:=ZT La 59 12
 intro args H r c he
 unfold C7 at he
 split at he
 ·injection he with he
  injection he with e1 e2
  subst e1 e2
  exact h _ _ _ _ MM
 ·cases he
theorem Sy:iQ Tryz.prog HZ 122 rW:=Nc La Tryz.func122 Gp
theorem afJ(f:FuncId)(g:List AV->ah->Option (AV × Option gJ))(h:ov f=some g):iQ Tryz.prog HZ f g:=by
 unfold ov at h
 split at h
 ·injection h with h;subst h;exact Rz
 ·injection h with h;subst h;exact Sy
 ·injection h with h;subst h;exact uZ
 ·injection h with h;subst h;exact yV
 ·injection h with h;subst h;exact xY
 ·injection h with h;subst h;exact wF
 ·injection h with h;subst h;exact uF
 ·injection h with h;subst h;exact xM
 ·cases h
theorem abR:oB Tryz.prog A:=⟨by kernel_rfl,OV,afJ⟩
end Go.Proofs.YtbdnnjjcdcacnaaGreatDoor
namespace Go.Abs
open Go Go.RowKit Go.ChangeShapes Go.WideShapes Go.ChangeMaps Go.MapKept
section
theorem agM{n:Int}(h:(Lit.int .i64 n).wf=true):zO n:=by
 have h1:IntKind.i64.min=-9223372036854775808:=rfl
 have h2:IntKind.i64.max=9223372036854775807:=rfl
 simp only[Lit.wf,aod,aov,h1,h2] at h
 exact h
def iV(W:World):Gh:={ S:=fun b o=>(∃ v,W.cell? ⟨b,o,none⟩=some v/\v.oneCell'=true/\∀ n,v≠.int .u8 n)\/(∃ E ck,W.heap[b]?=some (.map E ck)),κ:=fun _=>.none,ρ:=fun _=>0 }
theorem Tx{W:World}{b o:Nat}{v:Value}(h:W.cell? ⟨b,o,none⟩=some v):b<W.heap.size:=by
 rcases apL b W.heap.size with h'|h'
 ·exact h'
 ·simp[World.cell?,apF h'] at h
theorem agO{G:Nat->List AV}{W:World}(hg:∀ (g j:Nat) (x:AV),(G g)[j]?=some x->∃ v,W.cell? ⟨g,j,none⟩=some v/\PR (iV W).S W v x/\∀ n,v≠.int .u8 n)
  (ht:∀ g,G g≠[]->∃ ty,pC W g ty (G g).length):aX G W.heap.size [] (iV W) W where
 size:=aoa _
 nW:=fun b o h=>by
  rcases h with ⟨v,h,_⟩|⟨E,ck,h⟩
  ·exact Tx h
  ·exact (aoi.1 h).1
 oL:=fun b h=>absurd rfl h
 aZ:=fun g j x h=>by
  obtain⟨v,h1,h2,h3⟩:=hg g j x h
  exact⟨v,h1,h2,.inl ⟨v,h1,h2.fw,h3⟩⟩
 boxes:=fun loc ty cs h=>by simp at h
 refs:=fun loc ty cs h=>by simp at h
 xf:=ht
 bytes:=fun b o n h hc=>by
  rcases h with ⟨v,h,_,h3⟩|⟨E,ck,h⟩
  ·rw[h] at hc
   injection hc with hc
   exact absurd hc (h3 n)
  ·simp only[World.cell?,h] at hc
   cases hc
 more:=fun loc o h=>by simp at h
 types:=fun loc ty cs h=>by simp at h
theorem Tl{gh:Gh}{n:Nat}{w:World}{p:bC}{v:Value}{b:Bool}(h:CR gh n w p v (.bool b)):v=.bool b:=by
 rcases h with h|⟨e,h,_⟩
 ·cases h with
  | plain v x h=>cases h;rfl
 ·cases h
theorem V1{P:Program}{A:AP}(hA:oB P A){f:FuncId}{xs:List AV}(h:aD A f xs []=some (.bool true,none)){W:World}(hW:aX A.aZ W.heap.size [] (iV W) W)
  {vs:Array Value} (hs:vs.size=xs.length) (hv:∀ (j:Nat) (v:Value) (x:AV),vs[j]?=some v->xs[j]?=some x->PR (iV W).S W v x) :
  Calls P f vs W fun e W'=>e=.returned (.bool true)/\Below W.heap.size W W':=by
 obtain⟨n,hn⟩:=nf.1 h
 obtain⟨_,_,hc⟩:=vC hA n f xs [] _ _ hn
 refine (hc W.heap.size (iV W) W vs hW (fun b=>.inl rfl) hs (fun j v x h1 h2=>.inl (.plain _ _ (hv j v x h1 h2)))).mono fun e W' ⟨v,aV,he,r⟩=>?_
 refine⟨by rw[he,Tl r.val],r.st.os,r.st.tape,r.st.output,r.st.size,fun k hk=>?_⟩
 obtain⟨h1,_,_⟩:=r.st.AF k hk (by
  intro ht
  simp only[gV,iV] at ht
  rcases ht with ⟨l,ht⟩|⟨l,j,ht⟩|⟨j,ht⟩<;>cases ht)
 rcases h1 with h1|⟨C,ty,lo,hi,lo',lD,k1,_,⟨o,m,⟨v',h2,_,h3⟩|⟨E,ck,h2⟩,hm⟩,_⟩
 ·exact h1
 rotate_left
 ·rw[k1] at h2;cases h2
 ·exfalso
  have:W.cell? ⟨k,o,none⟩=some (.int .u8 m):=by
   simp only[World.cell?,k1];exact hm
  rw[this] at h2
  injection h2 with h2
  exact h3 m h2.symm
theorem sL{H:Type}{enc:TypeId × Value->H}{P:Program}(hl:laidOutB P=true){W W' : World}(hb:Below W.heap.size W W'){sp:Nat->Bool} :
  ∀ {ts:List TypeId} {vs:List Value} {ds:List (DataW H)} {ps:List MemPlace},(ts.all fun t=>P.readableRec t&&decide (t<P.types.size))=true->DataW.TrodAll enc P W 0 (fun _=>true) true ts vs ds ps ->
   (∀ x∈ps,x.block<W.heap.size)->(∀ p∈ps,sp p.block=true)->DataW.TrodAll enc P W' 0 sp true ts vs ds ps
 | [],[],[],_,_,h,_,_=>h
 | t :: ts,v :: vs,d :: ds,ps,ht,⟨p,q,h1,h2,e⟩,bf,hs=>by
  simp only[ao6,aod] at ht
  exact⟨p,q,WideElems.Trod_stays hl ht.1.1 (of_decide_eq_true ht.1.2) h1 (fun x hx=>hb.same (bf x (by rw[e];exact apM _ hx))) (fun x hx=>hs x (by rw[e];exact apM _ hx)),
   sL hl hb ht.2 h2 (fun x hx=>bf x (by rw[e];exact aqi _ hx)) (fun x hx=>hs x (by rw[e];exact aqi _ hx)),e⟩
theorem Ru{H:Type}{enc:TypeId × Value->H}{P:Program}(hl:laidOutB P=true){f:Func}{s:ChangeSpec}{W W' : World}{args:Array Value}{ds gs:List (DataW H)}{before:List MemPlace}{tb:TypeId}
  (hW:DataW.Whole enc P f.params.toList s.vars false W args.toList ds gs before) (hb:Below W.heap.size W W') (hv:s.vars=[])
  (hts:(f.params.toList.all fun t=>P.readableRec t&&decide (t<P.types.size))=true) (hr:f.resultTypes=#[tb]) (ht:P.underlying tb=some .bool)
  (tq:(s.fn H (ds++gs)).results=[.lit (.bool true)]) (ft:(s.fn H (ds++gs)).args=ds) (afk:(s.fn H (ds++gs)).vars=[]) :
  s.post enc P f false true false false W args (.bool true) W':=by
 have lW:=hW
 obtain⟨p,q,hA,hV,he,hfz,KS⟩:=hW
 rw[hv] at hV
 obtain⟨rfl,rfl⟩:=trodVars_none hV
 have bf:∀ x∈before,x.block<W.heap.size:=fun x hx=>by simpa using lW.lt x hx
 subst he
 refine⟨ds,[],p++[],[],p,[],lW,?_,?_,?_,World.keptBut_mono (fun x hx=>hx.elim) (hb.frame fun _=>False),fun h=>by cases h⟩
 ·rw[tq,hr]
  exact trodAll_mk1 (shut_bool ht true)
 ·rw[ft]
  exact sL hl hb hts hA (fun x hx=>bf x (apM _ hx)) (fun x hx=>by simpa using bf x (apM _ hx))
 ·rw[afk,hv];rfl
section
variable {H:Type}{enc:TypeId × Value->H}{P:Program}{W:World}{sp:Nat->Bool}{hd:Bool}{b0:Nat}{t e:TypeId}{v:Value}{d:DataW H}{p:List MemPlace}
theorem BS(ht:P.underlying t=some (.int .i64))(iA:Value.okWide P W .any b0 t v)(h:DataW.Trod enc P W 0 sp hd t v d p) :
  ∃ n:Int,d=.lit (.int .i64 n)/\zO n/\PR (iV W).S W v (.int .i64 n):=by
 obtain⟨n,rfl,rfl,rfl,hw⟩:=open_int ht iA h
 exact⟨n,rfl,agM hw,.int _ _⟩
theorem zw(ht:P.underlying t=some (.slice e))(iA:Value.okWide P W .any b0 t v):v=.slice none 0 0\/∃ b o len cap,v=.slice (some ⟨b,o,none⟩) len cap/\len<=cap:=by
 simp only[Value.okWide,ht,Cell.okWide,Cell.ok] at iA
 split at iA
 case h_7=>exact .inl rfl
 case h_9 e' a len cap hh =>
  obtain⟨h1,_,_,h3,_⟩:=iA
  obtain⟨b,o,s⟩:=a
  simp only at h3
  subst h3
  exact .inr ⟨b,o,len,cap,rfl,h1⟩
 all_goals first|(simp_all;done)|exact iA.elim
theorem N4(ht:P.underlying t=some (.slice e))(he:P.underlying e=some (.int .i64))(hc:P.cellsOf e=1)(iA:Value.okWide P W .any b0 t v)(h:DataW.Trod enc P W 0 sp hd t v d p) :
  ∃ (l:List Int) (rest:List (DataW H)),((d=.nil/\l=[])\/d=.slice (lits .i64 l) rest)/\(∀ n∈l,zO n)/\PR (iV W).S W v (.slice (ints l) false):=by
 obtain⟨fuel,hf⟩:=h
 rcases open_ints ht he hc hf with ⟨gC,hx⟩|⟨a,len,cap,zs,gC,_,hlc,_,Ti,hx,cx,hwf⟩
 ·injection hx with hd' hp
  rcases zw ht iA with rfl|⟨b,o,len,cap,rfl,_⟩
  ·exact⟨[],[],.inl ⟨hd',rfl⟩,fun _ h=>(apK h).elim,.dw⟩
  ·simp[Value.cells] at gC
 ·injection hx with hd' hp
  rcases zw ht iA with rfl|⟨b,o,MK,tU,rfl,_⟩
  ·simp[Value.cells] at gC
  ·simp only[Value.cells,apN,Value.slice.injEq,an2,apD] at gC
   obtain⟨rfl,rfl,rfl⟩:=gC
   have aks:MK<=zs.length:=by rw[Ti];split<;>omega
   have hI:∀ n∈zs,zO n:=fun n hn=>agM (hwf n hn)
   have vI:∀ (i:Nat) (r:List AV),(ints (zs.take MK))[i]?=some r->i<MK/\r=[.int .i64 (zs.getD i 0)]:=by
    intro i r hr
    rw[PC,aoC] at hr
    split at hr
    ·rename_i hi
     have Ak:i<zs.length:=by omega
     rw[an' Ak] at hr
     simp only[aok,an2] at hr
     exact⟨hi,by rw[<- hr,ao0,an' Ak];rfl⟩
    ·simp at hr
   refine⟨zs.take MK,lits .i64 (zs.drop MK),.inr hd',fun n hn=>hI n (apx hn),.slice b o MK tU 1 _ (fun i j=>.int .i64 (zs.getD i 0)) ?_ hlc ?_ ?_ ?_⟩
   ·rw[nJ,List.length_take];omega
   ·intro i r hr
    rw[(vI i r hr).2];rfl
   ·intro i j r x hr hx
    obtain⟨hi,rfl⟩:=vI i r hr
    have hj:j=0:=by
     cases j with
     | zero=>rfl
     | succ j=>simp at hx
    subst hj
    have Aj:=cx i (by omega)
    have O3:(Addr.mk b o none).add i=⟨b,o+i*1+0,none⟩:=by
     unfold Addr.add
     split
     ·rename_i h0;subst h0;simp
     ·simp
    have gR:W.cell? ⟨b,o+i*1+0,none⟩=some (.int .i64 (zs.getD i 0)):=by rw[<- O3];exact Aj
    exact⟨.inl ⟨_,gR,rfl,fun n hn=>by cases hn⟩,gR,rfl⟩
   ·intro i j r x hr hx
    obtain⟨hi,rfl⟩:=vI i r hr
    cases j with
    | zero =>
     simp only[aoB,an2] at hx
     subst hx
     exact .int _ _
    | succ j=>simp at hx
end
def sx(W:World)(g:Nat)(xs:List AV):Prop :=
 (∃ ty,pC W g ty xs.length)/\∀ (j:Nat) (x:AV),xs[j]?=some x->∃ v,W.cell? ⟨g,j,none⟩=some v/\PR (iV W).S W v x/\∀ n,v≠.int .u8 n
theorem Nq{G:Nat->List AV}{W:World}(h:∀ g,G g≠[]->sx W g (G g)):aX G W.heap.size [] (iV W) W:=by
 refine agO (fun g j x hx=>?_) (fun g hg=>(h g hg).1)
 exact (h g (fun h=>by rw[h] at hx;simp at hx)).2 j x hx
theorem vZ{P:Program}{W:World}{name:String}{g:Nat}{cs:Array Value}{xs:List AV}(hg:P.globalNamed name=some g)(hv:W.var? P name=some cs)(hl:cs.size=xs.length)
  (h:∀ (j:Nat) (v:Value) (x:AV),cs[j]?=some v->xs[j]?=some x->PR (iV W).S W v x/\∀ n,v≠.int .u8 n):sx W g xs:=by
 have hv0:=hv
 simp only[World.var?,hg,aoe] at hv
 refine⟨?_,fun j x hx=>?_⟩
 ·split at hv
  ·rename_i C ty fr hC
   injection hv with hv
   exact⟨ty,C,fr,hC,by rw[hv,hl]⟩
  ·cases hv
 ·have bf:j<cs.size:=by rw[hl];exact (an9.1 hx).1
  exact⟨cs[j],by rw[World.var?_cell hg hv0 j,aop bf],h j _ x (aop bf) hx⟩
theorem uK{P:Program}{W:World}{n:String}{d:DataW Unit} : ∀ {l:List (String × DataW Unit)} {ps:List MemPlace},DataW.LaidVars P W l ps->(n,d)∈l ->
  ∃ g t cs fuel p,P.globalNamed n=some g/\(P.globals[g]?).map (·.type)=some t/\W.var? P n=some cs/\DataW.trod (fun _=>()) P W 0 (fun _=>true) false fuel t cs.toList=some (d,p)/\∀ x∈MemPlace.row ⟨g,0,none⟩ cs.size,x∈ps
 | [],_,_,hm=>(apK hm).elim
 | (n',d') :: r,ps,⟨g,t,cs,fuel,p,q,h1,h2,h3,h4,hr,he⟩,hm=>by
  rcases aoN.1 hm with hm|hm
  ·injection hm with e1 e2
   subst e1 e2
   exact⟨g,t,cs,fuel,p,h1,h2,h3,h4,fun x hx=>by rw[he];exact apM _ (apM _ hx)⟩
  ·obtain⟨g',t',cs',aed,p',k1,k2,k3,k4,k5⟩:=uK hr hm
   exact⟨g',t',cs',aed,p',k1,k2,k3,k4,fun x hx=>by rw[he];exact aqi _ (k5 x hx)⟩
theorem Bh{P:Program}{W:World}{n:String}{d:DataW Unit}{l:List (String × DataW Unit)}(h:laidMetH P l W)(hm:(n,d)∈l)(hd:d.handleName?.isNone=true) :
  ∃ g t cs fuel p,P.globalNamed n=some g/\(P.globals[g]?).map (·.type)=some t/\W.var? P n=some cs/\DataW.trod (fun _=>()) P W 0 (fun _=>true) false fuel t cs.toList=some (d,p) /\
   ∀ j u v,j<cs.size->W.cell? ⟨g,j,none⟩=some (.iface u v)->Value.okWide P W .any 0 u v:=by
 have key:∀ l',laidMet P l' W->(n,d)∈l'->∃ g t cs fuel p,P.globalNamed n=some g/\(P.globals[g]?).map (·.type)=some t/\W.var? P n=some cs/\DataW.trod (fun _=>()) P W 0 (fun _=>true) false fuel t cs.toList=some (d,p) /\
   ∀ j u v,j<cs.size->W.cell? ⟨g,j,none⟩=some (.iface u v)->Value.okWide P W .any 0 u v:=by
  rintro l' ⟨ps,hv,_,lL⟩ YE
  obtain⟨g,t,cs,fuel,p,h1,h2,h3,h4,h5⟩:=uK hv YE
  exact⟨g,t,cs,fuel,p,h1,h2,h3,h4,fun j u v hj hc=>(lL g j (h5 _ (by simp only[MemPlace.row];simpa using hj))).2 u v hc⟩
 unfold laidMetH at h
 split at h
 ·exact key _ h hm
 ·exact key _ h.1 (aqU.2 ⟨hm,hd⟩)
theorem uL{P:Program}{W:World}{n:String}{d:DataW Unit}{l:List (String × DataW Unit)}(h:laidMetH P l W)(hm:(n,d)∈l)(hd:d.handleName?.isNone=true) :
  ∃ g t cs fuel p,P.globalNamed n=some g/\(P.globals[g]?).map (·.type)=some t/\W.var? P n=some cs/\DataW.trod (fun _=>()) P W 0 (fun _=>true) false fuel t cs.toList=some (d,p):=by
 obtain⟨g,t,cs,fuel,p,h1,h2,h3,h4,_⟩:=Bh h hm hd
 exact⟨g,t,cs,fuel,p,h1,h2,h3,h4⟩
theorem G1{cs:List Value}{i:Nat}{v:Value}(h:(cs.drop (i*1)).take 1=[v]):cs[i]?=some v:=by
 have:((cs.drop (i*1)).take 1)[0]?=some v:=by rw[h];rfl
 simpa [aoC,aoU] using this
theorem HE{P:Program}{W:World}{name:String}{l:List (String × DataW Unit)}{ss:List (List UInt8)}{g n:Nat}{t e:TypeId}(h:laidMetH P l W)(hm:(name,.agg (ss.map fun s=>.lit (.string s)))∈l)
  (hg:P.globalNamed name=some g) (Mv:(P.globals[g]?).map (·.type)=some t) (ht:P.underlying t=some (.array n e)) (he:P.underlying e=some .string) (hce:P.cellsOf e=1) (hct:P.cellsOf t=n):sx W g (ss.map .str):=by
 obtain⟨g',t',cs,fuel,p,h1,h2,h3,h4⟩:=uL h hm rfl
 obtain rfl:=apt (hg.symm.trans h1)
 obtain rfl:=apt (Mv.symm.trans h2)
 obtain⟨xs,m,rfl,hx,hlen,hn,Uc⟩:=DataW.trod_array ht h4
 injection hx with hx hp
 injection hx with hx
 have uD:ss.length=n:=by
  have:=apS List.length hx
  simpa [hn] using this
 refine vZ hg h3 (by rw[aoA,uD,<- hct,<- hlen];exact (aqP).symm) fun j v x hv oK=>?_
 have hj:j<n:=by
  have:=(an9.1 oK).1
  simpa [uD] using this
 have w7:=Uc j hj
 rw[hce] at w7
 rw[an' (show j<xs.length by omega)] at w7
 obtain⟨s,h5,h6,_⟩:=DataW.trod_string he w7
 have sE:cs.toList[j]?=some v:=by rw[aoX];exact hv
 rw[G1 h5] at sE
 injection sE with sE
 have h7:(ss.map fun s=>(DataW.lit (.string s):DataW Unit))[j]?=some (.lit (.string s.data.toList)):=by
  rw[hx,aor,an' (show j<xs.length by omega),h6];rfl
 rw[aor] at h7 oK
 cases hs:ss[j]? with
 | none=>rw[hs] at oK;cases oK
 | some b =>
  rw[hs] at h7 oK
  simp only[aok,an2,DataW.lit.injEq,Lit.string.injEq] at h7 oK
  subst oK sE
  exact⟨.str _ _ h7.symm,fun n hn=>by cases hn⟩
theorem SK{P:Program}{W:World}{name:String}{l:List (String × DataW Unit)}{k:IntKind}{zs:List Int}{g n:Nat}{t e:TypeId}(hk:k≠.u8)(h:laidMetH P l W)(hm:(name,.agg (zs.map fun z=>.lit (.int k z)))∈l)
  (hg:P.globalNamed name=some g) (Mv:(P.globals[g]?).map (·.type)=some t) (ht:P.underlying t=some (.array n e)) (he:P.underlying e=some (.int k)) (hce:P.cellsOf e=1) (hct:P.cellsOf t=n):sx W g (zs.map (.int k)):=by
 obtain⟨g',t',cs,fuel,p,h1,h2,h3,h4⟩:=uL h hm rfl
 obtain rfl:=apt (hg.symm.trans h1)
 obtain rfl:=apt (Mv.symm.trans h2)
 have gC:=Lib.cells_of_tab ht he hce hct h4
 have gO:cs.size=zs.length:=by rw[<- aqP,gC,aoA]
 refine vZ hg h3 (by rw[aoA,gO]) fun j v x hv hx=>?_
 rw[<- aoX,gC] at hv
 rw[aor] at hv hx
 cases hz:zs[j]? with
 | none=>rw[hz] at hv;cases hv
 | some z =>
  rw[hz] at hv hx
  simp only[aok,an2] at hv hx
  subst hv hx
  exact⟨.int _ _,fun n hn=>by injection hn with h1 h2;exact hk h1⟩
theorem XH{P:Program}{W:World}{name nm:String}{l:List (String × DataW Unit)}{d:DataW Unit}{g:Nat}{t te:TypeId}{ms:Array (String × TypeId)}(h:laidMetH P l W)(hm:(name,.iface nm d)∈l)
  (hd:(DataW.iface nm d).handleName?.isNone=true) (hg:P.globalNamed name=some g) (Mv:(P.globals[g]?).map (·.type)=some t) (ht:P.underlying t=some (.interface ms)) (bN:∀ u,P.typeName? 3 u=some nm->u=te)
  (fY:∀ v,Value.okWide P W .any 0 te v->v.oneCell'=true):sx W g [.iface te .any]:=by
 obtain⟨g',t',cs,fuel,p,h1,h2,h3,h4,lL⟩:=Bh h hm hd
 obtain rfl:=apt (hg.symm.trans h1)
 obtain rfl:=apt (Mv.symm.trans h2)
 cases fuel with
 | zero=>simp[DataW.trod] at h4
 | succ fuel =>
  unfold DataW.trod at h4
  rw[ht] at h4
  split at h4<;>try (rename_i hh _;cases hh;done)
  all_goals first|(simp_all;done)|skip
  rename_i u v gC hh
  split at h4
  ·cases h4
  ·rename_i nm' hn
   simp only[an0,an7,DataW.iface.injEq] at h4
   obtain⟨⟨d',p'⟩,h5,⟨rfl,rfl⟩,_⟩:=h4
   have hu:=bN u hn
   subst hu
   have O8:cs=#[.iface u v]:=by
    cases cs;simp_all
   subst O8
   refine vZ hg h3 rfl fun j v' x hv hx=>?_
   cases j with
   | zero =>
    simp only[aoE,aoB,an2] at hv hx
    subst hv hx
    exact⟨.iface _ _ _ (.any _ (fY _ (lL 0 _ _ (by simp) (by rw[World.var?_cell hg h3 0];rfl)))),fun n hn=>by cases hn⟩
   | succ j=>simp at hx
  ·cases h4
theorem Kk{P:Program}{W:World}{name:String}{l:List (String × DataW Unit)}{ss:List (List UInt8)}{g:Nat}{t e:TypeId}(h:laidMetH P l W)(hm:(name,.slice (ss.map fun s=>.lit (.string s)) [])∈l)
  (hg:P.globalNamed name=some g) (Mv:(P.globals[g]?).map (·.type)=some t) (ht:P.underlying t=some (.slice e)) (he:P.underlying e=some .string) (hce:P.cellsOf e=1) (dn:0<ss.length):sx W g [.slice (strs ss) false]:=by
 obtain⟨g',t',cs,fuel,p,h1,h2,h3,h4⟩:=uL h hm rfl
 obtain rfl:=apt (hg.symm.trans h1)
 obtain rfl:=apt (Mv.symm.trans h2)
 obtain⟨a,cap,gC,hlc,Uc⟩:=open_row ht hce h4
 rw[aoA] at gC hlc
 have O8:cs=#[.slice (some a) ss.length cap]:=by cases cs;simp_all
 subst O8
 refine vZ hg h3 rfl fun j v x hv hx=>?_
 cases j with
 | succ j=>simp at hx
 | zero =>
  simp only[aoE,aoB,an2] at hv hx
  subst hv hx
  have jN:∀ i,∀ s,ss[i]?=some s->∃ b:ByteArray,b.data.toList=s/\W.cell? (a.add i)=some (.string b):=by
   intro i s hs
   obtain⟨v,n,q,k1,k2⟩:=Uc i (.lit (.string s)) (by rw[aor,hs];rfl)
   obtain⟨b,k3,k4,_⟩:=DataW.trod_string he k2
   simp only[an7,DataW.lit.injEq,Lit.string.injEq,apN,apD] at k3 k4
   subst k3
   exact⟨b,k4.1.symm,k1⟩
  obtain⟨b,o,sb⟩:=a
  have hsb:sb=none:=by
   obtain⟨s0,_,k2⟩:=jN 0 ss[0] (an' dn)
   have e0:(Addr.mk b o sb).add 0=⟨b,o,sb⟩:=by simp[Addr.add]
   rw[e0] at k2
   cases sb with
   | none=>rfl
   | some z =>
    unfold World.cell? at k2
    split at k2
    ·simp at k2
    ·cases k2
  subst hsb
  have vI:∀ (i:Nat) (r:List AV),(strs ss)[i]?=some r->∃ s,ss[i]?=some s/\r=[.str s]:=by
   intro i r hr
   rw[strs,aor] at hr
   cases hk:ss[i]? with
   | none=>rw[hk] at hr;cases hr
   | some s=>rw[hk] at hr;injection hr with hr;exact⟨s,rfl,hr.symm⟩
  have jW:∀ i s,ss[i]?=some s->∃ B:ByteArray,W.cell? ⟨b,o+i*1+0,none⟩=some (.string B)/\B.data.toList=s:=by
   intro i s hs
   obtain⟨B,k1,k2⟩:=jN i s hs
   have O3:(Addr.mk b o none).add i=⟨b,o+i*1+0,none⟩:=by
    unfold Addr.add
    split
    ·rename_i h0;subst h0;simp
    ·simp
   rw[O3] at k2
   exact⟨B,k2,k1⟩
  refine⟨.slice b o _ cap 1 _ (fun i j=>(W.cell? ⟨b,o+i*1+0,none⟩).getD .nilIface) (by rw[strs,aoA]) hlc ?_ ?_ ?_,fun n hn=>by cases hn⟩
  ·intro i r hr
   obtain⟨s,_,rfl⟩:=vI i r hr
   rfl
  ·intro i j r x hr hx
   obtain⟨s,hs,rfl⟩:=vI i r hr
   cases j with
   | succ j=>simp at hx
   | zero =>
    obtain⟨B,k1,_⟩:=jW i s hs
    rw[k1]
    exact⟨.inl ⟨_,k1,rfl,fun n hn=>by cases hn⟩,rfl,rfl⟩
  ·intro i j r x hr hx
   obtain⟨s,hs,rfl⟩:=vI i r hr
   cases j with
   | succ j=>simp at hx
   | zero =>
    obtain⟨B,k1,k2⟩:=jW i s hs
    rw[k1]
    simp only[aoB,an2] at hx
    subst hx
    exact .str _ _ k2
def rowOf(q:Lit × DataW Unit):List AV :=
 match q with
 | (.string k,.agg [.lit (.int .i64 a),.lit (.int .i64 b)])=>[.str k,.int .i64 a,.int .i64 b]
 | _=>[]
theorem SJ{P:Program}{W:World}{name:String}{l:List (String × DataW Unit)}{L:List (Lit × DataW Unit)}{g:Nat}{t k e:TypeId}{f0 f1:Field}(h:laidMetH P l W)(hm:(name,.map L)∈l)
  (hg:P.globalNamed name=some g) (Mv:(P.globals[g]?).map (·.type)=some t) (ht:P.underlying t=some (.map k e)) (hk:P.underlying k=some .string) (he:P.underlying e=some (.struct #[f0,f1]))
  (hce:P.cellsOf e=2) (hf0:P.underlying f0.type=some (.int .i64)) (xt:P.underlying f1.type=some (.int .i64)) (Nz:P.cellsOf f0.type=1) (hc1:P.cellsOf f1.type=1) (ho0:f0.offset=0) (ho1:f1.offset=1)
  (hL:∀ q∈L,∃ k a b,q=(.string k,.agg [.lit (.int .i64 a),.lit (.int .i64 b)])):sx W g [.nC 1 false true (L.map rowOf)]:=by
 obtain⟨g',t',cs,fuel,p,h1,h2,h3,h4⟩:=uL h hm rfl
 obtain rfl:=apt (hg.symm.trans h1)
 obtain rfl:=apt (Mv.symm.trans h2)
 rcases WideElems.open_map ht h4 with ⟨_,hx⟩|⟨b,es,ck,n,rfl,gC,hb,_,F,hx⟩
 ·simp at hx
 have O8:cs=#[.map (some b)]:=by cases cs;simp_all
 subst O8
 injection hx with hx hp
 injection hx with hx
 have A7:(es.toList.map (WideElems.rg P k (WideElems.elemAt (fun _=>()) P W 0 (fun _=>true) false n e))).Perm L:=by rw[hx];exact (WideShapes.sorted_perm _).symm
 have each:∀ x∈es.toList,∃ (s:ByteArray) (a c:Int),x.key=.string s/\x.val=.agg #[.int .i64 a,.int .i64 c]/\rowOf (WideElems.rg P k (WideElems.elemAt (fun _=>()) P W 0 (fun _=>true) false n e) x)=[.str s.data.toList,.int .i64 a,.int .i64 c]:=by
  intro x hxm
  obtain⟨k0,a,c,hq⟩:=hL _ (A7.mem_iff.1 (List.mem_map_of_mem hxm))
  obtain⟨y,hy⟩:=F.reads x hxm
  rw[WideElems.rg_of hy] at hq ⊢
  subst hq
  have vK:=WideElems.rd_key hy
  obtain⟨z,hz,hz2⟩:=WideElems.rd_val hy
  unfold WideElems.elemAt at hz
  split at hz
  ·rename_i KP
   obtain⟨y0,y1,m,rfl,hl,g0,g1⟩:=ChangeShapes.trod_struct2 he hz
   rw[Nz,ho0] at g0
   rw[hc1,ho1] at g1
   have iA:∃ c0 c1,x.val=.agg #[c0,c1]:=by
    unfold Value.formed at KP
    rw[he] at KP
    cases hv:x.val<;>rw[hv] at KP hl<;>simp_all
    rename_i cs
    obtain⟨cl⟩:=cs
    match cl,KP with
    | [c0,c1],_=>exact⟨c0,c1,rfl⟩
   obtain⟨c0,c1,iA⟩:=iA
   rw[iA] at g0 g1
   simp only[Value.cells,apc,apr,aoV,apO] at g0 g1
   obtain⟨a',e1,e2,_⟩:=DataW.trod_int hf0 g0
   obtain⟨c',e3,e4,_⟩:=DataW.trod_int xt g1
   simp only[apN,apD] at e1 e3
   subst e1 e3 e2 e4
   simp only[DataW.agg.injEq,apN,apD,DataW.lit.injEq,Lit.int.injEq,aqI] at hz2
   obtain⟨rfl,rfl⟩:=hz2
   have aio:∃ s:ByteArray,x.key=.string s/\s.data.toList=k0:=by
    cases Td:x.key<;>simp[keyOf,hk,mapKey,Td] at vK
    exact⟨_,rfl,vK.2⟩
   obtain⟨s,k1,rfl⟩:=aio
   exact⟨s,_,_,k1,iA,rfl⟩
  ·cases hz
 refine vZ hg h3 rfl fun j v x hv oK=>?_
 cases j with
 | succ j=>simp at oK
 | zero =>
  simp only[aoE,aoB,an2] at hv oK
  subst hv oK
  refine⟨.nC b 1 false true _ ((es.toList.map (WideElems.rg P k (WideElems.elemAt (fun _=>()) P W 0 (fun _=>true) false n e))).map rowOf) es ck
   (fun i j=>match es[i]? with|some x=>(match j with|0=>x.key|j+1=>(x.val.cells[j]?).getD .nilIface)|none=>.nilIface) (.inr ⟨_,_,hb⟩) hb ⟨by simp,?_,?_,?_⟩ (A7.map rowOf) ?_,fun n hn=>by cases hn⟩
  ·intro i x uE
   exact ((stamped_iff es ck).1 F.stamped).1 x (by have:=aqh uE;simpa using this)
  ·intro i j x y uE Us KZ
   have KS:=((stamped_iff es ck).1 F.stamped).2.1
   have hi:i<(es.toList.map (·.born)).length:=by
    have:=(aoi.1 uE).1
    simpa using this
   refine (List.getElem?_inj hi KS).1 ?_
   rw[aor,aor,aoX,aoX,uE,Us]
   simp only[aok,KZ]
  ·intro i x r uE hr
   have hxm:x∈es.toList:=by
    have:=aqh uE
    simpa using this
   obtain⟨s,a,c,k1,k2,k3⟩:=each x hxm
   rw[apE,aor,aoX,uE] at hr
   simp only[aok,Function.comp_apply,an2] at hr
   rw[k3] at hr
   subst hr
   refine⟨by simp,fun _=>rfl,fun h=>(by cases h),?_,?_⟩
   ·simp[qq,uE]
   ·simp[qq,uE,k2,Value.cells,List.range_succ]
  ·intro i j r x hr uE
   rw[apE,aor,aoX] at hr
   cases hx2:es[i]? with
   | none=>rw[hx2] at hr;cases hr
   | some y =>
    rw[hx2] at hr
    have hxm:y∈es.toList:=by
     have:=aqh hx2
     simpa using this
    obtain⟨s,a,c,k1,k2,k3⟩:=each y hxm
    simp only[aok,Function.comp_apply,an2] at hr
    rw[k3] at hr
    subst hr
    match j with
    | 0=>simp only[aoB,an2] at uE;subst uE;simp only[k1];exact .str _ _ rfl
    | 1=>simp only[aoB,apq,an2] at uE;subst uE;simp only[k2,Value.cells];exact .int _ _
    | 2=>simp only[aoB,apq,an2] at uE;subst uE;simp only[k2,Value.cells];exact .int _ _
    | j+3=>simp at uE
end
end Go.Abs
namespace Go.Proofs.YtbdnnjjcdcacnaaGreatDoor
open Go Go.Abs Go.Proofs Go.RowKit
def ow:List (String × DataW Unit):=Rows.printFormsRow.laid
theorem MH{W:World}(h:laidMetH Tryz.prog ow W):sx W 2 (HZ 2):=by
 obtain⟨g,t,cs,fuel,p,hg,ht,hv,hd⟩:=h.funcs (n:= "splicery/lex.kinds") (d:=.agg [.agg [.iface "func" (.lit (.string [115,112,108,105,99,101,114,121,47,108,101,120,46,108,101,116,116,101,114])),.iface "func" (.lit (.string [115,112,108,105,99,101,114,121,47,108,101,120,46,101,105,116,104,101,114]))],.agg [.iface "func" (.lit (.string [115,112,108,105,99,101,114,121,47,108,101,120,46,100,105,103,105,116])),.iface "func" (.lit (.string [115,112,108,105,99,101,114,121,47,108,101,120,46,100,105,103,105,116]))]]) (by simp[ow,Rows.printFormsRow,Rows.laid_splicery_lex_kinds])
 have Jk:Tryz.prog.globalNamed "splicery/lex.kinds"=some 2:=by kernel_rfl
 have ht0:(Tryz.prog.globals[2]?).map (·.type)=some 176:=by kernel_rfl
 obtain rfl:=apt (Jk.symm.trans hg)
 obtain rfl:=apt (ht0.symm.trans ht)
 have u97:Tryz.prog.underlying 176=some (.array 2 175):=by kernel_rfl
 have u96:Tryz.prog.underlying 175=some (.array 2 166):=by kernel_rfl
 have c96:Tryz.prog.cellsOf 175=2:=by kernel_rfl
 have c97:Tryz.prog.cellsOf 176=4:=by kernel_rfl
 have c91:Tryz.prog.cellsOf 166=1:=by kernel_rfl
 obtain⟨xs,m,rfl,hx,hlen,hn,Uc⟩:=DataW.trod_array u97 hd
 injection hx with hx hp
 rw[c97] at hlen
 obtain⟨l⟩:=cs
 simp only at hlen Uc hv
 match l,hlen with
 | [v0,v1,v2,v3],_ =>
 match xs,hn with
 | [x0,x1],_ =>
 have e0:=Uc 0 (by omega)
 have e1:=Uc 1 (by omega)
 simp only[c96,aqA,apc,apr,aoV,aoB,apq,ap8,apO] at e0 e1
 simp only[DataW.funcsOut,DataW.funcsOutAll,aoh,aol,DataW.agg.injEq,apN,apD,aqu,apB] at hx
 obtain⟨yK,uE⟩:=hx
 obtain⟨ys,k,rfl,hy,_,hyn,afp⟩:=DataW.trod_array u96 e0
 obtain⟨zs,k',qN,hz,_,hzn,afs⟩:=DataW.trod_array u96 e1
 rw[hy] at yK
 rw[hz] at uE
 match ys,hyn with
 | [y0,y1],_ =>
 match zs,hzn with
 | [z0,z1],_ =>
 have f0:=afp 0 (by omega)
 have f1:=afp 1 (by omega)
 have g0:=afs 0 (by omega)
 have g1:=afs 1 (by omega)
 simp only[c91,aqA,apc,apr,aoV,aoB,apq,ap8,apO] at f0 f1 g0 g1
 simp only[aoh,aol,DataW.agg.injEq,apN,apD] at yK uE
 obtain⟨a0,q0⟩:=y0
 obtain⟨a1,q1⟩:=y1
 obtain⟨b0,r0⟩:=z0
 obtain⟨b1,r1⟩:=z1
 simp only at yK uE
 obtain⟨rfl,rfl⟩:=yK
 obtain⟨rfl,rfl⟩:=uE
 obtain rfl:=func_of_trod (f0:=113) (show Tryz.prog.underlying 166=some (.func #[5] #[4] false) by kernel_rfl) (by kernel_rfl) f0
 obtain rfl:=func_of_trod (f0:=191) (show Tryz.prog.underlying 166=some (.func #[5] #[4] false) by kernel_rfl) (by kernel_rfl) f1
 obtain rfl:=func_of_trod (f0:=192) (show Tryz.prog.underlying 166=some (.func #[5] #[4] false) by kernel_rfl) (by kernel_rfl) g0
 obtain rfl:=func_of_trod (f0:=192) (show Tryz.prog.underlying 166=some (.func #[5] #[4] false) by kernel_rfl) (by kernel_rfl) g1
 refine vZ Jk hv rfl fun j v x hj hx=>?_
 match j with
 | 0=>simp only[aoE,aoB,an2,HZ] at hj hx;subst hj hx;exact⟨.func _,fun n h=>by cases h⟩
 | 1=>simp only[aoE,aoB,apq,an2,HZ] at hj hx;subst hj hx;exact⟨.func _,fun n h=>by cases h⟩
 | 2=>simp only[aoE,aoB,apq,an2,HZ] at hj hx;subst hj hx;exact⟨.func _,fun n h=>by cases h⟩
 | 3=>simp only[aoE,aoB,apq,an2,HZ] at hj hx;subst hj hx;exact⟨.func _,fun n h=>by cases h⟩
 | k+4=>simp at hj
theorem Fz{W:World}(h:laidMetH Tryz.prog ow W){name:String}{d:DataW Unit}{g:Nat}(hm:(name,.iface "*errors.errorString" (.ptr d))∈ow)(hg:Tryz.prog.globalNamed name=some g)
  (Mv:(Tryz.prog.globals[g]?).map (·.type)=some 107):sx W g [.iface BH .any]:=by
 refine XH (nm:= "*errors.errorString") h hm (by rfl) hg Mv (show Tryz.prog.underlying 107=some (.interface #[("Error",62)]) by kernel_rfl) (fun u hu=>typeName_ptr_named (nm:= "errors.errorString") (tp:=219) (by kernel_rfl) (by kernel_rfl) (by decide) u hu) ?_
 intro v hv
 simp only[Value.okWide,show Tryz.prog.underlying BH=some (.pointer 221) by kernel_rfl,Cell.okWide,Cell.ok] at hv
 cases v<;>simp_all [Value.oneCell']
def opsL:List (Lit × DataW Unit):=[(.string [37],.agg [.lit (.int .i64 4),.lit (.int .i64 6)]),(.string [42],.agg [.lit (.int .i64 2),.lit (.int .i64 6)]),(.string [43],.agg [.lit (.int .i64 0),.lit (.int .i64 5)]),(.string [45],.agg [.lit (.int .i64 1),.lit (.int .i64 5)]),(.string [47],.agg [.lit (.int .i64 3),.lit (.int .i64 6)]),(.string [60],.agg [.lit (.int .i64 5),.lit (.int .i64 3)]),(.string [61,61],.agg [.lit (.int .i64 6),.lit (.int .i64 3)]),(.string [97,110,100],.agg [.lit (.int .i64 7),.lit (.int .i64 2)]),(.string [106,111,105,110],.agg [.lit (.int .i64 10),.lit (.int .i64 4)]),(.string [111,114],.agg [.lit (.int .i64 8),.lit (.int .i64 1)])]
theorem XI{W:World}(h:laidMetH Tryz.prog ow W):∀ g,A.aZ g≠[]->sx W g (A.aZ g):=by
 intro g hg
 match g with
 | 0=>exact Kk (ss:=nN) (name:= "splicery/syntax.kinds") h (aoo (i:=9) rfl) (g:=0) (t:=23) (e:=9) (by kernel_rfl) (by kernel_rfl) (by kernel_rfl) (by kernel_rfl) (by kernel_rfl) (by decide)
 | 1=>exact HE (ss:=dZ) (name:= "splicery/lex.keywords") h (aoo (i:=7) rfl) (g:=1) (n:=27) (t:=168) (e:=9) (by kernel_rfl) (by kernel_rfl) (by kernel_rfl) (by kernel_rfl) (by kernel_rfl) (by kernel_rfl)
 | 2=>exact MH h
 | 3=>exact HE (ss:=kF) (name:= "splicery/lex.signs") h (aoo (i:=5) rfl) (g:=3) (n:=18) (t:=177) (e:=9) (by kernel_rfl) (by kernel_rfl) (by kernel_rfl) (by kernel_rfl) (by kernel_rfl) (by kernel_rfl)
 | 4=>exact SJ (L:=opsL) (name:= "splicery/syntax.operators") h (aoo (i:=8) rfl) (g:=4) (t:=185) (k:=9) (e:=187) (f0:=⟨ "op",3,0,false,"","splicery/syntax",0⟩) (f1:=⟨ "level",3,1,false,"","splicery/syntax",8⟩) (by kernel_rfl) (by kernel_rfl) (by kernel_rfl) (by kernel_rfl) (by kernel_rfl) (by kernel_rfl) (by kernel_rfl) (by kernel_rfl) (by kernel_rfl) (by kernel_rfl) (by rfl) (by rfl) (by intro q hq;simp only[opsL,aoN,apK,aqH] at hq;rcases hq with h|h|h|h|h|h|h|h|h|h<;>exact⟨_,_,_,h⟩)
 | 5=>exact SK (k:=.u64) (zs:=Lib.pow10Tab) (name:= "internal/strconv.uint64pow10") (fun h=>by cases h) h (aoo (i:=2) rfl) (g:=5) (n:=20) (t:=191) (e:=180) (by kernel_rfl) (by kernel_rfl) (by kernel_rfl) (by kernel_rfl) (by kernel_rfl) (by kernel_rfl)
 | 6=>exact absurd rfl hg
 | 7=>exact absurd rfl hg
 | 8=>exact absurd rfl hg
 | 9=>exact Fz h (name:= "strconv.ErrSyntax") (d:=.agg [.lit (.string [105,110,118,97,108,105,100,32,115,121,110,116,97,120])]) (aoo (i:=4) rfl) (by kernel_rfl) (by kernel_rfl)
 | 10=>exact Fz h (name:= "strconv.ErrRange") (d:=.agg [.lit (.string [118,97,108,117,101,32,111,117,116,32,111,102,32,114,97,110,103,101])]) (aoo (i:=3) rfl) (by kernel_rfl) (by kernel_rfl)
 | k+11=>exact absurd rfl hg
theorem ajA{W:World}(h:laidMetH Tryz.prog ow W):aX A.aZ W.heap.size [] (iV W) W:=Nq (XI h)
end Go.Proofs.YtbdnnjjcdcacnaaGreatDoor
