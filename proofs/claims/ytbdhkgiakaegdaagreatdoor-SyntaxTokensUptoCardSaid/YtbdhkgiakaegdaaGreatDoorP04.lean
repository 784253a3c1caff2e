/-
  A part of the proof of SyntaxTokens: AbsMap3, AbsMap4, AbsMap5, AbsMap6, AbsArr, AbsCopy, AbsEvOp.
-/
import Derived.Maps.RangeRun
import Derived.Laws.MakeOwn
import Derived.Laws.IdiomCopy
import Derived.WalkSpells
import Derived.Test.YtbdhkgiakaegdaaGreatDoorP03
set_option linter.unusedSimpArgs false
set_option linter.unusedVariables false
set_option linter.defProp false
namespace Go.Abs
section
section
variable {P:Program}{G:Nat->List AV}{base nt:Nat}{L:List Nat}{gh:Gh}{w w' : World}{a:Act}{s:AS}{H:ai}
theorem find_spec{a:List UInt8} : ∀ (es:List (List AV)),(∀ r,r∈es->∃ b,my r=some b)->∃ o,fg [.s] [.str a] es=some o /\
  ((o=none/\∀ r,r∈es->my r≠some a)\/∃ i r,o=some i/\es[i]?=some r/\my r=some a)
 | [],_=>⟨none,rfl,.inl ⟨rfl,fun r h=>by cases h⟩⟩
 | r :: es,h=>by
  obtain⟨b,hb⟩:=h r (aox ..)
  obtain⟨q,rfl⟩:∃ q,r=.str b :: q:=by
   unfold my at hb
   split at hb
   ·injection hb with hb;subst hb;exact⟨_,rfl⟩
   ·cases hb
  obtain⟨o,ho,hs⟩:=find_spec (a:=a) es (fun r hr=>h r (apb _ hr))
  by_cases hab:a=b
  ·subst hab
   exact⟨some 0,by simp[fg,cG],.inr ⟨0,_,rfl,rfl,rfl⟩⟩
  ·have ff:(a==b)=false:=by simpa using hab
   refine⟨o.map (· + 1),by simp[fg,cG,ff,ho],?_⟩
   rcases hs with ⟨rfl,hs⟩|⟨i,r,rfl,h1,h2⟩
   ·refine .inl ⟨rfl,fun r hr=>?_⟩
    rcases aoH.1 hr with rfl|hr
    ·simp only[my];intro h;injection h with h;exact hab h.symm
    ·exact hs r hr
   ·exact .inr ⟨i+1,r,rfl,by simpa using h1,h2⟩
theorem apart_spec:∀ {es:List (List AV)},sR es=true->(∀ r,r∈es->∃ b,my r=some b)/\∀ r r',r∈es->r'∈es->my r=my r'->r=r'
 | [],_=>⟨fun r h=>(by cases h),fun r r' h=>(by cases h)⟩
 | q :: es,h=>by
  simp only[sR,an7] at h
  obtain⟨h1,h2⟩:=h
  obtain⟨i1,i2⟩:=apart_spec h2
  cases hq:my q with
  | none=>rw[hq] at h1;cases h1
  | some a =>
   rw[hq] at h1
   simp only[an'] at h1
   have ff:∀ r,r∈es->my r≠some a:=by
    intro r hr hra
    have:=h1 r hr
    rw[hra] at this
    simp at this
   refine⟨fun r hr=>?_,fun r r' hr BC he=>?_⟩
   ·rcases aoH.1 hr with rfl|hr
    ·exact⟨a,hq⟩
    ·exact i1 r hr
   ·rcases aoH.1 hr with e1|k1<;>rcases aoH.1 BC with e2|k2
    ·rw[e1,e2]
    ·rw[e1] at he;exact absurd (he.symm.trans hq) (ff r' k2)
    ·rw[e2] at he;exact absurd (he.trans hq) (ff r k1)
    ·exact i2 r r' k1 k2 he
theorem MH{a:List UInt8}{es vm:List (List AV)}(hp:vm.Perm es)(ha:sR es=true){o:Option Nat}(hf:fg [.s] [.str a] es=some o)(ok va:Bool)(zero:List AV)(kz:Nat) :
  ∃ o',fg [.s] [.str a] vm=some o'/\o9 ok va zero kz vm o'=o9 ok va zero kz es o:=by
 obtain⟨h1,h2⟩:=apart_spec ha
 obtain⟨o1,e1,s1⟩:=find_spec (a:=a) es h1
 rw[hf] at e1
 injection e1 with e1
 subst e1
 obtain⟨o',e2,s2⟩:=find_spec (a:=a) vm (fun r hr=>h1 r (hp.mem_iff.1 hr))
 refine⟨o',e2,?_⟩
 rcases s1 with ⟨rfl,s1⟩|⟨i,r,rfl,k1,k2⟩
 ·rcases s2 with ⟨rfl,_⟩|⟨i',r',rfl,k1',k2'⟩
  ·rfl
  ·exact absurd k2' (s1 r' (hp.mem_iff.1 (aoh k1')))
 ·rcases s2 with ⟨rfl,s2⟩|⟨i',r',rfl,k1',k2'⟩
  ·exact absurd k2 (s2 r (hp.mem_iff.2 (aoh k1)))
  ·have:r'=r:=h2 r' r (hp.mem_iff.1 (aoh k1')) (aoh k1) (k2'.trans k2.symm)
   subst this
   simp only[o9,List.getD,k1,k1']
theorem TR(hW:bc G base s.H gh w)(hF:FR L nt gh w a s){o:Oper}{t kt et:TypeId}{ks:List CK}{ka va:Bool}{vz:Nat}{zv:Value}{zero:List AV}(hT:Ij P t kt et ks ka va vz zv zero){x i:Operand}{y yi:aC}{ok:Bool}{z:AV}{s' : Option AS}
  (ho:o.op=.lookup t x i ok) (hc:au nt x=some y) (hi:au nt i=some yi) (he:vN s ok ks.length ka va ks zero (y.addr G s.T) (yi.eval G s.T)=some (z,s')) :
  s'=none/\∃ v,(execOp a.eval o).run P w=.ok (.value v) w/\mP gh s.H.length nt w s.T s.gen (gv a) v z:=by
 simp only[vN,anU] at he
 obtain⟨kc,qq,he⟩:=he
 obtain⟨h0,he⟩:=ag he
 simp only[an7,gI,aoq,aoZ] at h0
 obtain⟨hl,vn⟩:=h0
 have N4:aH (yi.eval G s.T)=true:=by rw[<- jJ];exact jd qq
 have hk:=cY hW hF hi rfl N4
 have fin:∀ {M:Value} {zz:AV},a.eval x=M->(∃ v,(Instr.lookup t M (a.eval i) ok).run P w=.ok v w/\VR gh s.H.length w v zz)->∃ v,(execOp a.eval o).run P w=.ok (.value v) w/\mP gh s.H.length nt w s.T s.gen (gv a) v zz:=by
  rintro M zz rfl ⟨v,h1,h2⟩
  exact⟨v,by simp[execOp,ho,h1],.dO h2⟩
 have hm:=arg_val hW hF hc
 split at he
 ·rename_i hM
  simp only[anV,anY] at he
  obtain⟨rfl,rfl⟩:=he
  rw[hM] at hm
  refine⟨rfl,fin (M:=.map none) ?_ (DO hT hk qq hl vn ok)⟩
  generalize a.eval x=V at hm
  cases (hm:VR gh s.H.length w V .dF) with
  | plain _ _ h=>cases h;rfl
 ·rename_i mi mh mF es hM
  obtain⟨h1,qi⟩:=ag he
  clear he
  simp only[anT,anY] at qi
  obtain⟨r,hf,rfl,rfl⟩:=qi
  simp only[an7,gI,aoq,aoZ] at h1
  obtain⟨⟨⟨⟨rfl,rfl⟩,rfl⟩,xx⟩,hsk⟩:=h1
  obtain⟨str,rfl,rfl⟩:∃ str,ks=[.s]/\kc=[.str str]:=by
   unfold V2 at hsk
   split at hsk
   ·exact⟨_,rfl,rfl⟩
   ·cases hsk
  refine⟨rfl,?_⟩
  rw[hM] at hm
  have hp:PR gh.S w (a.eval x) (.ny [CK.s].length ka va es):=by
   generalize a.eval x=V at hm
   cases (hm:VR gh s.H.length w V (.ny [CK.s].length ka va es)) with
   | plain _ _ h=>exact h
  generalize hV:a.eval x=V at hp
  cases hp with
  | ny b _ _ _ _ vm E ck f hS hb hI hpm de =>
   have hE:=hI.size
   have cb:=hI.row
   obtain⟨o',hf',hlk⟩:=MH hpm xx hf ok va zero [CK.s].length
   rw[<- hlk]
   have hR:Rows gh s.H.length w E [CK.s].length ka va vm:=by
    refine⟨hE,fun i e r h1 h2=>⟨f i,(cb i e r h1 h2).2.2.2.1,fun j x hj _=>de i j r x h2 hj⟩,fun i e r h1 h2=>?_⟩
    obtain⟨k1,_,k2,_,k3⟩:=cb i e r h1 h2
    refine⟨k1,k2,_,k3,fun j x hj=>?_⟩
    rw[aoS] at hj
    have:=de i _ r x h2 hj
    exact⟨VR.dropped (.plain _ _ this),this.fR⟩
   exact fin hV (HK hT hk qq hl vn hb hR hf' ok)
 ·simp only[anU,anT,anY] at he
  obtain⟨es,dH,r,hf,rfl,rfl⟩:=he
  refine⟨rfl,?_⟩
  have key:∃ b E ck,a.eval x=.map (some b)/\w.heap[b]?=some (.map E ck)/\Rows gh s.H.length w E ks.length ka va es:=by
   generalize hY:y.addr G s.T=Y at hm dH
   have hp:∀ mi mh mF vm,Y=.fJ mi mh mF vm->PR gh.S w (a.eval x) (.fJ mi mh mF vm):=by
    rintro _ _ _ _ rfl
    generalize a.eval x=V at hm
    cases (hm:VR gh s.H.length w V (.fJ _ _ _ _)) with
    | plain _ _ h=>exact h
   unfold u6 at dH
   split at dH
   ·obtain⟨h1,dH⟩:=ag dH
    injection dH with dH
    subst dH
    simp only[an7,gI,aoq,aoZ] at h1
    obtain⟨⟨rfl,rfl⟩,rfl⟩:=h1
    exact zU (b:=0) (hp _ _ _ _ rfl)
   ·obtain⟨bA,qh⟩:=VR.nC (hm:VR gh s.H.length w (a.eval x) (.mref _))
    split at dH
    ·rename_i hH
     obtain⟨h1,dH⟩:=ag dH
     injection dH with dH
     subst dH
     simp only[an7,gI,aoq,aoZ] at h1
     obtain⟨⟨rfl,rfl⟩,rfl⟩:=h1
     obtain⟨E,ck,hb,hR⟩:=zT (hW.more _ _ hH).1
     exact⟨_,E,ck,qh,hb,hR⟩
    ·rename_i hH
     obtain⟨h1,dH⟩:=ag dH
     injection dH with dH
     subst dH
     simp only[an7,gI,aoq,aoZ] at h1
     obtain⟨⟨rfl,rfl⟩,rfl⟩:=h1
     obtain⟨b,E,ck,hv,hb,hR⟩:=zU (b:=0) (n:=s.H.length) (hW.more _ _ hH:PR gh.S w _ _)
     exact⟨b,E,ck,qh.trans hv,hb,hR⟩
    ·cases dH
   ·cases dH
  obtain⟨b,E,ck,qh,hb,hR⟩:=key
  exact fin qh (HK hT hk qq hl vn hb hR hf ok)
theorem find_eq:∀ {ks:List CK} {kc:List AV} {es:List (List AV)} {i:Nat} {r:List AV},fg ks kc es=some (some i)->es[i]?=some r->cG ks kc r=some true
 | ks,kc,[],i,r,h,_=>by simp[fg] at h
 | ks,kc,q :: es,i,r,h,hr=>by
  simp only[fg,anU] at h
  obtain⟨b,hb,h⟩:=h
  cases b with
  | true=>simp at h;subst h;simp at hr;subst hr;exact hb
  | false =>
   simp only[anZ,anT] at h
   obtain⟨o,ho,h⟩:=h
   cases o with
   | none=>simp at h
   | some j=>simp at h;subst h;exact find_eq ho (by simpa using hr)
theorem A'{n m:Nat}{c:CK}{u v:Value}{x y:AV}(hu:VR gh n w u x)(hv:PR gh.S w v y)(h:cG [c] [x] [y]=some true):Instr.sameBits m v u=true:=by
 cases c<;>cases x<;>try (cases h;done)
 all_goals (cases y<;>try (cases h;done))
 ·obtain rfl:=hu.jM
  cases hv
  simp[cG] at h
  cases m<;>simp[Instr.sameBits,h]
 ·obtain rfl:=hu.ju
  cases hv
  simp only[cG] at h
  obtain⟨h0,h⟩:=ag h
  simp at h h0
  cases m<;>simp[Instr.sameBits,h,h0]
 ·obtain⟨p,rfl,rfl⟩:=hu.jv
  cases hv with
  | str q _ hq =>
   simp[cG] at h
   have:q=p:=by
    cases p;cases q
    congr 1
    exact ap9 (by rw[hq];simp at h ⊢;rw[h])
   subst this
   have hb:(q==q)=true:=show (q.data==q.data)=true by simp
   cases m<;>simp[Instr.sameBits,hb]
theorem Br:∀ {ks:List CK} {X Y:List AV},cG ks X Y=some true->∀ (j:Nat) (c:CK),ks[j]?=some c->∃ x y,X[j]?=some x/\Y[j]?=some y/\cG [c] [x] [y]=some true
 | [],X,Y,h,j,c,hj=>by simp at hj
 | c0 :: ks,X,Y,h,j,c,hj=>by
  have one:∀ (x y:AV) (X' Y' : List AV) (e:Bool),X=x :: X'->Y=y :: Y'->cG [c0] [x] [y]=some e->(cG ks X' Y').map (e&&·)=some true->∃ x y,X[j]?=some x/\Y[j]?=some y/\cG [c] [x] [y]=some true:=by
   rintro x y X' Y' e rfl rfl h1 h2
   simp only[anT,an7] at h2
   obtain⟨b,hb,rfl,rfl⟩:=h2
   cases j with
   | zero=>simp at hj;subst hj;exact⟨x,y,rfl,rfl,h1⟩
   | succ j =>
    obtain⟨x',y',k1,k2,k3⟩:=Br hb j c (by simpa using hj)
    exact⟨x',y',by simpa using k1,by simpa using k2,k3⟩
  cases c0<;>cases X<;>try (cases h;done)
  all_goals (rename_i x X';cases x<;>try (cases h;done))
  all_goals (cases Y<;>try (cases h;done))
  all_goals (rename_i y Y';cases y<;>try (cases h;done))
  ·exact one _ _ _ _ _ rfl rfl (by simp[cG]) h
  ·simp only[cG] at h
   obtain⟨h0,h⟩:=ag h
   exact one _ _ _ _ _ rfl rfl (by simp only[cG,h0,cond_true];simp) h
  ·exact one _ _ _ _ _ rfl rfl (by simp[cG]) h
theorem OF{kt:TypeId}{ks:List CK}{ka:Bool}(hK:Ca P kt ks ka){n:Nat}{kv:Value}{k:AV}{kc:List AV}(hk:VR gh n w kv k)(qq:k.cells=some kc)(hl:kc.length=ks.length)(vn:ka=k.isAgg)
  {v:Value} {r:List AV} (hv:KO gh.S w ks.length ka v r) (he:cG ks kc r=some true):Instr.sameBits 10000 v kv=true:=by
 obtain⟨f,rfl,hf⟩:=hv
 have PI:=Br he
 cases ka with
 | false =>
  have h1:=hK.kz rfl
  obtain⟨c,rfl⟩:=apv.1 h1
  have aaR:kc=[k]:=by
   cases k<;>first|(cases vn;done)|(injection qq with qq;exact qq.symm)|(cases qq;done)
  subst aaR
  obtain⟨x,y,k1,k2,k3⟩:=PI 0 c rfl
  simp at k1
  subst k1
  exact A' hk (hf 0 y k2 (by simp)) k3
 | true =>
  obtain⟨C,rfl⟩:=vx hk vn
  have hC:Row gh n w C kc:=by
   rcases rZ hk qq with ⟨C',e,_,hr⟩|⟨_,h1⟩
   ·injection e with e;subst e;exact hr
   ·simp[Value.oneCell'] at h1
  show Instr.sameBits (9999+1) (.agg ((List.range ks.length).map f).toArray) (.agg C)=true
  simp only[Instr.sameBits,an7,aoZ,an']
  refine⟨by simp[hC.1,hl],fun p hp=>?_⟩
  obtain⟨j,hj⟩:=aoC hp
  rw[apS] at hj
  obtain⟨h1,h2⟩:=hj
  simp only[aol,anT] at h1
  obtain⟨i,hi,N3⟩:=h1
  obtain⟨bA,xO⟩:=an2.1 hi
  simp at bA xO
  subst xO
  have hc:ks[j]?=some ks[j]:=an3 bA
  obtain⟨x,y,k1,k2,k3⟩:=PI j _ hc
  have hu:=hC.2 j p.2 x (by simpa using h2) k1
  obtain⟨p1,p2⟩:=p
  simp only at N3 hu ⊢
  rw[<- N3]
  exact A' hu (hf j y k2 bA) k3
theorem B7{n:Nat}{v:Value}{x:AV}{cs:List AV}(h:VR gh n w v x)(hc:x.cells=some cs):v=qs x.isAgg cs.length (fun j=>v.cells.getD j undef)/\∀ (j:Nat) (y:AV),cs[j]?=some y->VR gh n w (v.cells.getD j undef) y/\(v.cells.getD j undef).oneCell'=true:=by
 have hr:=rE h hc
 refine⟨?_,fun j y hj=>?_⟩
 ·rcases rZ h hc with ⟨C,rfl,rfl,cb⟩|⟨rfl,gT⟩
  ·simp only[qs,AV.isAgg,cond_true,Value.cells]
   congr 1
   refine Array.ext (by simp[cb.1]) (fun i h1 h2=>by simp[h1])
  ·have JB:x.isAgg=false:=by
    cases x<;>first|rfl|skip
    obtain⟨C,rfl,_⟩:=h.ku
    simp[Value.oneCell'] at gT
   have hv:v.cells=#[v]:=by cases v<;>first|rfl|(simp[Value.oneCell'] at gT)
   simp[qs,JB,hv]
 ·have bA:j<v.cells.size:=by rw[hr.1];exact (an2.1 hj).1
  have hv:v.cells[j]?=some v.cells[j]:=aok bA
  obtain⟨h1,h2⟩:=hr.2 j _ y hv hj
  simp only[ap8,hv,ao3]
  exact⟨h1,h2⟩
end
end
section
section
variable {P:Program}{G:Nat->List AV}{base nt:Nat}{L:List Nat}{gh:Gh}{w w' : World}{a:Act}{s:AS}{H:ai}
theorem mV{agg:Bool}{n:Nat}{f g:Nat->Value}(h:∀ j,j<n->f j=g j)(hn:agg=false->0<n):qs agg n f=qs agg n g:=by
 cases agg with
 | true =>
  simp only[qs,cond_true]
  congr 2
  exact aoA fun j hj=>h j (by simpa using hj)
 | false=>exact h 0 (hn rfl)
def mK(E:Array MapEntry)(ck:Nat)(o:Option Nat)(kv vv:Value):Array MapEntry × Nat :=
 match o with
 | none=>(E.push { key:=kv,val:=vv,born:=ck },ck+1)
 | some i=>(E.modify i fun e=>{ e with key:=kv,val:=vv },ck)
theorem Sp{n:Nat}{t kt et:TypeId}{ks:List CK}{ka va:Bool}{vz:Nat}{zv:Value}{zero:List AV}(hT:Ij P t kt et ks ka va vz zv zero){kv vv:Value}{k:AV}{kc:List AV}(hk:VR gh n w kv k)(qq:k.cells=some kc)(hl:kc.length=ks.length)(vn:ka=k.isAgg)
  {b:Nat} {E:Array MapEntry} {ck:Nat} {es:List (List AV)} (hb:w.heap[b]?=some (.map E ck)) (hR:Rows gh n w E ks.length ka va es) {o:Option Nat} (hf:fg ks kc es=some o) :
  (Instr.mapUpdate t (.map (some b)) kv vv).run P w=.ok () (tL w b (mK E ck o kv vv).1 (mK E ck o kv vv).2):=by
 have rM:=wo hT.key hk qq hl vn false
 have N3:=zV hT.key hk qq hl vn (l:=E.toList) (by simpa using hR.size) (fun i e r h1 h2=>hR.key i e r (by simpa using h1) h2) hf
 cases o with
 | none =>
  have hs:=zW (P:=P) (w:=w) (E':=E.push { key:=kv,val:=vv,born:=ck }) (ck':=ck+1) hb
  simp[Instr.mapUpdate,run_underlying hT.ht,getObj,Sem.run,hb]
  simp[rM,N3,mK]
  exact hs
 | some i =>
  have hi:=xI hf
  have hiE:i<E.size:=by rw[hR.size];exact hi
  have hE:E[i]?=some E[i]:=aok hiE
  have he:es[i]?=some es[i]:=an3 hi
  have aey:=OF hT.key hk qq hl vn (hR.key i _ _ hE he) (find_eq hf he)
  have hs:=zW (P:=P) (w:=w) (E':=E.modify i fun e=>{ e with key:=kv,val:=vv }) (ck':=ck) hb
  simp[Instr.mapUpdate,run_underlying hT.ht,getObj,Sem.run,hb]
  simp only[aoi] at N3
  simp[rM,N3,mK,hiE,Instr.keyThatStays,aey]
  exact hs
theorem acR{n l b kz:Nat}{ka va:Bool}{es:List (List AV)}{E:Array MapEntry}{ck:Nat}{f:Nat->Nat->Value}(hW:bc G base H gh w)(hκ:gh.κ b=.hb l)(hS:∀ o,¬ gh.S b o)(hb:w.heap[b]?=some (.map E ck))(hE:Fb E ck kz ka va es f)
  (h1:∀ (i j:Nat) (r:List AV) (x:AV),es[i]?=some r->r[j]?=some x->j<kz->PR gh.S w (f i j) x)
  (h2:∀ (i j:Nat) (r:List AV) (x:AV),es[i]?=some r->r[j]?=some x->kz<=j->(f i j).oneCell'=true/\(va=true->VR gh n w (f i j) x)/\CR gh n w (.hs l i) (f i j) x)
  {kc vc:List AV} {fk fv:Nat->Value} (hkz:kc.length=kz) (vT:ka=false->kz=1) (Ut:va=false->vc.length=1) (N7:∀ (j:Nat) (x:AV),kc[j]?=some x->PR gh.S w (fk j) x)
  {o:Option Nat} (ho:∀ i,o=some i->i<es.length) (hvv:∀ (j:Nat) (x:AV),vc[j]?=some x->(fv j).oneCell'=true/\(va=true->VR gh n w (fv j) x)/\CR gh n w (.hs l (o.getD es.length)) (fv j) x) :
  A6 gh n (tL w b (mK E ck o (qs ka kz fk) (qs va vc.length fv)).1 (mK E ck o (qs ka kz fk) (qs va vc.length fv)).2) b (.hb l) (fun i=>.hs l i) kz ka va (tQ es o (kc++vc)):=by
 have st:=Hi (E':=(mK E ck o (qs ka kz fk) (qs va vc.length fv)).1) (ck':=(mK E ck o (qs ka kz fk) (qs va vc.length fv)).2) hW hb hS n
 rw[hκ] at st
 let idx:=o.getD es.length
 let f' : Nat->Nat->Value:=fun i j=>if i=idx then (if j<kz then fk j else fv (j-kz)) else f i j
 have cb:∀ i r,(tQ es o (kc++vc))[i]?=some r->(i=idx/\r=kc++vc)\/(i≠idx/\es[i]?=some r):=by
  intro i r hr
  cases o with
  | none =>
   simp only[tQ] at hr
   by_cases bA:i<es.length
   ·rw[aot bA] at hr
    exact .inr ⟨by show i≠es.length;omega,hr⟩
   ·rw[aou (by omega)] at hr
    have hz:i=es.length:=by
     have:=(an2.1 hr).1
     simp at this;omega
    subst hz
    simp at hr
    exact .inl ⟨rfl,hr.symm⟩
  | some i0 =>
   simp only[tQ] at hr
   rw[ao8] at hr
   split at hr
   ·rename_i e
    subst e
    split at hr
    ·injection hr with hr
     exact .inl ⟨rfl,hr.symm⟩
    ·cases hr
   ·rename_i e
    exact .inr ⟨apO e,hr⟩
 have Lp:kz<=(kc++vc).length/\(ka=false->kz=1)/\(va=false->(kc++vc).length=kz+1)/\qs ka kz fk=qs ka kz (f' idx)/\qs va vc.length fv=qs va ((kc++vc).length-kz) (fun j=>f' idx (kz+j)):=by
  rw[aod,hkz]
  refine⟨by omega,vT,fun h=>by rw[Ut h],mV (fun j hj=>?_) (fun h=>by rw[vT h];omega),?_⟩
  ·simp only[f',if_pos rfl,if_pos hj]
  ·rw[Nat.add_sub_cancel_left]
   refine mV (fun j hj=>?_) (fun h=>by rw[Ut h];omega)
   have e:¬ kz+j<kz:=by omega
   simp only[f',if_pos rfl,if_neg e,Nat.add_sub_cancel_left]
 refine⟨hκ,hS,_,_,f',HM hb,?_,fun i j r x hi hj hl=>?_,fun i j r x hi hj hl=>?_⟩
 ·cases o with
  | none =>
   refine⟨by simp[mK,tQ,hE.size],by simp[mK,hE.clk],fun i e he=>?_,fun i e he=>?_,fun i j e e' he D3 JC=>?_,fun i e r he hr=>?_⟩
   ·simp only[mK] at he
    rw[apM] at he
    split at he
    ·rename_i GJ;injection he with he;subst he;rw[GJ];exact hE.clk
    ·exact hE.at' i e he
   ·simp only[mK] at he ⊢
    rw[apM] at he
    split at he
    ·injection he with he;subst he;simp
    ·have:=hE.born i e he;omega
   ·simp only[mK] at he D3
    rw[apM] at he D3
    split at he<;>split at D3
    ·omega
    ·injection he with he;subst he
     have:=hE.born j e' D3
     simp only at JC;omega
    ·injection D3 with D3;subst D3
     have:=hE.born i e he
     simp only at JC;omega
    ·exact hE.apart i j e e' he D3 JC
   ·simp only[mK] at he
    rw[apM] at he
    rcases cb i r hr with ⟨hi,rfl⟩|⟨hi,hr⟩
    ·have mn:i=es.length:=hi
     rw[if_pos (by rw[hE.size];exact mn)] at he
     injection he with he
     subst he
     subst hi
     exact Lp
    ·have mn:i≠es.length:=hi
     rw[if_neg (by rw[hE.size];exact mn)] at he
     obtain⟨k1,k2,k3,k4,k5⟩:=hE.row i e r he hr
     refine⟨k1,k2,k3,?_,?_⟩
     ·rw[k4];refine mV (fun j _=>?_) (fun h=>by rw[k2 h];omega)
      simp only[f',if_neg hi]
     ·rw[k5];refine mV (fun j _=>?_) (fun h=>by rw[k3 h];omega)
      simp only[f',if_neg hi]
  | some i0 =>
   have qU:∀ {i:Nat} {e:MapEntry},(E.modify i0 fun e=>{ e with key:=qs ka kz fk,val:=qs va vc.length fv })[i]?=some e->∃ e0,E[i]?=some e0/\e=if i=i0 then { e0 with key:=qs ka kz fk,val:=qs va vc.length fv } else e0:=by
    intro i e he
    rw[Array.getElem?_modify] at he
    split at he
    ·rename_i MU
     simp only[anT] at he
     obtain⟨e0,h0,rfl⟩:=he
     exact⟨e0,h0,by rw[if_pos MU.symm]⟩
    ·rename_i MU
     exact⟨e,he,by rw[if_neg (apO MU)]⟩
   have Lj:∀ {i:Nat} {e e0:MapEntry},(e=if i=i0 then { e0 with key:=qs ka kz fk,val:=qs va vc.length fv } else e0)->e.born=e0.born:=by
    intro i e e0 h
    rw[h];split<;>rfl
   refine⟨by simp[mK,tQ,hE.size],by simp[mK,hE.clk],fun i e he=>?_,fun i e he=>?_,fun i j e e' he D3 JC=>?_,fun i e r he hr=>?_⟩
   ·obtain⟨e0,h0,h⟩:=qU he
    rw[Lj h]
    exact hE.at' i e0 h0
   ·obtain⟨e0,h0,h⟩:=qU he
    rw[Lj h]
    exact hE.born i e0 h0
   ·obtain⟨e0,h0,h⟩:=qU he
    obtain⟨e0',Ud,h'⟩:=qU D3
    rw[Lj h,Lj h'] at JC
    exact hE.apart i j e0 e0' h0 Ud JC
   ·obtain⟨e0,h0,h⟩:=qU he
    rcases cb i r hr with ⟨hi,rfl⟩|⟨hi,hr⟩
    ·have mn:i=i0:=hi
     rw[if_pos mn] at h
     subst h
     subst hi
     exact Lp
    ·have mn:i≠i0:=hi
     rw[if_neg mn] at h
     subst h
     obtain⟨k1,k2,k3,k4,k5⟩:=hE.row i e r h0 hr
     refine⟨k1,k2,k3,?_,?_⟩
     ·rw[k4];refine mV (fun j _=>?_) (fun h=>by rw[k2 h];omega)
      simp only[f',if_neg hi]
     ·rw[k5];refine mV (fun j _=>?_) (fun h=>by rw[k3 h];omega)
      simp only[f',if_neg hi]
 ·rcases cb i r hi with ⟨rfl,rfl⟩|⟨ff,hr⟩
  ·rw[aot (by omega)] at hj
   simp only[f',if_pos rfl,if_pos hl]
   exact (N7 j x hj).mono st.S st.cell st.mp
  ·simp only[f',if_neg ff]
   exact (h1 i j r x hr hj hl).mono st.S st.cell st.mp
 ·rcases cb i r hi with ⟨rfl,rfl⟩|⟨ff,hr⟩
  ·rw[aou (by omega),hkz] at hj
   have e:¬ j<kz:=by omega
   simp only[f',if_pos rfl,if_neg e]
   obtain⟨k1,k2,k3⟩:=hvv (j-kz) x hj
   exact⟨k1,fun h=>(k2 h).mono st (an4 _),k3.mono st (an4 _) (by simp)⟩
  ·simp only[f',if_neg ff]
   obtain⟨k1,k2,k3⟩:=h2 i j r x hr hj hl
   exact⟨k1,fun h=>(k2 h).mono st (an4 _),k3.mono st (an4 _) (by simp)⟩
theorem qT{l:Nat}{x:AV}(h:x.plain=true):bD l x=true:=by
 cases x<;>first|exact h|(simp[AV.plain] at h;done)|(simp only[bD,AV.drop];exact h)|(simp[bD,AV.drop,AV.plain] at h ⊢;done)|skip
 rename_i f fs cs
 cases fs<;>cases cs<;>first|rfl|(simp[AV.plain] at h)
theorem K8(hW:bc G base s.H gh w)(hF:FR L nt gh w a s){o:Oper}{t kt et:TypeId}{ks:List CK}{ka va:Bool}{vz:Nat}{zv:Value}{zero:List AV}(hT:Ij P t kt et ks ka va vz zv zero){xm xk xv:Operand}{ym yk yv:aC}{s' : AS}
  (ho:o.op=.mapUpdate t xm xk xv\/o.op=.insert t xm xk xv) (hcm:au nt xm=some ym) (hck:au nt xk=some yk) (xN:au nt xv=some yv)
  (he:qO s ks.length ka va vz ks (ym.addr G s.T) (yk.eval G s.T) (yv.eval G s.T)=some s') (hd:∀ k,o.dst=some k->k<nt) :
  ∃ v' aX w',sQ P a o w v' w'/\Out G base nt L gh w a s o.dst .undef (s'.bI yv) v' aX w':=by
 have hm:=arg_val hW hF hcm
 unfold qO at he
 generalize hY:ym.addr G s.T=Y at hm he
 cases Y<;>simp only at he<;>try (cases he;done)
 rename_i l
 obtain⟨bA,qh⟩:=VR.nC (hm:VR gh s.H.length w (a.eval xm) (.mref l))
 split at he
 ·rename_i mi mh mF es hH
  simp only[anU] at he
  obtain⟨kc,qq,vc,Uv,he1⟩:=he
  obtain⟨h0,qi⟩:=ag he1
  clear he1
  simp only[an7,gI,aoq,aoZ] at h0
  obtain⟨⟨⟨⟨⟨⟨⟨⟨hl,hvl⟩,rfl⟩,rfl⟩,rfl⟩,vn⟩,hva⟩,Y3⟩,YP⟩:=h0
  simp only[anT] at qi
  obtain⟨oi,hf,rfl⟩:=qi
  have ahX:aH (yk.eval G s.T)=true:=by rw[<- jJ];exact jd qq
  have ahY:aH (yv.eval G s.T)=true:=jd Uv
  have zc:=cY hW hF hck rfl ahX
  obtain⟨lB,qg,xw,Ia,Tn,l8⟩:=oK hW hF xN ahY (.hs l (oi.getD es.length)) (by simp)
  have hρ:lB.ρ l=gh.ρ l:=Tn.ρ l bA
  have hk:=zc.mono Tn (an4 _)
  obtain⟨⟨hκ,hS,E,ck,f,hb,hE,h1,h2⟩,fH⟩:=qg.more l _ hH
  obtain⟨E2,TA,lT,hR⟩:=zT (qg.more l _ hH).1
  have hEE:E2=E/\TA=ck:=by
   rw[hb] at lT
   injection lT with lT
   injection lT with e1 e2
   exact⟨e1.symm,e2.symm⟩
  obtain⟨rfl,rfl⟩:=hEE
  obtain⟨Tg,Um⟩:=B7 hk qq
  have ib:∃ fv:Nat->Value,a.eval xv=qs va vc.length fv/\∀ (j:Nat) (x:AV),(cond va (vc.map AV.drop) vc)[j]?=some x->(fv j).oneCell'=true/\(va=true->VR lB s.H.length w (fv j) x)/\CR lB s.H.length w (.hs l (oi.getD es.length)) (fv j) x:=by
   cases afg:va with
   | true =>
    have JB:(yv.eval G s.T).isAgg=true:=by rw[<- hva,afg]
    have PZ:VR lB s.H.length w (a.eval xv) (yv.eval G s.T):=by
     rcases l8 with h|⟨e,h,_⟩
     ·exact h
     ·rw[h] at JB;cases JB
    obtain⟨Ut,Uu⟩:=B7 PZ Uv
    rw[JB] at Ut
    refine⟨_,Ut,fun j x hj=>?_⟩
    simp only[cond_true,aol,anT] at hj
    obtain⟨y,hy,rfl⟩:=hj
    obtain⟨m1,m2⟩:=Uu j y hy
    exact⟨m2,fun _=>m1.dropped,.inl m1.dropped⟩
   | false =>
    have JB:(yv.eval G s.T).isAgg=false:=by rw[<- hva,afg]
    have aiC:vc=[yv.eval G s.T]:=by
     generalize yv.eval G s.T=V at Uv JB
     cases V<;>first|(cases JB;done)|(injection Uv with Uv;exact Uv.symm)|(cases Uv;done)
    refine⟨fun _=>a.eval xv,by simp[qs],fun j x hj=>?_⟩
    rw[aiC] at hj
    cases j with
    | succ j=>simp at hj
    | zero =>
     simp at hj
     subst hj
     refine⟨?_,(fun h=>by cases h),l8⟩
     rcases l8 with h|⟨e,_,hp,_⟩
     ·exact h.fR (fun cs e=>by rw[e] at JB;cases JB) (fun cs e=>by rw[e] at Uv;cases Uv)
     ·exact hp.fR
  obtain⟨fv,hvv,Uw⟩:=ib
  have Bx:(cond va (vc.map AV.drop) vc).length=vc.length:=by cases va<;>simp
  have aiE:va=false->(cond va (vc.map AV.drop) vc).length=1:=fun h=>by rw[Bx,hvl];exact hT.vz1 h
  have dm:=Sp (vv:=a.eval xv) hT hk qq hl vn hb hR hf
  have ah7:a.eval xk=qs ka ks.length (fun j=>(a.eval xk).cells.getD j undef):=by rw[vn,<- hl];exact Tg
  have hMA:=acR (n:=s.H.length) (l:=l) (fk:=fun j=>(a.eval xk).cells.getD j undef) (fv:=fv) (vc:=cond va (vc.map AV.drop) vc) (o:=oi) qg hκ hS hb hE h1 h2 hl (fun h=>hT.key.kz h) aiE
   (fun j x hj=>(Um j x hj).1.ko (an'.1 YP x (aoh hj))) (fun i hi=>by subst hi;exact xI hf) Uw
  rw[Bx,<- ah7,<- hvv] at hMA
  have xe:=Hi (E':=(mK E2 TA oi (a.eval xk) (a.eval xv)).1) (ck':=(mK E2 TA oi (a.eval xk) (a.eval xv)).2) qg hb hS s.H.length
  rw[hκ] at xe
  have aev:((tQ es oi (kc++cond va (vc.map AV.drop) vc)).all fun r=>r.all (bD l))=true:=by
   have lG:(kc++cond va (vc.map AV.drop) vc).all (bD l)=true:=by
    rw[List.all_append,an7]
    refine⟨an'.2 fun x hx=>qT (an'.1 YP x hx),?_⟩
    cases va with
    | false=>exact Y3
    | true =>
     refine an'.2 fun x hx=>?_
     obtain⟨y,hy,rfl⟩:=aoD.1 hx
     exact oD (an'.1 Y3 y hy)
   refine an'.2 fun r hr=>?_
   cases oi with
   | none =>
    simp only[tQ,an9,aom] at hr
    rcases hr with hr|rfl
    ·exact an'.1 fH r hr
    ·exact lG
   | some i =>
    simp only[tQ] at hr
    rcases aqF hr with hr|rfl
    ·exact an'.1 fH r hr
    ·exact lG
  have iF:(tL w (lB.ρ l) (mK E2 TA oi (a.eval xk) (a.eval xv)).1 (mK E2 TA oi (a.eval xk) (a.eval xv)).2).heap.size=w.heap.size:=by simp[tL]
  have C7:=qg.xV (o:=.map ks.length ka va (tQ es oi (kc++cond va (vc.map AV.drop) vc))) xe bA (by intro k hk;simp[hk]) (fun b o ho=>by rw[iF];exact qg.nT b o ho) (fun b hb=>by rw[iF];exact qg.pR b hb) (fun _ _ h=>by cases h) ⟨hMA,aev⟩ (fun _ _ _ h=>.inl h)
  have hS:=iJ s yv
  have y6:Ext s.H.length lB w lB (tL w (lB.ρ l) (mK E2 TA oi (a.eval xk) (a.eval xv)).1 (mK E2 TA oi (a.eval xk) (a.eval xv)).2):=⟨xe.mono (fun r h=>by rw[h];simp[pv]),fun b hb=>hb⟩
  have GD:FR L nt lB _ a ((s.bI yv).gL ⟨s.H.set l (.map ks.length ka va (tQ es oi (kc++cond va (vc.map AV.drop) vc))),l⟩):=xw.grown (by rw[hS.1];exact xe) (fun i=>⟨by simp,by simp,by simp⟩) (by rw[hS.1];simp)
  refine⟨undef,lB,tL w (lB.ρ l) (mK E2 TA oi (a.eval xk) (a.eval xv)).1 (mK E2 TA oi (a.eval xk) (a.eval xv)).2,.inr ⟨?_,rfl⟩,?_⟩
  rotate_left
  ·rw[wu]
   exact Out.skip (s1:=(s.bI yv).gL ⟨s.H.set l (.map ks.length ka va (tQ es oi (kc++cond va (vc.map AV.drop) vc))),l⟩) C7 GD (Ia.trans y6 (an4 _)) hd
  ·rcases ho with ho|ho<;>simp[execOp,ho,qh,<- hρ,dm]
 ·cases he
end
end
section
section
variable {P:Program}{G:Nat->List AV}{base nt:Nat}{L:List Nat}{gh:Gh}{w w' : World}{a:Act}{s:AS}{H:ai}
theorem DN{o:Oper}{c:Call}{x:Operand}{t:TypeId}(ho:o.op=.call c)(iT:c.callee=.builtin .len)(fP:c.args.toList=[x])(kV:c.argTypes.toList=[t]){v:Value}
  (dm:(Builtin.len_ #[t] o.type #[a.eval x]).run P w=.ok v w'):(execOp a.eval o).run P w=.ok (.value v) w':=by
 have e1:c.args=#[x]:=by apply ap9;simpa using fP
 have e2:c.argTypes=#[t]:=by apply ap9;simpa using kV
 unfold execOp
 simp only[ho,resolve,iT,e1,e2,invoke,builtin,Sem.run_bind,Sem.run_pure,Result.andThen_ok,aqb,aoc,aof,dm]
theorem We(hW:bc G base s.H gh w)(hF:FR L nt gh w a s){x:Operand}{y:aC}(hc:au nt x=some y):(y.addr G s.T=.dF->a.eval x=.map none) /\
  (∀ kz ka va es,y.addr G s.T=.fJ kz ka va es->PR gh.S w (a.eval x) (.fJ kz ka va es))/\∀ l,y.addr G s.T=.mref l->l<s.H.length/\a.eval x=.map (some (gh.ρ l)):=by
 have hm:=arg_val hW hF hc
 refine⟨fun h=>?_,fun kz ka va es h=>?_,fun l h=>?_⟩
 ·rw[h] at hm
  generalize a.eval x=V at hm
  cases (hm:VR gh s.H.length w V .dF) with
  | plain _ _ h=>cases h;rfl
 ·rw[h] at hm
  generalize a.eval x=V at hm
  cases (hm:VR gh s.H.length w V (.fJ _ _ _ _)) with
  | plain _ _ h=>exact h
 ·rw[h] at hm
  exact VR.nC hm
theorem Pt(hW:bc G base s.H gh w)(hF:FR L nt gh w a s){x:Operand}{y:aC}(hc:au nt x=some y){kz:Nat}{ka va:Bool}{es:List (List AV)}(h:y.addr G s.T=.ny kz ka va es):PR gh.S w (a.eval x) (.ny kz ka va es):=by
 have hm:=arg_val hW hF hc
 rw[h] at hm
 generalize a.eval x=V at hm
 cases (hm:VR gh s.H.length w V (.ny _ _ _ _)) with
 | plain _ _ h=>exact h
end
end
end Go.Abs
namespace Go.Abs
open Go.ChangeMaps (setBlock)
section
section
variable {P:Program}{G:Nat->List AV}{base nt:Nat}{L:List Nat}{gh:Gh}{w w' : World}{a:Act}{s:AS}{H:ai}
theorem Hy{α:Type}{key:α->Nat} : ∀ (l:List α) (x:α),x∈l->(∀ (i j:Nat) (a b:α),l[i]?=some a->l[j]?=some b->key a=key b->i=j)->l.Perm (x :: l.filter fun y=>decide (key y≠key x))
 | [],x,h,_=>by cases h
 | y :: l,x,h,hd=>by
  have Uj:∀ (i j:Nat) (a b:α),l[i]?=some a->l[j]?=some b->key a=key b->i=j:=fun i j a b h1 h2 h3=>by
   have:=hd (i+1) (j+1) a b (by simpa using h1) (by simpa using h2) h3
   omega
  by_cases Lu:key y=key x
  ·have fH:l.filter (fun z=>decide (key z≠key x))=l:=by
    refine List.filter_eq_self.2 fun z hz=>?_
    obtain⟨j,hj⟩:=aoC hz
    simp only[aoq]
    intro e
    have:=hd 0 (j+1) y z rfl (by simpa using hj) (Lu.trans e.symm)
    omega
   have hxe:x=y:=by
    rcases aoH.1 h with h|h
    ·exact h
    ·obtain⟨j,hj⟩:=aoC h
     have:=hd 0 (j+1) y x rfl (by simpa using hj) Lu
     omega
   subst hxe
   rw[aqG,if_neg (by simp),fH]
  ·have hxl:x∈l:=by
    rcases aoH.1 h with h|h
    ·subst h;exact absurd rfl Lu
    ·exact h
   have ih:=Hy l x hxl Uj
   rw[aqG,if_pos (by simpa using Lu)]
   exact (List.Perm.cons y ih).trans (List.Perm.swap x y _)
theorem AY(hW:bc G base H gh w){b:Nat}{o:Obj}{w1:World}(hw1:w1=w\/w1=w.drew)(bA:b<w.heap.size)(hS:∀ o,¬ gh.S b o)(hnc:∀ C ty fr,w.heap[b]?≠some (.cells C ty fr))(n:Nat):Step (fun r=>r=gh.κ b) n gh w gh (setBlock w1 b o):=by
 have Bu:(setBlock w1 b o).heap=w.heap.setIfInBounds b o:=by rcases hw1 with rfl|rfl<;>rfl
 have C9:∀ b',b'≠b->(setBlock w1 b o).heap[b']?=w.heap[b']?:=fun b' h=>by rw[Bu];simp[apO h]
 have ff:∀ b' o,gh.S b' o->b'≠b:=fun b' o h=>by rintro rfl;exact hS o h
 refine⟨fun _ _ h=>h,fun b' o h=>cell_of_heap (C9 b' (ff b' o h)),by rw[Bu];simp,?_,?_,?_,fun b' gO hn=>?_,fun b' gO=>?_,fun _ _=>rfl,fun b' ty m hm=>?_,fun b' E1 c1 hs hm=>?_⟩
 ·rcases hw1 with rfl|rfl<;>rfl
 ·rcases hw1 with rfl|rfl<;>rfl
 ·rcases hw1 with rfl|rfl<;>rfl
 ·have AO:b'≠b:=by rintro rfl;exact hn rfl
  exact⟨.inl (C9 b' AO),rfl,fun _ h=>h⟩
 ·have:w.heap.size<=b':=by first|exact gO|(rw[Bu] at gO;simpa using gO)
  exact hW.cB b' this
 ·obtain⟨C,fr,h1,h2⟩:=hm
  have AO:b'≠b:=by rintro rfl;exact hnc C ty fr h1
  exact⟨C,fr,by rw[C9 b' AO];exact h1,h2⟩
 ·rw[C9 b' (ff b' 0 hs)];exact hm
theorem sw{x:AV}(h:x.plain=true):x.drop=x:=by
 cases x<;>try rfl
 rename_i e own
 cases own
 ·rfl
 ·simp[AV.plain] at h
def Gh.Jm(gh:Gh)(b:Nat):Gh:={ gh with S:=fun b' o=>gh.S b' o\/(b'=b/\o=0) }
theorem Ke(hW:bc G base s.H gh w)(hF:FR L nt gh w a s){l kz:Nat}{ka va:Bool}{es:List (List AV)}(hH:s.H[l]?=some (.map kz ka va es))(vo:(es.all fun r=>r.all AV.plain)=true) :
  ∃ lB,bc G base (s.H.set l (.fJ kz ka va es)) lB w/\FR L nt lB w a (s.gL ⟨s.H.set l (.fJ kz ka va es),l⟩)/\Ext s.H.length gh w lB w/\lB.ρ l=gh.ρ l/\PR lB.S w (.map (some (gh.ρ l))) (.fJ kz ka va es):=by
 have bA:l<s.H.length:=(an2.1 hH).1
 obtain⟨⟨hκ,hS,E,ck,f,hb,hE,h1,h2⟩,_⟩:=hW.more l _ hH
 have hbl:gh.ρ l<w.heap.size:=(aob.1 hb).1
 have st:∀ n,Step (fun r=>r=.hb l) n gh w (gh.Jm (gh.ρ l)) w:=fun n=>by
  refine⟨fun b o h=>.inl h,fun _ _ _=>rfl,an4 _,rfl,rfl,rfl,fun b hb hn=>⟨.inl rfl,rfl,fun o ho=>?_⟩,fun b hb=>hW.cB b hb,fun _ _=>rfl,fun _ _ _ h=>h,fun _ _ _ _ h=>h⟩
  rcases ho with ho|⟨rfl,_⟩
  ·exact ho
  ·exact absurd hκ hn
 have hP:PR (gh.Jm (gh.ρ l)).S w (.map (some (gh.ρ l))) (.fJ kz ka va es):=by
  refine .fJ (gh.ρ l) kz ka va es E ck f (.inr ⟨rfl,rfl⟩) hb hE (fun i j r x hi hj=>?_)
  have hx:=an'.1 (an'.1 vo r (aoh hi)) x (aoh hj)
  have hp:PR gh.S w (f i j) x:=by
   by_cases bA:j<kz
   ·exact h1 i j r x hi hj bA
   ·have:=((h2 i j r x hi hj (by omega)).2.2).dropped
    rw[sw hx] at this
    exact this.ko hx
  exact hp.mono (st 0).S (st 0).cell (st 0).mp
 refine⟨gh.Jm (gh.ρ l),?_,?_,⟨(st _).mono (fun r h=>by rw[h];exact⟨by simp,by simp⟩),fun b hb=>hb⟩,rfl,hP⟩
 ·refine hW.xV (st _) bA (by intro k hk;simp[hk]) (fun b o ho=>?_) hW.pR (fun _ _ h=>by cases h) hP (fun b o m ho=>?_)
  ·rcases ho with ho|⟨rfl,_⟩
   ·exact hW.nT b o ho
   ·exact hbl
  ·rcases ho with ho|⟨rfl,rfl⟩
   ·exact .inl ho
   ·exact .inr (fun hc=>by simp[World.cell?,hb] at hc)
 ·exact hF.grown (st _) (fun i=>⟨by simp,by simp,by simp⟩) (by simp)
theorem HI(hW:bc G base s.H gh w)(hF:FR L nt gh w a s){o:Oper}{kz:Nat}{ka va:Bool}(hd:∀ k,o.dst=some k->k<nt/\k∈L) :
  ∀ (m:Option Nat) (since:Nat) (es:List (List AV)),(execOp a.eval o).run P w=.ok (.value (.pointer (some ⟨w.heap.size,0,none⟩))) (w.alloc (.mapIter m since #[] since)) ->
   ((m=none/\es=[])\/∃ m0 E ck f,m=some m0/\gh.S m0 0/\w.heap[m0]?=some (.map E ck)/\since=ck/\∃ vm:List (List AV),vt E ck kz ka va vm f/\es.Perm vm/\(∀ (i j:Nat) (r:List AV) (x:AV),vm[i]?=some r->r[j]?=some x->PR gh.S w (f i j) x)) ->
   ∃ v' aX w',sQ P a o w v' w'/\Out G base nt L gh w a s o.dst (.iter s.gen kz ka va [] es) { s with gen:=s.gen+1 } v' aX w':=by
  intro m since es dm hm
  have hp:=fI.alloc w (.mapIter m since #[] since)
  have ff:=ua o.dst
  have st:=iK hW hp ff (fun _=>False) s.H.length
  have GC:FR L nt (gh.alloc w.heap.size (H9 o.dst) fun _=>False) (w.alloc (.mapIter m since #[] since)) a s:=hF.grown (H':=s.H) (lo':=s.lo) st (fun i=>⟨id,id,fun _=>id⟩) (an4 _)
  have mg:=hW.alloc hp ff (fun _=>False) (fun _ _ h=>h.elim)
  refine⟨.pointer (some ⟨w.heap.size,0,none⟩),_,_,.inl dm,mg,GC.R0 (gen':=s.gen+1) (ao6 _) (fun b hb=>mg.cB b hb) o.dst (fun k hk=>(hd k hk).1) (.inr ⟨⟨s.gen,an4 _,rfl⟩,fun k hk=>(hd k hk).2⟩) ?_,mQ hW hp ff _ _⟩
  intro k hk
  refine⟨aqc _,w.heap.size,rfl,?_⟩
  rw[hk] at st ⊢
  refine⟨by simp[Gh.alloc,H9],?_,m,since,#[],since,hp.new,?_⟩
  ·rintro o (ho|⟨_,ho⟩)
   ·have:=hW.nT _ o ho;omega
   ·exact ho
  ·rcases hm with ⟨rfl,rfl⟩|⟨m0,E,ck,f,rfl,h1,h2,rfl,vm,h3,hpm,h4⟩
   ·exact .inl ⟨rfl,rfl,rfl,rfl⟩
   ·refine .inr ⟨m0,E,vm,since,f,rfl,st.S _ _ h1,st.mp _ _ _ h1 h2,h3,rfl,rfl,fun i j r x hi hj=>(h4 i j r x hi hj).mono st.S st.cell st.mp,.inl ⟨rfl,rfl⟩,?_⟩
    have:((E.toList.zip vm).filter fun p=>!(#[]:Array Nat).contains p.1.born)=E.toList.zip vm:=List.filter_eq_self.2 fun p _=>by simp
    rw[this]
    have hz:(E.toList.zip vm).map (·.2)=vm:=List.map_snd_zip (by have:=h3.size;simp;omega)
    rw[hz]
    exact hpm
theorem aae(hW:bc G base s.H gh w)(hF:FR L nt gh w a s){o:Oper}{t kt et:TypeId}{x:Operand}{y:aC}{kz:Nat}{ka va:Bool}{z:AV}{s' : Option AS}{cf:dK}(ho:o.op=.range t x)(hc:au nt x=some y)(ht:P.underlying t=some (.map kt et))
  (he:aA G cf s (.Zj kz ka va y)=some (z,s')) (hd:∀ k,o.dst=some k->k<nt/\k∈L) :
  ∃ v' aX w',sQ P a o w v' w'/\Out G base nt L gh w a s o.dst z (s'.getD s) v' aX w':=by
 obtain⟨m1,m2,m3⟩:=We hW hF hc
 have key:=HI (P:=P) hW hF (o:=o) (kz:=kz) (ka:=ka) (va:=va) hd
 simp only[aA] at he
 split at he
 ·rename_i hY
  simp only[anV,anY] at he
  obtain⟨rfl,rfl⟩:=he
  refine key none 0 [] ?_ (.inl ⟨rfl,rfl⟩)
  simp[execOp,ho,m1 hY,Instr.range,run_underlying ht,newObj,Sem.run]
 ·rename_i hY
  obtain⟨h0,qi⟩:=ag he
  clear he
  simp only[an7,gI,aoq,aoZ] at h0
  obtain⟨⟨rfl,rfl⟩,rfl⟩:=h0
  simp only[anV,anY] at qi
  obtain⟨rfl,rfl⟩:=qi
  have hp:=m2 _ _ _ _ hY
  generalize hA:a.eval x=V at hp
  cases hp with
  | fJ b _ _ _ _ E ck f hS hb hE de =>
   refine key (some b) ck _ ?_ (.inr ⟨b,E,ck,f,rfl,hS,hb,rfl,_,hE.iter,List.Perm.refl _,de⟩)
   simp[execOp,ho,hA,Instr.range,run_underlying ht,newObj,getObj,Sem.run,hb]
 ·rename_i hY
  obtain⟨h0,qi⟩:=ag he
  clear he
  simp only[an7,gI,aoq,aoZ] at h0
  obtain⟨⟨rfl,rfl⟩,rfl⟩:=h0
  simp only[anV,anY] at qi
  obtain⟨rfl,rfl⟩:=qi
  have hp:=Pt hW hF hc hY
  generalize hA:a.eval x=V at hp
  cases hp with
  | ny b _ _ _ _ vm E ck f hS hb hE hpm de =>
   refine key (some b) ck _ ?_ (.inr ⟨b,E,ck,f,rfl,hS,hb,rfl,_,hE,hpm.symm,de⟩)
   simp[execOp,ho,hA,Instr.range,run_underlying ht,newObj,getObj,Sem.run,hb]
 ·rename_i l hY
  split at he
  ·rename_i mi mh mF es hH
   obtain⟨h0,qi⟩:=ag he
   clear he
   simp only[an7,gI,aoq,aoZ] at h0
   obtain⟨⟨⟨rfl,rfl⟩,rfl⟩,vo⟩:=h0
   simp only[anV,anY] at qi
   obtain⟨rfl,rfl⟩:=qi
   obtain⟨bA,qh⟩:=m3 l hY
   obtain⟨lB,qg,xw,Ia,hρ,hP⟩:=Ke hW hF hH vo
   generalize hV:Value.map (some (gh.ρ l))=V at hP
   cases hP with
   | fJ b _ _ _ _ E ck f hS hb hE de =>
    injection hV with hV
    injection hV with hV
    subst hV
    obtain⟨v',aX,w',k1,k2⟩:=HI (P:=P) (s:=s.gL ⟨s.H.set l (.fJ kz ka va es),l⟩) qg xw (o:=o) hd (some (gh.ρ l)) ck es (by
     simp[execOp,ho,qh,Instr.range,run_underlying ht,newObj,getObj,Sem.run,hb]) (.inr ⟨_,E,ck,f,rfl,hS,hb,rfl,_,hE.iter,List.Perm.refl _,de⟩)
    exact⟨v',aX,w',k1,k2.W,k2.F,Ia.trans k2.E (by simp[AS.gL])⟩
  ·cases he
 ·cases he
theorem Gr:∀ (l:List MapEntry) (e:MapEntry),e∈l->(∀ x∈l,x.born=e.born->x=e)->l.find? (fun x=>x.born==e.born)=some e
 | [],e,h,_=>by cases h
 | x :: l,e,h,hu=>by
  rw[List.find?_cons]
  by_cases hx:x.born=e.born
  ·have:=hu x (by simp) hx
   subst this
   simp
  ·have hb:(x.born==e.born)=false:=by simpa using hx
   rw[hb]
   rcases aoH.1 h with h|h
   ·subst h;exact absurd rfl hx
   ·exact Gr l e h (fun y hy=>hu y (by simp[hy]))
theorem K6{n:Nat}{va:Bool}{m:Nat}{g:Nat->Value}{cs:List AV}(hm:cs.length=m)(h1:va=false->m=1)(h:∀ (j:Nat) (x:AV),cs[j]?=some x->PR gh.S w (g j) x):VR gh n w (qs va m g) (oB va cs) :=
 RG hm h1 (fun j x hj=>⟨VR.dropped (.plain _ _ (h j x hj)),(h j x hj).fR⟩)
theorem Ga{n ck kz i:Nat}{ka va:Bool}{E:Array MapEntry}{es:List (List AV)}{f:Nat->Nat->Value}(hE:vt E ck kz ka va es f)(de:∀ (i j:Nat) (r:List AV) (x:AV),es[i]?=some r->r[j]?=some x->PR gh.S w (f i j) x)
  {e:MapEntry} {r:List AV} (he:E[i]?=some e) (hr:es[i]?=some r):VR gh n w e.key (oB ka (r.take kz))/\VR gh n w e.val (oB va (r.drop kz)):=by
 obtain⟨k1,k2,k3,k4,k5⟩:=hE.row i e r he hr
 rw[k4,k5]
 refine⟨K6 (by simp;omega) k2 (fun j x hj=>?_),K6 (by simp) (fun h=>by rw[k3 h];omega) (fun j x hj=>?_)⟩
 ·rw[aov] at hj
  split at hj
  ·exact de i j r x hr hj
  ·cases hj
 ·rw[aoS] at hj
  exact de i (kz+j) r x hr hj
theorem LP(hF:FR L nt gh w a s){t g kz:Nat}{ka va:Bool}{cur:List AV}{todo:List (List AV)}(ht:t<nt)(hT:s.T t=.iter g kz ka va cur todo):g<s.gen/\∃ b,gv a t=.pointer (some ⟨b,0,none⟩)/\vq gh w b (.bx t) kz ka va cur todo:=by
 have h:=hF.slot t ht
 rw[hT] at h
 exact h
theorem aac(hW:bc G base s.H gh w)(hF:FR L nt gh w a s){o:Oper}{it:Operand}{y:aC}{z:AV}{s' : Option AS}{cf:dK}(ho:o.op=.entry it)(hc:au nt it=some y)(he:aA G cf s (.Tc y)=some (z,s')) :
  s'=none/\∃ v,(execOp a.eval o).run P w=.ok (.value v) w/\mP gh s.H.length nt w s.T s.gen (gv a) v z:=by
 cases y with
 | tmp t =>
  obtain⟨rfl,ht⟩:=jD hc
  simp only[aA] at he
  split at he
  ·rename_i g kz ka va cur todo hT
   obtain⟨h0,he⟩:=ag he
   simp only[an7,aoU,aoT,aqf] at h0
   simp only[anV,anY] at he
   obtain⟨rfl,rfl⟩:=he
   obtain⟨_,b,hb,_,_,m,since,seen,last,D5,hm⟩:=LP hF ht hT
   refine⟨rfl,?_⟩
   rcases hm with ⟨_,_,_,PE⟩|⟨m0,E,es,ck,f,rfl,hS,N1,hE,rfl,rfl,de,PE,_⟩
   ·exact absurd PE h0.2
   ·rcases PE with ⟨_,PE⟩|⟨st,i,e,uK,hEi,hbe,ahV⟩
    ·exact absurd PE h0.2
    ·obtain⟨v1,v2⟩:=Ga (n:=s.H.length) hE de hEi ahV
     have aib:e∈E.toList:=by
      have:E.toList[i]?=some e:=by rw[aoL];exact hEi
      exact aoh this
     have aeI:E.find? (fun x=>x.born==e.born)=some e:=by
      rw[<- Array.find?_toList]
      refine Gr _ e aib (fun x hx hxb=>?_)
      obtain⟨j,hj⟩:=aoC hx
      rw[aoL] at hj
      have:=hE.apart j i x e hj hEi hxb
      subst this
      rw[hEi] at hj;injection hj with hj;exact hj.symm
     have qh:a.eval (.tmp t)=.pointer (some ⟨b,0,none⟩):=hb
     refine⟨.tuple #[e.key,e.val],?_,.dO (.tuple _ _ rfl (fun j u x hu hx=>?_))⟩
     ·subst hbe
      simp[execOp,ho,qh,Instr.entry,getObj,Sem.run,D5]
      simp[uK,N1,Sem.run,aeI]
     ·match j with
      | 0=>injection hu with hu;injection hx with hx;subst hu hx;exact v1
      | 1=>injection hu with hu;injection hx with hx;subst hu hx;exact v2
      | j+2=>simp at hx
  ·cases he
 | _=>simp only[aA] at he;cases he
theorem Nc{E:Array MapEntry}{es:List (List AV)}{seen:Array Nat}{ck kz i:Nat}{ka va:Bool}{f:Nat->Nat->Value}(hE:vt E ck kz ka va es f){e:MapEntry}{r:List AV}(he:E[i]?=some e)(hr:es[i]?=some r)(hs:seen.contains e.born=false) :
  (((E.toList.zip es).filter fun p=>!seen.contains p.1.born).map (·.2)).Perm (r :: ((E.toList.zip es).filter fun p=>!(seen.push e.born).contains p.1.born).map (·.2)):=by
 have hz:(E.toList.zip es)[i]?=some (e,r):=by rw[apS];exact⟨by rw[aoL];exact he,hr⟩
 have h1:=Hy (key:=fun p:MapEntry × List AV=>p.1.born) (E.toList.zip es) (e,r) (aoh hz) (fun j k p q hj hk hpq=>by
  rw[apS,aoL] at hj hk
  exact hE.apart j k p.1 q.1 hj.1 hk.1 hpq)
 have h2:=h1.filter (fun p=>!seen.contains p.1.born)
 rw[aqG,if_pos (by show (!seen.contains e.born)=true;rw[hs];rfl),List.filter_filter] at h2
 have h3:=h2.map (·.2)
 rw[aoc] at h3
 refine h3.trans (List.Perm.of_eq ?_)
 congr 2
 refine List.filter_congr fun p _=>?_
 by_cases hp:p.1.born=e.born
 ·simp[hp]
 ·simp[hp]
theorem TS(hW:bc G base s.H gh w)(hF:FR L nt gh w a s){o:Oper}{it:Operand}{t g kz:Nat}{ka va:Bool}{cur:List AV}{todo:List (List AV)}(ho:o.op=.next it false)(hc:au nt it=some (.tmp t))(hT:s.T t=.iter g kz ka va cur todo)(hL:t∈L)
  (hd:∀ k,o.dst=some k->k<nt) (K:Act->World->Prop) (Q:Exit->Act->World->Prop)
  (hK0:todo=[]->∀ v' aX w',Out G base nt L gh w a s o.dst (.tuple [.bool false]) s v' aX w'->K (a.put o.dst v') w')
  (hK1:∀ r rest,todo.Perm (r :: rest)->∀ v' aX w',Out G base nt L gh w a s o.dst (.tuple [.bool true,oB ka (r.take kz),oB va (r.drop kz)]) (s.cy t (.iter g kz ka va r rest)) v' aX w'->K (a.put o.dst v') w'):o.wp P a w K Q:=by
 obtain⟨rfl,ht⟩:=jD hc
 obtain⟨hg,b,hb,hκ,hS,m,since,seen,last,D5,hm⟩:=LP hF ht hT
 have qh:a.eval (.tmp t)=.pointer (some ⟨b,0,none⟩):=hb
 have PG:∀ {n:Nat},VR gh n w (.tuple #[.bool false]) (.tuple [.bool false]):=fun {n}=>.tuple _ _ rfl (fun j u x hu hx=>by
  match j with
  | 0=>injection hu with hu;injection hx with hx;subst hu hx;exact .plain _ _ (.bool _)
  | j+1=>simp at hx)
 rcases hm with ⟨rfl,rfl,_,_⟩|⟨m0,E,es,ck,f,rfl,hSm,N1,hE,rfl,rfl,de,_,BA⟩
 ·refine sQ.wp (.inl ?_) (hK0 rfl (.tuple #[.bool false]) gh w (Out.pure hW hF hd (.dO PG)))
  simp[execOp,ho,qh,Instr.next,getObj,Sem.run,D5]
 ·rcases run_next_at (P:=P) w o.type b m0 last last seen E last D5 N1 (fun x hx=>by
   obtain⟨j,hj⟩:=aoC hx
   rw[aoL] at hj
   exact hE.born j x hj) (an4 _) with ⟨hz,dm⟩|⟨e,hem,w1,hw1,dm⟩
  ·have JI:todo=[]:=by
    have hl:((E.toList.zip es).filter fun p=>!seen.contains p.1.born)=[]:=by
     refine List.filter_eq_nil_iff.2 fun p hp ff=>?_
     have hpe:p.1∈E.toList:=(List.of_mem_zip (a:=p.1) (b:=p.2) hp).1
     have:p.1∈(leftOf E seen).toList:=by
      unfold leftOf
      simp only[Array.toList_filter,aqL]
      exact⟨hpe,ff⟩
     have h0:(leftOf E seen).toList=[]:=List.eq_nil_of_length_eq_zero (by simpa using hz)
     rw[h0] at this
     cases this
    rw[hl] at BA
    exact BA.eq_nil
   refine sQ.wp (.inl ?_) (hK0 JI (.tuple #[.bool false]) gh w (Out.pure hW hF hd (.dO PG)))
   simp[execOp,ho,qh,dm]
  ·unfold leftOf at hem
   simp only[Array.toList_filter,aqL] at hem
   obtain⟨heE,vU⟩:=hem
   obtain⟨i,hi⟩:=aoC heE
   rw[aoL] at hi
   have aaP:i<es.length:=by rw[<- hE.size];exact (aob.1 hi).1
   have hr:es[i]?=some es[i]:=an3 aaP
   have aih:seen.contains e.born=false:=by simpa using vU
   have afd:=Nc hE hi hr aih
   have aaA:b<w.heap.size:=(aob.1 D5).1
   have st:=AY (o:=.mapIter (some m0) last (seen.push e.born) last) hW hw1 aaA hS (fun C ty fr h=>by rw[D5] at h;cases h) s.H.length
   rw[hκ] at st
   have Bu:(setBlock w1 b (.mapIter (some m0) last (seen.push e.born) last)).heap=w.heap.setIfInBounds b (.mapIter (some m0) last (seen.push e.born) last):=by rcases hw1 with rfl|rfl<;>rfl
   have iF:(setBlock w1 b (.mapIter (some m0) last (seen.push e.born) last)).heap.size=w.heap.size:=by rw[Bu];simp
   have mg:bc G base s.H gh (setBlock w1 b (.mapIter (some m0) last (seen.push e.born) last)):=hW.step st (fun l=>⟨by simp,by simp⟩) (fun b o h=>by rw[iF];exact hW.nT b o h) (fun b h=>by rw[iF];exact hW.pR b h) (fun _ _ _ h=>.inl h)
   have hE' : Ext s.H.length gh w gh (setBlock w1 b (.mapIter (some m0) last (seen.push e.born) last)):=⟨st.mono (fun r h=>by rw[h];simp[pv]),fun _ h=>h⟩
   have hIt:vq gh (setBlock w1 b (.mapIter (some m0) last (seen.push e.born) last)) b (.bx t) kz ka va es[i] (((E.toList.zip es).filter fun p=>!(seen.push e.born).contains p.1.born).map (·.2)):=by
    refine⟨hκ,hS,some m0,last,seen.push e.born,last,by rw[Bu];simp[aaA],.inr ⟨m0,E,es,last,f,rfl,hSm,st.mp _ _ _ hSm N1,hE,rfl,rfl,fun i j r x h1 h2=>(de i j r x h1 h2).mono st.S st.cell st.mp,.inr ⟨e.born,i,e,by simp,hi,rfl,hr⟩,List.Perm.refl _⟩⟩
   have GC:FR L nt gh (setBlock w1 b (.mapIter (some m0) last (seen.push e.born) last)) a (s.cy t (.iter g kz ka va es[i] (((E.toList.zip es).filter fun p=>!(seen.push e.born).contains p.1.born).map (·.2)))) :=
    hF.cy (H':=s.H) (lo':=s.lo) st (an4 _) (fun i hi=>⟨by simpa using hi,by simp,by simp⟩) (.inl ⟨ht,by rw[hT];rfl⟩) (fun _=>⟨hg,b,hb,hIt⟩)
   obtain⟨v1,v2⟩:=Ga (n:=s.H.length) hE de hi hr
   have hv:VR gh s.H.length (setBlock w1 b (.mapIter (some m0) last (seen.push e.born) last)) (.tuple #[.bool true,e.key,e.val]) (.tuple [.bool true,oB ka (es[i].take kz),oB va (es[i].drop kz)]):=by
    refine .tuple _ _ rfl (fun j u x hu hx=>?_)
    match j with
    | 0=>injection hu with hu;injection hx with hx;subst hu hx;exact .plain _ _ (.bool _)
    | 1=>injection hu with hu;injection hx with hx;subst hu hx;exact v1.mono st (an4 _)
    | 2=>injection hu with hu;injection hx with hx;subst hu hx;exact v2.mono st (an4 _)
    | j+3=>simp at hx
   have hO:Out G base nt L gh w a s o.dst (.tuple [.bool true,oB ka (es[i].take kz),oB va (es[i].drop kz)]) (s.cy t (.iter g kz ka va es[i] (((E.toList.zip es).filter fun p=>!(seen.push e.born).contains p.1.born).map (·.2)))) (.tuple #[.bool true,e.key,e.val]) gh (setBlock w1 b (.mapIter (some m0) last (seen.push e.born) last)) :=
    Out.of (s1:=s.cy t (.iter g kz ka va es[i] (((E.toList.zip es).filter fun p=>!(seen.push e.born).contains p.1.born).map (·.2)))) (gen':=s.gen) mg GC hE' (an4 _) hd (.inl rfl) (fun k hk=>nI rfl (.inl hv))
   refine sQ.wp (.inl ?_) (hK1 es[i] _ (BA.trans afd) (.tuple #[.bool true,e.key,e.val]) gh _ hO)
   simp[execOp,ho,qh,dm]
end
end
end Go.Abs
namespace Go.Abs
section
section
variable {P:Program}{G:Nat->List AV}{base nt:Nat}{L:List Nat}{gh lB:Gh}{w w' : World}{a:Act}{s:AS}{H:ai}
theorem xK{α:Type}{sz:Nat} : ∀ (e:List (List α)) (idx:Nat) (x:α),(∀ r∈e,r.length=sz)->e.flatten[idx]?=some x->∃ i j r,e[i]?=some r/\r[j]?=some x/\idx=i*sz+j
 | [],_,_,_,h=>by simp at h
 | r :: e,idx,x,hr,h=>by
  rw[ao7] at h
  by_cases hl:idx<r.length
  ·rw[aot hl] at h;exact⟨0,idx,r,rfl,h,by simp⟩
  ·rw[aou (by omega)] at h
   obtain⟨i,j,r',h1,h2,h3⟩:=xK e _ x (fun r h=>hr r (by simp[h])) h
   have:=hr r (by simp)
   exact⟨i+1,j,r',by simpa using h1,h2,by rw[aoM];omega⟩
theorem nv{α:Type}{sz:Nat} : ∀ (e:List (List α)),(∀ r∈e,r.length=sz)->e.flatten.length=e.length*sz
 | [],_=>by simp
 | r :: e,hr=>by
  have:=hr r (by simp)
  have ih:=nv e (fun r h=>hr r (by simp[h]))
  simp only[ao7,aod,an0,aoM];omega
theorem uM{l m:Nat}{x:AV}(h:iE l x=true)(hl:l<=m):iE m x=true:=by
 cases x<;>first|exact h|(simp only[iE,aoU] at h ⊢;omega)
theorem wV{l m:Nat}{x:AV}(h:k8 l x=true)(hl:l<=m):k8 m x=true:=by
 unfold k8 at h ⊢
 split
 ·exact an'.2 fun y hy=>uM (an'.1 h y hy) hl
 ·rename_i hn
  split at h
  ·exact absurd rfl (hn _)
  ·exact uM h hl
theorem GI{l m:Nat}{x:AV}(h:bD l x=true)(hl:l<=m):bD m x=true:=by
 cases x
 case func f fs cs =>
  simp only[bD,an7,an'] at h ⊢
  exact⟨fun y hy=>wV (h.1 y hy) hl,fun y hy=>wV (h.2 y hy) hl⟩
 all_goals first|exact h|(simp only[bD,aoU] at h ⊢;omega)
theorem bc.arr(hW:bc G base H gh w){aX:Gh}{touch:bM->Prop}(st:Step touch H.length gh w aX w'){H' : ai}(hlen:H'.length=H.length)
  (hold:∀ (loc:Nat) (o:cJ),H'[loc]?=some o->(H[loc]?=some o/\¬ touch (.hb loc)/\∀ j,¬ touch (.hs loc j))\/o=.dead)
  (hs:∀ b o,aX.S b o->gh.S b o) (hk:∀ b,aX.κ b≠.none->base<=b/\b<w'.heap.size) {cs:List AV}
  (hB:iw aX (H.length+1) w' (aX.ρ H.length) (.hb H.length) (fun j=>.hs H.length j) cs) (hr:cs.all (bD H.length)=true):bc G base (H'++[.box dv cs]) aX w':=by
 have last:∀ {loc:Nat} {o:cJ},(H'++[cJ.box dv cs])[loc]?=some o->(loc<H.length/\H'[loc]?=some o)\/(loc=H.length/\o=.box dv cs):=by
  intro loc o hl
  by_cases bA:loc<H'.length
  ·rw[aot bA] at hl;exact .inl ⟨by omega,hl⟩
  ·rw[aou (by omega)] at hl
   have hz:loc=H'.length:=by
    have:=(an2.1 hl).1
    simp at this;omega
   subst hz
   simp at hl
   exact .inr ⟨hlen,hl.symm⟩
 have hln:(H'++[cJ.box dv cs]).length=H.length+1:=by simp[hlen]
 refine⟨apk hW.size st.size,fun b o ho=>apz (hW.nT b o (hs b o ho)) st.size,hk,fun g j x hx=>?_,fun loc ty ds hl=>?_,fun loc ty ds hl=>?_,fun g hg=>(hW.xE g hg).imp fun ty h=>st.len g ty _ h,hW.kB st (fun b o m h=>.inl (hs b o h)),fun loc o hl=>?_,fun loc ty ds hl hf=>?_⟩
 ·obtain⟨v,h1,h2,h3⟩:=hW.aZ g j x hx
  exact⟨v,(st.cell g j h3).trans h1,h2.mono st.S st.cell st.mp,st.S g j h3⟩
 ·rw[hln]
  rcases last hl with ⟨bA,hl⟩|⟨rfl,ho⟩
  ·rcases hold loc _ hl with ⟨h0,h1,h2⟩|h0
   ·rw[st.ρ loc bA];exact (hW.boxes loc ty ds h0).mono st (ao6 _) h1 h2
   ·cases h0
  ·injection ho with e1 e2
   subst e1 e2
   exact hB
 ·rcases last hl with ⟨bA,hl⟩|⟨rfl,ho⟩
  ·rcases hold loc _ hl with ⟨h0,_⟩|h0
   ·exact hW.refs loc ty ds h0
   ·cases h0
  ·injection ho with e1 e2
   subst e1 e2
   exact hr
 ·rw[hln]
  rcases last hl with ⟨bA,hl⟩|⟨rfl,rfl⟩
  ·rcases hold loc _ hl with ⟨h0,h1,h2⟩|rfl
   ·rw[st.ρ loc bA];exact (hW.more loc o h0).mono st (ao6 _) h1 h2
   ·trivial
  ·trivial
 ·rcases last hl with ⟨bA,hl⟩|⟨rfl,ho⟩
  ·rcases hold loc _ hl with ⟨h0,_⟩|h0
   ·rw[st.ρ loc bA];exact st.len _ _ _ (hW.types loc ty ds h0 hf)
   ·cases h0
  ·injection ho with e1 e2
   exact absurd e1 hf
def Gh.rename(gh:Gh)(l n b:Nat):Gh where
 S:=gh.S
 κ:=fun x=>match gh.κ x with
  | .hb i=>if i=l then .hb n else .hb i
  | .hs i j=>if i=l then .hs n j else .hs i j
  | k=>k
 ρ:=fun i=>if i=n then b else gh.ρ i
theorem Si{l n b x:Nat}(h:gh.κ x≠.hb l/\∀ j,gh.κ x≠.hs l j):(gh.rename l n b).κ x=gh.κ x:=by
 simp only[Gh.rename]
 generalize gh.κ x=k at h
 cases k with
 | hb i=>simp only;rw[if_neg (fun e=>h.1 (by rw[e]))]
 | hs i j=>simp only;rw[if_neg (fun e=>h.2 j (by rw[e]))]
 | _=>rfl
theorem xc{l n b x:Nat} : (gh.rename l n b).κ x=.none↔gh.κ x=.none:=by
 simp only[Gh.rename]
 generalize gh.κ x=k
 cases k with
 | hb i=>simp only;split<;>simp
 | hs i j=>simp only;split<;>simp
 | _=>simp
theorem pW{l n b x:Nat} : (gh.rename l n b).κ x=.outer↔gh.κ x=.outer:=by
 simp only[Gh.rename]
 generalize gh.κ x=k
 cases k with
 | hb i=>simp only;split<;>simp
 | hs i j=>simp only;split<;>simp
 | _=>simp
def jm(l:Nat)(r:bM):Prop:=r=.hb l\/∃ j,r=.hs l j
theorem Step.renamed{touch:bM->Prop}{m l n b:Nat}(st:Step touch m gh w lB w')(hn:m<=n)(ht:∀ r,touch r->jm l r):Step (jm l) m gh w (lB.rename l n b) w':=by
 refine⟨st.S,st.cell,st.size,st.os,st.tape,st.output,fun x hx nN=>?_,fun x hx=>?_,fun loc hl=>?_,st.len,st.mp⟩
 ·obtain⟨k1,k2,k3⟩:=st.Ap x hx (fun h=>nN (ht _ h))
  refine⟨k1,?_,k3⟩
  rw[Si (by rw[k2];exact⟨fun h=>nN (.inl h),fun j h=>nN (.inr ⟨j,h⟩)⟩),k2]
 ·intro h
  exact st.fresh x hx (pW.1 h)
 ·show (if loc=n then _ else _)=_
  rw[if_neg (by omega)]
  exact st.ρ loc hl
theorem CR.rename{m m' l n b j:Nat}{v:Value}{x:AV}(h:CR gh m w (.hs l j) v x)(hf:∀ b,w.heap.size<=b->gh.κ b≠.outer)(hm:m<=n)(YT:m<=m'):CR (gh.rename l n b) m' w (.hs n j) v x:=by
 have st:Step (jm l) m gh w (gh.rename l n b) w:=Step.renamed (touch:=fun _=>False) (Step.refl _ _ _ _ hf) hm (fun _ h=>h.elim)
 rcases h with h|⟨e,rfl,h1,b',cap,C,ty,lo,hi,sz,hv,hk,he,hb,hC,hr,hl,hh,hS⟩
 ·exact .inl (h.mono st YT)
 ·exact .inr ⟨e,rfl,h1,b',cap,C,ty,lo,hi,sz,hv,by simp[Gh.rename,hk],he,hb,hC,hr,hl,hh,hS⟩
theorem z6(l:Nat)(i:Nat):¬ jm l (.bx i)/\¬ jm l (.sl i)/\∀ j,¬ jm l (.sc i j):=by
 refine⟨?_,?_,fun j=>?_⟩<;>(rintro (h|⟨_,h⟩)<;>cases h)
theorem DX(l:Nat)(r:bM)(h:jm l r):pv r:=by
 rcases h with rfl|⟨j,rfl⟩<;>exact⟨by simp,by simp⟩
theorem Out.arr(hF:FR L nt gh w a s){d:Option Nat}(hd:∀ k,d=some k->k<nt){aX:Gh}{l:Nat}(st:Step (jm l) s.H.length gh w aX w')(ho:∀ b,aX.κ b=.outer->gh.κ b=.outer){H' : ai}{lo k cap z:Nat}(hlen:H'.length=s.H.length){cs:List AV}
  (hW:bc G base (H'++[.box dv cs]) aX w') (hk:k<=cap) (hz:∃ ty,py w' (aX.ρ s.H.length) ty (0+cap*z)) :
  Out G base nt L gh w a s d (.sref s.H.length 0 k z) (s.gL ⟨H'++[.box dv cs],lo⟩) (.slice (some ⟨aX.ρ s.H.length,0,none⟩) k cap) aX w':=by
 have hv:VR aX (H'++[cJ.box dv cs]).length w' (.slice (some ⟨aX.ρ s.H.length,0,none⟩) k cap) (.sref s.H.length 0 k z):=.sref _ 0 k cap z (by simp[hlen]) hk (fun _=>hz)
 exact⟨hW,hF.put st (z6 l) (by simp[hlen]) d hd (.dO hv),⟨st.mono (DX l),ho⟩⟩
theorem rL{sz:Nat}{A:Array Value}{E:List (List AV)}{S:Nat->Nat->Prop}(h:iS S w sz A E){j:Nat}{x:AV}(hx:E.flatten[j]?=some x):∃ v,A[j]?=some v/\PR S w v x:=by
 obtain⟨i,k,r,h1,h2,rfl⟩:=xK E j x (fun r hm=>by obtain⟨i,hi⟩:=aoC hm;exact h.2.1 i r hi) hx
 exact h.2.2 i k r x h1 h2
theorem BQ{n:Nat}{p:bM}{V:Value}(h:CR gh n w p V (.slice [] true)):∃ ao,V=.slice ao 0 0:=by
 rcases h with h|⟨e',heq,_,b,cap,C,ty,lo,hi,jC,ib,hk,ff,_⟩
 ·cases h with
  | plain _ _ h=>cases h
  | full ao k _ h hz =>
   cases h with
   | dM=>exact⟨none,rfl⟩
   | slice b o _ _ jC _ _ hn=>simp at hn;subst hn;exact⟨_,rfl⟩
 ·injection heq with h1;subst h1;exact absurd rfl ff
theorem XP{t e:TypeId}{sz:Nat}(ht:P.underlying t=some (.slice e))(ao:Option Addr):Src P sz t (.slice ao 0 0) 0 [] w:=by
 refine⟨.inl ⟨_,ht⟩,fun _=>rfl,?_,?_,by simp,fun _ h=>by cases h⟩
 ·cases ao with
  | none=>exact run_firstCells_none w _ 0 0 0
  | some ad=>exact run_firstCells_some w _ 0 ad 0 0 [] (by simp) (fun j v h=>by simp at h)
 ·cases ao with
  | none=>exact run_firstCells_none w.drew _ 0 0 0
  | some ad=>exact run_firstCells_some w.drew _ 0 ad 0 0 [] (by simp) (fun j v h=>by simp at h)
theorem oG{f:List (List AV)}(h:fZ f=true){x:AV}(hx:x∈f.flatten):x.plain=true:=by
 obtain⟨r,hr,hx⟩:=aqI.1 hx
 exact an'.1 (an'.1 h r hr) x hx
theorem lU{x:AV}(h:x.plain=true)(n:Nat):bD n x=true:=qT h
theorem Gg(hW:bc G base s.H gh w)(hF:FR L nt gh w a s){o:Oper}{c:Call}{x y:Operand}{t u e:TypeId}{sz bytes:Nat}{yx yy:aC}{z:AV}{s' : Option AS}
  (ho:o.op=.call c) (iT:c.callee=.builtin .append) (fP:c.args.toList=[x,y]) (kV:c.argTypes.toList=[t,u]) (hT:wz P t e sz bytes) (hu:(∃ e',P.underlying u=some (.slice e'))\/P.underlying u=some .string)
  (fq:au nt x=some yx) (za:au nt y=some yy) (he:jH s sz bytes (yx.addr G s.T) (yy.eval G s.T)=some (z,s')) (hd:∀ k,o.dst=some k->k<nt) :
  ∃ v' aX w',sQ P a o w v' w'/\Out G base nt L gh w a s o.dst z (s'.getD s) v' aX w':=by
 have gm:=fun b hb=>hW.cB (gh:=gh) b hb
 simp only[jH,anU] at he
 obtain⟨f,hf,he⟩:=he
 obtain⟨i,zv,hi,_,rfl,_⟩:=hT.hi
 have fresh:∀ ao,a.eval x=.slice ao 0 0->cond (!f.isEmpty&&dE i.size bytes [] f&&fZ f) (some (AV.sref s.H.length 0 f.length i.size,some (s.gL ⟨s.H++[.box dv f.flatten],s.H.length⟩))) none=some (z,s') ->
   ∃ v' aX w',sQ P a o w v' w'/\Out G base nt L gh w a s o.dst z (s'.getD s) v' aX w':=by
  intro ao hV he
  obtain⟨h0,he⟩:=ag he
  simp only[anV,anY] at he
  obtain⟨rfl,rfl⟩:=he
  simp only[an7,dE,aoU,an1,Nat.zero_add,aoT,aqf] at h0
  obtain⟨⟨ff,⟨⟨AL,lT⟩,_⟩,hh⟩,vo⟩:=h0
  obtain⟨news,hs,dH⟩:=rY (P:=P) hW hF za hf hh hu
  have ajV:0<f.length:=aqO.2 ff
  obtain⟨r6,C',dm,j4,MQ,sj⟩:=grow (P:=P) (ty:=o.type) (ao:=ao) (sLen:=0) (sCap:=0) hT (XP (w:=w) hT.ht ao).cellsD (by simp) hs (by omega) (by omega) (by simpa using AL)
  have mI:fI w (w.drew.alloc (.cells C' e)) (.cells C' e):=.drew w _
  have zY:=gG hW mI
  have st:Step (jm s.H.length) s.H.length gh w (gh.bL w.heap.size s.H.length) (w.drew.alloc (.cells C' e)):=zY.mono (fun _ h=>h.elim)
  have hρ:(gh.bL w.heap.size s.H.length).ρ s.H.length=w.heap.size:=by simp[Gh.bL]
  have aeJ:f.flatten.length<=C'.size:=by
   have h1:f.flatten.length=f.length*i.size:=nv f (fun r hm=>by obtain⟨k,hk⟩:=aoC hm;exact dH.2.1 k r hk)
   rw[h1,MQ]
   exact aoo _ (by omega)
  have hB:iw (gh.bL w.heap.size s.H.length) (s.H.length+1) (w.drew.alloc (.cells C' e)) ((gh.bL w.heap.size s.H.length).ρ s.H.length) (.hb s.H.length) (fun j=>.hs s.H.length j) f.flatten:=by
   rw[hρ]
   refine⟨by simp[Gh.bL,Gh.alloc],?_,C',e,mI.new,aeJ,fun j v x hv hx=>?_⟩
   ·rintro o (ho|⟨_,ho⟩)
    ·have:=hW.nT _ o ho;omega
    ·exact ho
   ·obtain⟨v',tW,hp⟩:=rL dH hx
    have bA:=(aob.1 tW).1
    rw[sj j (by simpa using bA)] at hv
    simp only[ao0] at hv
    rw[tW] at hv
    injection hv with hv
    subst hv
    exact⟨hp.fR,.inl (.plain _ _ (hp.mono st.S st.cell st.mp))⟩
  have hr:f.flatten.all (bD s.H.length)=true:=an'.2 fun x hx=>lU (oG vo hx) _
  have mg:=hW.arr zY (H':=s.H) rfl (fun loc o h=>.inl ⟨h,id,fun _=>id⟩) (fun b o h=>h.elim id (fun h=>h.2.elim)) (fun b hb=>by
   rw[mI.size]
   have gO:(if b=w.heap.size then bM.hb s.H.length else gh.κ b)≠.none:=hb
   split at gO
   ·have:=hW.size;omega
   ·have:=hW.pR b gO;omega) hB hr
  refine⟨_,gh.bL w.heap.size s.H.length,w.drew.alloc (.cells C' e),.inl (gW ho iT fP kV (by rw[hV];exact dm)),?_⟩
  have:=Out.arr (lo:=s.H.length) (k:=0+f.length) (cap:=r6) (z:=i.size) hF hd st (fun b hb=>(jQ hW mI).out b hb) rfl mg j4 ⟨e,by rw[hρ];exact⟨C',(0,0),mI.new,by rw[MQ,Nat.zero_add]⟩⟩
  rw[hρ,Nat.zero_add] at this
  rw[Nat.zero_add]
  exact this
 split at he
 ·rename_i hx
  have l8:∃ p,CR gh s.H.length w p (a.eval x) (.slice [] true):=by
   cases yx with
   | tmp t0 =>
    obtain⟨rfl,ht⟩:=jD fq
    have Px:s.T t0=.slice [] true:=by
     simp only[aC.addr] at hx
     split at hx<;>first|cases hx|exact hx
    exact⟨_,Ci hF ht Px⟩
   | bC v =>
    simp only[aC.addr] at hx
    subst hx
    cases x with
    | tmp k =>
     simp only[au] at fq
     rcases ao4 (Nat.blt k nt) with hb|hb<;>rw[hb] at fq<;>simp at fq
    | const u =>
     simp only[au,anT] at fq
     obtain⟨zz,hz,h⟩:=fq
     injection h with h
     subst h
     exact⟨.none,.inl (jG hz)⟩
    | global g=>simp[au] at fq
    | func f=>simp[au] at fq
   | aZ g=>simp[aC.addr] at hx
   | fn f=>simp[aC.addr] at hx
  obtain⟨_,l8⟩:=l8
  obtain⟨ao,hV⟩:=BQ l8
  exact fresh ao hV he
 ·rename_i hx
  exact fresh none (nV hW hF fq hx rfl).lJ he
 ·rename_i l of n zz hx
  split at he
  ·rename_i ty cs hH
   obtain⟨h0,he⟩:=ag he
   simp only[anV,anY] at he
   obtain⟨rfl,rfl⟩:=he
   simp only[an7,gI,aoq,aoU] at h0
   obtain⟨⟨⟨⟨⟨⟨rfl,rfl⟩,ia⟩,AL⟩,lT⟩,hh⟩,vo⟩:=h0
   obtain⟨news,hs,dH⟩:=rY (P:=P) hW hF za hf hh hu
   obtain⟨bA,cap,aj8,hzB,hV⟩:=VR.jN (nV hW hF fq hx rfl)
   obtain⟨tyb,Cb,frb,JC,hCb⟩:=hzB (by have:=hT.pos;omega)
   obtain⟨hκ,hS,C,Od,hb,hle,dw⟩:=hW.boxes l ty cs hH
   rw[hb] at JC
   injection JC with JC
   injection JC with e1 e2 e3
   subst e1 e2 e3
   rw[Nat.zero_add] at hCb
   have uP:(C.toList.take (n*i.size)).length=n*i.size:=by simp;omega
   have hold:∀ {j:Nat} {x:AV},cs[j]?=some x->∃ v,C[j]?=some v/\v.oneCell'=true/\CR gh s.H.length w (.hs l j) v x:=by
    intro j x hj
    have h1:=(an2.1 hj).1
    have hv:C[j]?=some C[j]:=aok (by omega)
    obtain⟨k1,k2⟩:=dw j _ x hv hj
    exact⟨_,hv,k1,k2⟩
   have gT:∀ v∈C.toList.take (n*i.size),v.oneCell'=true:=by
    intro v hv
    obtain⟨j,hj⟩:=aoC hv
    have h1:j<n*i.size:=by rw[<- uP];exact (an2.1 hj).1
    rw[aov,if_pos h1] at hj
    obtain⟨v',k1,k2,_⟩:=hold (an3 (show j<cs.length by omega))
    rw[aoL,k1] at hj
    injection hj with hj
    subst hj
    exact k2
   have PX:Src P i.size t (.slice (some ⟨gh.ρ l,0,none⟩) n cap) n (C.toList.take (n*i.size)) w:=.ofSlice w hT.ht ⟨gh.ρ l,0,none⟩ n cap _ uP (fun j u hj=>by
    rw[addr_add,Nat.zero_add,cell_of_row w _ j C Od _ hb]
    rw[aov] at hj
    split at hj
    ·simpa using hj
    ·cases hj) gT
   have qk:news.length=f.length*i.size:=hs.newsLen
   have C8:f.flatten.length=f.length*i.size:=nv f (fun r hm=>by obtain⟨k,hk⟩:=aoC hm;exact dH.2.1 k r hk)
   have hrefs:(cs++f.flatten).all (bD s.H.length)=true:=by
    rw[List.all_append,an7]
    refine⟨an'.2 fun x hx=>?_,an'.2 fun x hx=>lU (oG vo hx) _⟩
    exact GI (an'.1 (hW.refs l ty cs hH) x hx) (by omega)
   have YN:∀ {touch:bM->Prop},(∀ r,touch r->jm l r)->∀ (loc:Nat) (o:cJ),(s.H.set l .dead)[loc]?=some o->(s.H[loc]?=some o/\¬ touch (.hb loc)/\∀ j,¬ touch (.hs loc j))\/o=.dead:=by
    intro touch ht loc o h
    rw[ao8] at h
    split at h
    ·injection h with h;exact .inr h.symm
    ·rename_i ff
     refine .inl ⟨h,fun k=>?_,fun j k=>?_⟩
     ·rcases ht _ k with k|⟨_,k⟩
      ·injection k with k;exact ff k.symm
      ·cases k
     ·rcases ht _ k with k|⟨_,k⟩
      ·cases k
      ·injection k with k;exact ff k.symm
   by_cases hgr:cap<n+f.length
   ·
    obtain⟨r6,C',dm,j4,MQ,sj⟩:=grow (P:=P) (ty:=o.type) hT PX.cellsD uP hs hgr lT AL
    have mI:fI w (w.drew.alloc (.cells C' e)) (.cells C' e):=.drew w _
    have zY:=iK hW mI (p:=.hb l) (by simp) (fun _=>False) s.H.length
    have st:=zY.renamed (n:=s.H.length) (b:=w.heap.size) (l:=l) (an4 _) (fun _ h=>h.elim)
    have hρ:((gh.alloc w.heap.size (.hb l) fun _=>False).rename l s.H.length w.heap.size).ρ s.H.length=w.heap.size:=by simp[Gh.rename]
    have aaL:∀ b,(w.drew.alloc (.cells C' e)).heap.size<=b->(gh.alloc w.heap.size (.hb l) fun _=>False).κ b≠.outer:=fun b hb=>by
     have hb0:=mI.size ▸ hb
     show (if b=w.heap.size then bM.hb l else gh.κ b)≠_
     rw[if_neg (by omega)]
     exact hW.cB b (by omega)
    have hB:iw ((gh.alloc w.heap.size (.hb l) fun _=>False).rename l s.H.length w.heap.size) (s.H.length+1) (w.drew.alloc (.cells C' e)) (((gh.alloc w.heap.size (.hb l) fun _=>False).rename l s.H.length w.heap.size).ρ s.H.length) (.hb s.H.length) (fun j=>.hs s.H.length j) (cs++f.flatten):=by
     rw[hρ]
     refine⟨by simp[Gh.rename,Gh.alloc],?_,C',e,mI.new,?_,fun j v x hv hx=>?_⟩
     ·rintro o (ho|⟨_,ho⟩)
      ·have:=hW.nT _ o ho;omega
      ·exact ho
     ·rw[aod,ia,C8,MQ,<- aoM]
      exact aoo _ j4
     ·have hj:j<(C.toList.take (n*i.size)++news).toArray.size:=by
       have:=(an2.1 hx).1
       rw[aod,ia,C8] at this
       simp only[apx,aod,uP,qk];exact this
      rw[sj j hj] at hv
      simp only[aow,apa,uP] at hv
      rw[apa,ia] at hx
      split at hv
      ·rename_i h1
       rw[if_pos h1] at hx
       obtain⟨v',k1,k2,k3⟩:=hold hx
       rw[aov,if_pos h1,aoL,k1] at hv
       injection hv with hv
       subst hv
       exact⟨k2,(k3.mono zY (an4 _) id).rename aaL (an4 _) (ao6 _)⟩
      ·rename_i h1
       rw[if_neg h1] at hx
       obtain⟨v',k1,k2⟩:=rL dH hx
       simp only[aow] at k1
       rw[k1] at hv
       injection hv with hv
       subst hv
       exact⟨k2.fR,.inl (.plain _ _ (k2.mono st.S st.cell st.mp))⟩
    have mg:=hW.arr st (H':=s.H.set l .dead) (by simp) (YN (fun _ h=>h)) (fun b o h=>h.elim id (fun h=>h.2.elim)) (fun b hb=>by
     rw[mI.size]
     have AL:(gh.alloc w.heap.size (.hb l) fun _=>False).κ b≠.none:=fun h=>hb (xc.2 h)
     have gO:(if b=w.heap.size then bM.hb l else gh.κ b)≠.none:=AL
     split at gO
     ·have:=hW.size;omega
     ·have:=hW.pR b gO;omega) hB hrefs
    refine⟨_,(gh.alloc w.heap.size (.hb l) fun _=>False).rename l s.H.length w.heap.size,w.drew.alloc (.cells C' e),.inl (gW ho iT fP kV (by rw[hV];exact dm)),?_⟩
    have:=Out.arr (lo:=l) (k:=n+f.length) (cap:=r6) (z:=i.size) hF hd st (fun b hb=>by
     have AL:=pW.1 hb
     have gO:(if b=w.heap.size then bM.hb l else gh.κ b)=.outer:=AL
     split at gO
     ·cases gO
     ·exact gO) (by simp) mg j4 ⟨e,by rw[hρ];exact⟨C',(0,0),mI.new,by rw[MQ,Nat.zero_add]⟩⟩
    rw[hρ] at this
    exact this
   ·
    have nA:n+f.length<=cap:=by omega
    have jA:n*i.size+news.length<=C.size:=by rw[qk,hCb,<- aoM];exact aoo _ nA
    have dm:=room (P:=P) (ty:=o.type) hT hs hb (aoW _) nA jA
    have lC:n*i.size+news.toArray.size<=C.size:=by simpa using jA
    have nN:∀ o,gh.S (gh.ρ l) o->(fT C (n*i.size) news.toArray)[o]?=C[o]?:=fun o ho=>(hS o ho).elim
    have zY:=mX hW hb (dS lC) nN s.H.length
    rw[hκ] at zY
    have st:=zY.renamed (n:=s.H.length) (b:=gh.ρ l) (l:=l) (an4 _) (fun r h=>.inl h)
    have hρ:(gh.rename l s.H.length (gh.ρ l)).ρ s.H.length=gh.ρ l:=by simp[Gh.rename]
    have iF:(w.setRow (gh.ρ l) (fT C (n*i.size) news.toArray)).heap.size=w.heap.size:=by simp
    have aaA:gh.ρ l<w.heap.size:=(aob.1 hb).1
    have aaL:∀ b,(w.setRow (gh.ρ l) (fT C (n*i.size) news.toArray)).heap.size<=b->gh.κ b≠.outer:=fun b hb=>hW.cB b (by rw[iF] at hb;exact hb)
    have hB:iw (gh.rename l s.H.length (gh.ρ l)) (s.H.length+1) (w.setRow (gh.ρ l) (fT C (n*i.size) news.toArray)) ((gh.rename l s.H.length (gh.ρ l)).ρ s.H.length) (.hb s.H.length) (fun j=>.hs s.H.length j) (cs++f.flatten):=by
     rw[hρ]
     refine⟨by simp[Gh.rename,hκ],hS,_,Od,setRow_heap w _ C _ Od _ hb,?_,fun j v x hv hx=>?_⟩
     ·rw[aod,ia,C8,dS lC,hCb,<- aoM]
      exact aoo _ nA
     ·rw[jR lC] at hv
      have vS:=(an2.1 hx).1
      rw[aod,ia,C8] at vS
      rw[apa,ia] at hx
      simp only[apx] at hv
      split at hx
      ·rename_i h1
       rw[if_neg (by omega)] at hv
       obtain⟨v',k1,k2,k3⟩:=hold hx
       rw[k1] at hv
       injection hv with hv
       subst hv
       exact⟨k2,(k3.mono zY (an4 _) (by simp)).rename aaL (an4 _) (ao6 _)⟩
      ·rename_i h1
       rw[if_pos (by omega)] at hv
       obtain⟨v',k1,k2⟩:=rL dH hx
       rw[k1] at hv
       injection hv with hv
       subst hv
       exact⟨k2.fR,.inl (.plain _ _ (k2.mono st.S st.cell st.mp))⟩
    have mg:=hW.arr st (H':=s.H.set l .dead) (by simp) (YN (fun _ h=>h)) (fun b o h=>h) (fun b hb=>by
     rw[iF]
     exact hW.pR b (fun h=>hb (xc.2 h))) hB hrefs
    refine⟨_,gh.rename l s.H.length (gh.ρ l),w.setRow (gh.ρ l) (fT C (n*i.size) news.toArray),.inl (gW ho iT fP kV (by rw[hV];exact dm)),?_⟩
    have:=Out.arr (lo:=l) (k:=n+f.length) (cap:=cap) (z:=i.size) hF hd st (fun b hb=>pW.1 hb) (by simp) mg nA ⟨Od,by rw[hρ];exact⟨_,(0,0),setRow_heap w _ C _ Od _ hb,by rw[dS lC,hCb,Nat.zero_add]⟩⟩
    rw[hρ] at this
    exact this
  ·cases he
 ·cases he
theorem Jd(hW:bc G base s.H gh w)(hF:FR L nt gh w a s){o:Oper}{c:Call}{x y:Operand}{t u e:TypeId}{sz bytes:Nat}{yx yy:aC}{z:AV}{s' : Option AS}
  (ho:o.op=.call c) (iT:c.callee=.builtin .append) (fP:c.args.toList=[x,y]) (kV:c.argTypes.toList=[t,u]) (hT:wz P t e sz bytes) (hu:(∃ e',P.underlying u=some (.slice e'))\/P.underlying u=some .string)
  (fq:au nt x=some yx) (za:au nt y=some yy) (he:jo s sz bytes (yx.addr G s.T) (yy.eval G s.T)=some (z,s')) (hd:∀ k,o.dst=some k->k<nt) :
  ∃ v' aX w',sQ P a o w v' w'/\Out G base nt L gh w a s o.dst z (s'.getD s) v' aX w':=by
 unfold jo at he
 split at he
 ·rename_i v hn
  simp only[anV,anY] at he
  obtain⟨rfl,rfl⟩:=he
  obtain⟨i,zv,hi,_,rfl,_⟩:=hT.hi
  have P0:((∃ o,yy.eval G s.T=.slice [] o)\/yy.eval G s.T=.af)->∃ news,Src P i.size u (a.eval y) 0 news w:=by
   rintro (⟨o,hY⟩|hY)
   ·obtain⟨news,k1,_⟩:=rY (P:=P) (sz:=i.size) (f:=[]) hW hF za (by rw[hY];rfl) rfl hu
    exact⟨news,k1⟩
   ·rw[(cY hW hF za hY rfl).lJ]
    refine⟨[],hu,fun _=>rfl,run_firstCells_none w _ 0 0 0,run_firstCells_none w.drew _ 0 0 0,by simp,fun _ h=>by cases h⟩
  have key:(∃ ao,a.eval x=.slice ao 0 0/\VR gh s.H.length w (a.eval x) v)/\((∃ o,yy.eval G s.T=.slice [] o)\/yy.eval G s.T=.af):=by
   generalize hY:yy.eval G s.T=Y at hn
   generalize hX:yx.addr G s.T=X at hn
   unfold zE at hn
   split at hn
   ·have oI:∃ ao,a.eval x=.slice ao 0 0:=by
     have l8:∃ p,CR gh s.H.length w p (a.eval x) (.slice [] true):=by
      cases yx with
      | tmp t0 =>
       obtain⟨rfl,ht⟩:=jD fq
       have Px:s.T t0=.slice [] true:=by
        simp only[aC.addr] at hX
        split at hX<;>first|cases hX|exact hX
       exact⟨_,Ci hF ht Px⟩
      | bC v =>
       simp only[aC.addr] at hX
       subst hX
       cases x with
       | tmp k =>
        simp only[au] at fq
        rcases ao4 (Nat.blt k nt) with hb|hb<;>rw[hb] at fq<;>simp at fq
       | const u =>
        simp only[au,anT] at fq
        obtain⟨zz,hz,h⟩:=fq
        injection h with h
        subst h
        exact⟨.none,.inl (jG hz)⟩
       | global g=>simp[au] at fq
       | func f=>simp[au] at fq
      | aZ g=>simp[aC.addr] at hX
      | fn f=>simp[aC.addr] at hX
     obtain⟨_,l8⟩:=l8
     exact BQ l8
    obtain⟨ao,Ic⟩:=oI
    have PZ:=nV hW hF fq hX rfl
    split at hn
    ·injection hn with hn;subst hn;exact⟨⟨ao,Ic,PZ⟩,.inl ⟨_,rfl⟩⟩
    ·injection hn with hn;subst hn;exact⟨⟨ao,Ic,PZ⟩,.inr rfl⟩
    ·cases hn
   ·have PZ:=nV hW hF fq hX rfl
    split at hn
    ·injection hn with hn;subst hn;exact⟨⟨none,PZ.lJ,PZ⟩,.inl ⟨_,rfl⟩⟩
    ·injection hn with hn;subst hn;exact⟨⟨none,PZ.lJ,PZ⟩,.inr rfl⟩
    ·cases hn
   ·cases hn
  obtain⟨hxs,hyc⟩:=key
  have P0:=P0 hyc
  obtain⟨ao,hV,hv⟩:=hxs
  obtain⟨news,hs⟩:=P0
  have hnn:news=[]:=by have:=hs.newsLen;simp at this;exact this
  subst hnn
  refine⟨a.eval x,gh,w,.inl (gW ho iT fP kV ?_),Out.pure hW hF hd (.dO hv)⟩
  rw[hV]
  exact run_append_nothing w t u o.type e i hT.ht hi ao 0 0 (an4 _) _ hs
 ·exact Gg hW hF ho iT fP kV hT hu fq za he hd
theorem Gk(hW:bc G base s.H gh w)(hF:FR L nt gh w a s){o:Oper}{t e:TypeId}{len sz:Nat}{parts:Array (Nat × Operand)}{z:List AV}{E:List (List AV)}{ps:List (Nat × aC)}
  (ho:o.op=.buildSlice t len parts) (hu:P.underlying t=some (.slice e)) (hs:fz P e=some sz) (hz:gR P e=some z) (hp:kM nt parts.toList=some ps)
  (Da:len*sz<=16777216) (N8:z.length=sz) (JJ:0<sz) (vo:fZ E=true)
  (he:dp sz (List.replicate len (z.map AV.drop)) (ps.map fun p=>(p.1,(p.2.eval G s.T).drop))=some E) (hd:∀ k,o.dst=some k->k<nt) :
  ∃ v' aX w',sQ P a o w v' w'/\Out G base nt L gh w a s o.dst (.sref s.H.length 0 E.length sz) (s.gL ⟨s.H++[.box dv E.flatten],s.H.length⟩) v' aX w':=by
 obtain⟨C',dm,dH,wW⟩:=w8 (P:=P) hW hF hu hs hz hp Da N8 JJ he
 have mI:=fI.alloc w (.cells C' e)
 have zY:=gG hW mI
 have st:Step (jm s.H.length) s.H.length gh w (gh.bL w.heap.size s.H.length) (w.alloc (.cells C' e)):=zY.mono (fun _ h=>h.elim)
 have hρ:(gh.bL w.heap.size s.H.length).ρ s.H.length=w.heap.size:=by simp[Gh.bL]
 have C8:E.flatten.length=E.length*sz:=nv E (fun r hm=>by obtain⟨k,hk⟩:=aoC hm;exact dH.2.1 k r hk)
 have hB:iw (gh.bL w.heap.size s.H.length) (s.H.length+1) (w.alloc (.cells C' e)) ((gh.bL w.heap.size s.H.length).ρ s.H.length) (.hb s.H.length) (fun j=>.hs s.H.length j) E.flatten:=by
  rw[hρ]
  refine⟨by simp[Gh.bL,Gh.alloc],?_,C',e,mI.new,by rw[C8,dH.1];exact an4 _,fun j v x hv hx=>?_⟩
  ·rintro o (ho|⟨_,ho⟩)
   ·have:=hW.nT _ o ho;omega
   ·exact ho
  ·obtain⟨v',tW,hp⟩:=rL dH hx
   rw[tW] at hv
   injection hv with hv
   subst hv
   exact⟨hp.fR,.inl (.plain _ _ (hp.mono st.S st.cell st.mp))⟩
 have hr:E.flatten.all (bD s.H.length)=true:=an'.2 fun x hx=>lU (oG vo hx) _
 have mg:=hW.arr zY (H':=s.H) rfl (fun loc o h=>.inl ⟨h,id,fun _=>id⟩) (fun b o h=>h.elim id (fun h=>h.2.elim)) (fun b hb=>by
  rw[mI.size]
  have gO:(if b=w.heap.size then bM.hb s.H.length else gh.κ b)≠.none:=hb
  split at gO
  ·have:=hW.size;omega
  ·have:=hW.pR b gO;omega) hB hr
 refine⟨.slice (some ⟨w.heap.size,0,none⟩) len len,gh.bL w.heap.size s.H.length,w.alloc (.cells C' e),.inl ?_,?_⟩
 ·have:(parts.map fun x=>(x.1,a.eval x.2))=parts.map fun p=>(p.1,a.eval p.2):=rfl
  simp[execOp,ho,dm]
 ·have:=Out.arr (lo:=s.H.length) (k:=E.length) (cap:=len) (z:=sz) hF hd st (fun b hb=>(jQ hW mI).out b hb) rfl mg (apy wW) ⟨e,by rw[hρ];exact⟨_,(0,0),mI.new,by rw[dH.1,wW,Nat.zero_add]⟩⟩
  rw[hρ,<- wW] at this
  rw[<- wW]
  exact this
theorem Pe(hW:bc G base s.H gh w)(hF:FR L nt gh w a s){o:Oper}{t e:TypeId}{i:TypeInfo}{zv:Value}{zero:List AV}{x y:Operand}{yx:aC}{z:AV}{s' : Option AS}
  (ho:o.op=.makeSlice t x y) (Lu:DP x y=true) (ht:P.underlying t=some (.slice e)) (hi:P.info? e=some i) (hz:i.zero=some zv) (hzc:ft zv.cells.toList=some zero) (hzs:zv.cells.size=i.size) (JJ:0<i.size)
  (fq:au nt x=some yx) (he:rJ s i.size i.bytes (zero.map AV.drop) (yx.eval G s.T)=some (z,s')) (hd:∀ k,o.dst=some k->k<nt) :
  ∃ v' aX w',sQ P a o w v' w'/\Out G base nt L gh w a s o.dst z (s'.getD s) v' aX w':=by
 simp only[rJ,anU] at he
 obtain⟨k,hk,he⟩:=he
 obtain⟨h0,he⟩:=ag he
 simp only[anV,anY] at he
 obtain⟨rfl,rfl⟩:=he
 simp only[an7,aoU] at h0
 obtain⟨AL,lT⟩:=h0
 obtain⟨kd,MV⟩:=kJ hW hF fq hk
 have hyx:a.eval y=a.eval x:=by
  cases x<;>cases y<;>simp only[DP] at Lu<;>try (cases Lu;done)
  rw[aph Lu]
 have dm:=run_make (P:=P) w t e i zv ht hi hz kd kd (k:Int) (k:Int) (by omega) (by omega) (by
  have:(i.bytes:Int)*k=((k*i.bytes:Nat):Int):=by rw[aqi];simp
  rw[this];omega) (by omega)
 have mI:fI w (w.alloc (.cells (madeCells zv.cells (k*i.size)) e)) (.cells (madeCells zv.cells (k*i.size)) e):=.alloc w _
 have zY:=gG hW mI
 have st:Step (jm s.H.length) s.H.length gh w (gh.bL w.heap.size s.H.length) (w.alloc (.cells (madeCells zv.cells (k*i.size)) e)):=zY.mono (fun _ h=>h.elim)
 have hρ:(gh.bL w.heap.size s.H.length).ρ s.H.length=w.heap.size:=by simp[Gh.bL]
 obtain⟨N8,M5⟩:=kg (gh:=gh) (n:=s.H.length) (w:=w) hzc
 have afo:zero.length=i.size:=by rw[<- hzs];simpa using N8.symm
 have Y1:∀ r∈List.replicate k (zero.map AV.drop),r.length=i.size:=fun r hr=>by rw[aqg hr];simpa using afo
 have C8:(List.replicate k (zero.map AV.drop)).flatten.length=k*i.size:=by rw[nv _ Y1];simp
 have vo:∀ x,x∈(List.replicate k (zero.map AV.drop)).flatten->x.plain=true:=by
  intro x hx
  obtain⟨r,hr,hx⟩:=aqI.1 hx
  rw[aqg hr] at hx
  obtain⟨y,hy,rfl⟩:=aoD.1 hx
  exact ng hzc y hy
 have hB:iw (gh.bL w.heap.size s.H.length) (s.H.length+1) (w.alloc (.cells (madeCells zv.cells (k*i.size)) e)) ((gh.bL w.heap.size s.H.length).ρ s.H.length) (.hb s.H.length) (fun j=>.hs s.H.length j) (List.replicate k (zero.map AV.drop)).flatten:=by
  rw[hρ]
  refine⟨by simp[Gh.bL,Gh.alloc],?_,_,e,mI.new,by rw[C8,size_madeCells];exact an4 _,fun j v x hv hx=>?_⟩
  ·rintro o (ho|⟨_,ho⟩)
   ·have:=hW.nT _ o ho;omega
   ·exact ho
  ·obtain⟨m,q,r,h1,h2,rfl⟩:=xK _ j x Y1 hx
   have hr:r=zero.map AV.drop:=aqg (aoh h1)
   subst hr
   have hq:q<i.size:=by rw[<- afo];simpa using (an2.1 h2).1
   simp only[aol,anT] at h2
   obtain⟨y,hy,rfl⟩:=h2
   have vS:=(aob.1 hv).1
   rw[size_madeCells] at vS
   simp only[madeCells,Array.getElem?_map,Array.getElem?_range,if_pos vS,aoi,anV] at hv
   have aaZ:(m*i.size+q) % zv.cells.size=q:=by rw[hzs,aqi,Nat.mul_add_mod,Nat.mod_eq_of_lt hq]
   rw[aaZ] at hv
   have hqz:q<zv.cells.size:=by omega
   have hc:zv.cells[q]?=some zv.cells[q]:=aok hqz
   have Uu:v=zv.cells[q]:=by rw[<- hv];exact getElem!_pos zv.cells q hqz
   subst Uu
   obtain⟨k1,k2⟩:=M5 q _ y (by rw[aoL];exact hc) hy
   exact⟨k2,.inl ((k1.dropped).mono st (ao6 _))⟩
 have hr:(List.replicate k (zero.map AV.drop)).flatten.all (bD s.H.length)=true:=an'.2 fun x hx=>lU (vo x hx) _
 have mg:=hW.arr zY (H':=s.H) rfl (fun loc o h=>.inl ⟨h,id,fun _=>id⟩) (fun b o h=>h.elim id (fun h=>h.2.elim)) (fun b hb=>by
  rw[mI.size]
  have gO:(if b=w.heap.size then bM.hb s.H.length else gh.κ b)≠.none:=hb
  split at gO
  ·have:=hW.size;omega
  ·have:=hW.pR b gO;omega) hB hr
 refine⟨.slice (some ⟨w.heap.size,0,none⟩) k k,gh.bL w.heap.size s.H.length,w.alloc (.cells (madeCells zv.cells (k*i.size)) e),.inl ?_,?_⟩
 ·have e1:(k:Int).toNat=k:=by simp
  rw[e1] at dm
  simp only[execOp,ho,hyx,MV]
  simp[dm]
 ·have:=Out.arr (lo:=s.H.length) (k:=k) (cap:=k) (z:=i.size) hF hd st (fun b hb=>(jQ hW mI).out b hb) rfl mg (an4 _) ⟨e,by rw[hρ];exact⟨_,(0,0),mI.new,by rw[size_madeCells,Nat.zero_add]⟩⟩
  rw[hρ] at this
  exact this
end
end
section
section
variable {P:Program}{G:Nat->List AV}{base nt:Nat}{L:List Nat}{gh lB:Gh}{w w' : World}{a:Act}{s:AS}{H:ai}
theorem TT(hW:bc G base s.H gh w)(hF:FR L nt gh w a s){o:Oper}{op:BinOp}{t u:TypeId}{x y:Operand}{ix:aC}{neg b:Bool}
  (ho:o.op=.binOp op t x y u) (hc:au nt x=some ix) (hn:Kj P op t y=some neg) (he:RR (ix.eval G s.T)=some b) :
  ∃ v,(execOp a.eval o).run P w=.ok (.value v) w/\mP gh s.H.length nt w s.T s.gen (gv a) v (.bool (neg != b)):=by
 unfold Kj at hn
 split at hn
 ·rename_i e hu
  have hx:∃ ad n c,a.eval x=.slice ad n c/\ad.isNone=b:=by
   generalize hX:ix.eval G s.T=X at he
   unfold RR at he
   split at he
   ·injection he with he
    subst he
    have hv:=cY hW hF hc hX rfl
    generalize a.eval x=V at hv
    cases hv with
    | plain _ _ h=>cases h;exact⟨_,_,_,rfl,rfl⟩
   ·injection he with he
    subst he
    rename_i r es own
    have hp:=(cY hW hF hc hX rfl).iU
    generalize a.eval x=V at hp
    cases hp with
    | slice b of n cap sz _ f hn j4 cb dw de=>exact⟨_,_,_,rfl,rfl⟩
   ·cases he
  obtain⟨ad,n,c,hA,hb⟩:=hx
  have hg:(eqGuard op t x (.const (.slice none 0 0)) (.slice ad n c) (.slice none 0 0)).run P w=.ok () w:=fY (by intro c;simp) (.inl (by simp))
  split at hn
  ·injection hn with hn
   subst hn
   have hr:=Lib.run_eql_slice_nil w t e ad n c 0 0 hu
   refine⟨.bool ad.isNone,?_,.dO (.plain _ _ ?_)⟩
   ·simp only[execOp,ho,hA,show a.eval (.const (.slice none 0 0))=.slice none 0 0 from rfl,Sem.run_bind,hg,hr,Result.andThen_ok,Sem.run_pure]
   ·rw[hb];cases b<;>exact .bool _
  ·injection hn with hn
   subst hn
   have hr:=run_neq_slice_nil_any w t e ad n c 0 0 hu
   refine⟨.bool (!ad.isNone),?_,.dO (.plain _ _ ?_)⟩
   ·simp only[execOp,ho,hA,show a.eval (.const (.slice none 0 0))=.slice none 0 0 from rfl,Sem.run_bind,hg,hr,Result.andThen_ok,Sem.run_pure]
   ·rw[hb];cases b<;>exact .bool _
  ·cases hn
 ·cases hn
theorem TM(hW:bc G base s.H gh w)(hF:FR L nt gh w a s){o:Oper}{t:TypeId}{x:Operand}{y:aC}{cs:List AV}(ho:o.op=.box t x)(hc:au nt x=some y)(ia:(y.eval G s.T).drop.cells=some cs)
  (hd:∀ k,o.dst=some k->k<nt) :
  ∃ v' aX w',sQ P a o w v' w'/\Out G base nt L gh w a s o.dst (.ref s.H.length 0) (s.gL ⟨s.H++[.ba (cs.map AV.drop)],s.H.length⟩) v' aX w':=by
 have cb:=(ph hW hF hc cs ia).dropped
 have hp:fI w (w.alloc (.cells (a.eval x).cells t)) (.cells (a.eval x).cells t):=.alloc w _
 have st:=gG hW hp
 have hρ:(gh.bL w.heap.size s.H.length).ρ s.H.length=w.heap.size:=by simp[Gh.bL]
 have hB:iw (gh.bL w.heap.size s.H.length) (s.H.length+1) (w.alloc (.cells (a.eval x).cells t)) w.heap.size (.hb s.H.length) (fun j=>.hs s.H.length j) (cs.map AV.drop):=by
  refine⟨by simp[Gh.bL,Gh.alloc],?_,_,t,hp.new,apy cb.1.symm,fun j v x hv hx=>?_⟩
  ·rintro o (ho|⟨_,ho⟩)
   ·have:=hW.nT _ o ho;omega
   ·exact ho
  ·obtain⟨h1,h2⟩:=cb.2 j v x hv hx
   exact⟨h2,.inl (h1.mono st (ao6 _))⟩
 have hv:VR (gh.bL w.heap.size s.H.length) (s.H++[cJ.ba (cs.map AV.drop)]).length (w.alloc (.cells (a.eval x).cells t)) (.pointer (some ⟨w.heap.size,0,none⟩)) (.ref s.H.length 0):=by
  have:=VR.ref (gh:=gh.bL w.heap.size s.H.length) (w:=w.alloc (.cells (a.eval x).cells t)) (n:=(s.H++[cJ.ba (cs.map AV.drop)]).length) s.H.length 0 (by simp)
  rw[hρ] at this;exact this
 refine⟨_,_,_,.inl ?_,⟨hW.zO hp (fun _ _ h=>by cases h) hB,hF.put st (fun i=>⟨id,id,fun _=>id⟩) (by simp) o.dst hd (.dO hv),jQ hW hp⟩⟩
 simp[execOp,ho,Instr.box,newVar,newRow]
theorem MA(hW:bc G base s.H gh w)(hF:FR L nt gh w a s){o:Oper}{t:TypeId}{z:List AV}(ho:o.op=.alloc t){kp:Bool}(hz:(gR P t).map (fun z=>cond kp (z.map mD) z)=some z)
  (hd:∀ k,o.dst=some k->k<nt) :
  ∃ v' aX w',sQ P a o w v' w'/\Out G base nt L gh w a s o.dst (.ref s.H.length 0) (s.gL ⟨s.H++[.ba (z.map AV.drop)],s.H.length⟩) v' aX w':=by
 obtain⟨i,zv,hi,M5,afb⟩:=pw (gh:=gh) (n:=s.H.length) (w:=w) hz
 have cb:=afb.dropped
 have hp:fI w (w.alloc (.cells zv.cells t)) (.cells zv.cells t):=.alloc w _
 have st:=gG hW hp
 have hρ:(gh.bL w.heap.size s.H.length).ρ s.H.length=w.heap.size:=by simp[Gh.bL]
 have hB:iw (gh.bL w.heap.size s.H.length) (s.H.length+1) (w.alloc (.cells zv.cells t)) w.heap.size (.hb s.H.length) (fun j=>.hs s.H.length j) (z.map AV.drop):=by
  refine⟨by simp[Gh.bL,Gh.alloc],?_,_,t,hp.new,apy cb.1.symm,fun j v x hv hx=>?_⟩
  ·rintro o (ho|⟨_,ho⟩)
   ·have:=hW.nT _ o ho;omega
   ·exact ho
  ·obtain⟨h1,h2⟩:=cb.2 j v x hv hx
   exact⟨h2,.inl (h1.mono st (ao6 _))⟩
 have hv:VR (gh.bL w.heap.size s.H.length) (s.H++[cJ.ba (z.map AV.drop)]).length (w.alloc (.cells zv.cells t)) (.pointer (some ⟨w.heap.size,0,none⟩)) (.ref s.H.length 0):=by
  have:=VR.ref (gh:=gh.bL w.heap.size s.H.length) (w:=w.alloc (.cells zv.cells t)) (n:=(s.H++[cJ.ba (z.map AV.drop)]).length) s.H.length 0 (by simp)
  rw[hρ] at this;exact this
 refine⟨_,_,_,.inl ?_,⟨hW.zO hp (fun _ _ h=>by cases h) hB,hF.put st (fun i=>⟨id,id,fun _=>id⟩) (by simp) o.dst hd (.dO hv),jQ hW hp⟩⟩
 simp[execOp,ho,wm hi M5]
theorem sI{o:Oper}{c:Call}{x y:Operand}{t u:TypeId}(ho:o.op=.call c)(iT:c.callee=.builtin .copy)(fP:c.args.toList=[x,y])(kV:c.argTypes.toList=[t,u]){v:Value}
  (dm:(Builtin.copy_ #[t,u] o.type #[a.eval x,a.eval y]).run P w=.ok v w'):(execOp a.eval o).run P w=.ok (.value v) w':=by
 have e1:c.args=#[x,y]:=by apply ap9;simpa using fP
 have e2:c.argTypes=#[t,u]:=by apply ap9;simpa using kV
 unfold execOp
 simp only[ho,resolve,iT,e1,e2,invoke,builtin,Sem.run_bind,Sem.run_pure,Result.andThen_ok,aqb,aoc,aof,dm]
theorem HH{k j j' : Nat}(h:(List.range k)[j]?=some j'):j<k/\j'=j:=by
 rw[an2] at h
 obtain⟨h1,h2⟩:=h
 simp at h1 h2
 exact⟨h1,h2.symm⟩
theorem OL{n:Nat}{V:Value}{f:List (List AV)}(h:PR gh.S w V (.slice f false))(hh:iB 1 f=true){k:Nat}(hk:k<=f.length) :
  ∃ (ad:Option Addr) (ln cp:Nat) (sk:List Value),V=.slice ad ln cp/\ln=f.length/\sk.length=k/\(0<k->∃ q,ad=some q/\∀ j v,sk[j]?=some v->w.cell? (q.add j)=some v)/\(∀ r∈f.take k,r.length=1) /\
   ∀ (j:Nat) (u:Value) (x:AV),sk[j]?=some u->((f.take k).flatten)[j]?=some x->u.oneCell'=true/\PR gh.S w u x:=by
 cases h with
 | dM =>
  simp only[an1,apw] at hk
  subst hk
  exact⟨none,0,0,[],rfl,rfl,rfl,fun h=>absurd h (by omega),fun r hm=>by simp at hm,fun j u x h=>by simp at h⟩
 | slice b of ln cap sz _ g hn j4 cb dw de =>
  have iF:f≠[]->sz=1:=fun ff=>zb hh cb ff
  have agk:∀ (i:Nat) (r:List AV),f[i]?=some r->r.length=1:=fun i r hi=>by
   rw[cb i r hi,iF (by rintro rfl;simp at hi)]
  have vat:∀ j,j<k->∃ r x,f[j]?=some r/\r[0]?=some x:=fun j hj=>by
   have hr:=an3 (show j<f.length by omega)
   exact⟨_,_,hr,an3 (by rw[agk _ _ hr];exact Nat.one_pos)⟩
  have dH:∀ r∈f.take k,r.length=1:=fun r hm=>by
   obtain⟨i,hi⟩:=aoC (apD hm);exact agk i r hi
  refine⟨some ⟨b,of,none⟩,ln,cap,(List.range k).map fun j=>g j 0,rfl,hn.symm,by simp,fun _=>⟨_,rfl,fun j v hv=>?_⟩,dH,fun j u x hu hx=>?_⟩
  ·simp only[aol,anT] at hv
   obtain⟨j',xy,rfl⟩:=hv
   obtain⟨bA,rfl⟩:=HH xy
   obtain⟨r,x,h1,h2⟩:=vat _ bA
   obtain⟨_,k2,_⟩:=dw _ 0 r x h1 h2
   rw[iF (by rintro rfl;simp at h1),aqp,aos] at k2
   rw[addr_add];exact k2
  ·simp only[aol,anT] at hu
   obtain⟨j',xy,rfl⟩:=hu
   obtain⟨bA,rfl⟩:=HH xy
   obtain⟨i,q,r,e1,e2,e3⟩:=xK (f.take k) _ x dH hx
   have hq:q=0:=by
    have:=(an2.1 e2).1
    rw[dH r (aoh e1)] at this;omega
   subst hq
   rw[aqp,aos] at e3
   subst e3
   have e1' : f[j']?=some r:=by
    rw[aov,if_pos bA] at e1
    exact e1
   exact⟨(dw _ 0 r x e1' e2).2.2,de _ 0 r x e1' e2⟩
theorem Pa(hW:bc G base s.H gh w)(hF:FR L nt gh w a s){o:Oper}{c:Call}{x y:Operand}{t u e:TypeId}{yx yy:aC}{z:AV}{s' : Option AS}
  (ho:o.op=.call c) (iT:c.callee=.builtin .copy) (fP:c.args.toList=[x,y]) (kV:c.argTypes.toList=[t,u]) (hu:P.underlying t=some (.slice e)) (hs:fz P e=some 1)
  (fq:au nt x=some yx) (za:au nt y=some yy) (he:rH s (yx.addr G s.T) (yy.eval G s.T)=some (z,s')) (hd:∀ k,o.dst=some k->k<nt) :
  ∃ v' aX w',sQ P a o w v' w'/\Out G base nt L gh w a s o.dst z (s'.getD s) v' aX w':=by
 have iF:(P.info? e).map (·.size)=some 1:=hs
 have hm:=arg_val hW hF fq
 unfold rH at he
 split at he
 ·
  rename_i l o0 n zz f own hX hY
  rw[hX] at hm
  obtain⟨bA,cap,hk,_,hA⟩:=VR.jN (hm:VR gh s.H.length w (a.eval x) (.sref l o0 n zz))
  have hp:=(cY hW hF za hY rfl).iU
  split at he
  ·rename_i cs hH
   obtain⟨h0,qi⟩:=ag he
   clear he
   simp only[anV,anY] at qi
   obtain⟨rfl,rfl⟩:=qi
   simp only[an7,gI,aoq,aoU] at h0
   obtain⟨⟨⟨rfl,hh⟩,vo⟩,jA⟩:=h0
   obtain⟨hκ,hS,C,ty,hb,hC,ia⟩:=(hW.more l _ hH:iw gh s.H.length w (gh.ρ l) (.hb l) (fun j=>.hs l j) cs)
   have og:Nat.min f.length n<=f.length:=Nat.min_le_left _ _
   have hkn:Nat.min f.length n<=n:=Nat.min_le_right _ _
   obtain⟨ad,ln,cp,sk,hV,hln,hvl,hq,YZ,de⟩:=OL (n:=0) hp hh og
   generalize N7:Nat.min f.length n=k at *
   have gT:∀ u∈sk,u.oneCell'=true:=by
    intro u hu
    obtain⟨j,hj⟩:=aoC hu
    have vS:j<k:=by rw[<- hvl];exact (an2.1 hj).1
    have C8:(f.take k).flatten.length=k:=by rw[nv _ YZ];simp;omega
    exact (de j u _ hj (an3 (by rw[C8];exact vS))).1
   have PH:o0+sk.toArray.size<=C.size:=by simp;omega
   have dm:(Builtin.copy_ #[t,u] o.type #[a.eval x,a.eval y]).run P w=.ok (.int .i64 (k:Int)) (w.setRow (gh.ρ l) (fT C o0 sk.toArray)):=by
    rw[hA,hV]
    by_cases zc:k=0
    ·have hv0:sk=[]:=aoy.1 (by omega)
     have Lr:fT C o0 (#[]:Array Value)=C:=by simp[fT]
     rw[hv0,Lr,setRow_self w _ C ty (0,0) hb]
     have:=run_copy_none (P:=P) w t u o.type e (some ⟨gh.ρ l,o0,none⟩) ad n cap ln cp hu iF (by rw[hln,N7];exact zc)
     rw[this,zc];rfl
    ·obtain⟨q,rfl,aiw⟩:=hq (by omega)
     have:=run_copy_row (P:=P) w t u o.type e (gh.ρ l) o0 n cap q ln cp C ty sk hu iF hb (by rw[hvl,hln,N7]) aiw (by simpa using PH) gT
     rw[this]
     simp[fT,hvl,goInt]
   have nN:∀ o,gh.S (gh.ρ l) o->(fT C o0 sk.toArray)[o]?=C[o]?:=fun o ho=>(hS o ho).elim
   have BD:=dS PH
   have st:=mX hW hb BD nN s.H.length
   have hE:=zS hW hb BD nN (by rw[hκ];simp) (by rw[hκ];simp) s.H.length
   rw[hκ] at st
   have dH:(f.take k).flatten.length=k:=by
    rw[nv _ YZ];simp;omega
   have hB:iw gh s.H.length (w.setRow (gh.ρ l) (fT C o0 sk.toArray)) (gh.ρ l) (.hb l) (fun j=>.hs l j) (putAt cs o0 (f.take k).flatten):=by
    refine⟨hκ,hS,_,ty,setRow_heap w _ C _ ty _ hb,by rw[BD,pk (by rw[dH];omega)];exact hC,fun j u x Bw xz=>?_⟩
    rw[jR PH] at Bw
    rw[rV (by rw[dH];omega)] at xz
    simp only[apx,hvl] at Bw
    rw[dH] at xz
    split at Bw
    ·rename_i hc
     rw[if_pos hc] at xz
     obtain⟨k1,k2⟩:=de _ u x (by simpa using Bw) xz
     exact⟨k1,.inl (.plain _ _ (k2.mono st.S st.cell st.mp))⟩
    ·rename_i hc
     rw[if_neg hc] at xz
     obtain⟨k1,k2⟩:=ia j u x Bw xz
     exact⟨k1,k2.mono st (an4 _) (by simp)⟩
   have C7:bc G base (s.H.set l (.ba (putAt cs o0 (f.take k).flatten))) gh (w.setRow (gh.ρ l) (fT C o0 sk.toArray)) :=
    hW.xV st bA (by intro k hk;simp[hk]) (fun b o ho=>by simpa using hW.nT b o ho) (fun b hb=>by simpa using hW.pR b hb) (fun _ _ h=>by cases h) hB (fun _ _ _ h=>.inl h)
   refine⟨.int .i64 k,gh,_,.inl (sI ho iT fP kV dm),C7,?_,hE⟩
   exact hF.put (H':=s.H.set l (.ba (putAt cs o0 (f.take k).flatten))) (lo':=cond (Nat.blt l s.lo) l s.lo) st (fun i=>⟨by simp,by simp,by simp⟩) (by simp) o.dst hd (.dO (.plain _ _ (.int _ _)))
  ·cases he
 ·
  rename_i own f amL hX hY
  simp only[anV,anY] at he
  obtain⟨rfl,rfl⟩:=he
  rw[hX] at hm
  have h1:∃ ad cp,a.eval x=.slice ad 0 cp:=by
   have hp:=VR.iU (hm:VR gh s.H.length w (a.eval x) (.slice [] false))
   generalize a.eval x=V at hp
   cases hp with
   | dM=>exact⟨_,_,rfl⟩
   | slice b of n cap sz _ f hn _ _ _ _=>simp at hn;subst hn;exact⟨_,_,rfl⟩
  have h2:∃ ad n cp,a.eval y=.slice ad n cp:=by
   have hp:=(cY hW hF za hY rfl).iU
   generalize a.eval y=V at hp
   cases hp with
   | dM=>exact⟨_,_,_,rfl⟩
   | slice b of n cap sz _ f hn _ _ _ _=>exact⟨_,_,_,rfl⟩
  obtain⟨ad,cp,h1⟩:=h1
  obtain⟨ad',n',cp',h2⟩:=h2
  have dm:=run_copy_none (P:=P) w t u o.type e ad ad' 0 cp n' cp' hu iF (Nat.min_zero _)
  rw[<- h1,<- h2] at dm
  refine⟨.int .i64 0,gh,w,.inl (sI ho iT fP kV dm),?_⟩
  exact Out.pure hW hF hd (.dO (.plain _ _ (.int _ _)))
 ·cases he
end
end
section
theorem uk(cz:List Nat)(d:Option Nat)(g:aC)(ys:List aC):uj cz d g ys=.call g ys:=by
 unfold uj
 cases jg cz d<;>rfl
section
variable {P:Program}{G:Nat->List AV}{base nt:Nat}{L:List Nat}{gh:Gh}{w w' : World}{a:Act}{s:AS}{H:ai}
theorem w6{locals:List Nat}{d:Option Nat}(h:isLocal locals d=true):∃ k,d=some k/\k∈locals:=by
 cases d with
 | none=>cases h
 | some k=>exact⟨k,rfl,by simpa [isLocal] using h⟩
theorem tF{l:List Nat}{d:Option Nat}(h:jg l d=true):∃ k,d=some k/\k∈l:=by
 cases d with
 | none=>cases h
 | some k=>exact⟨k,rfl,by simpa [jg] using h⟩
theorem Nd{k:lR}{V:Value}{e:List (List AV)}{z:AV}{t:TypeId}{ao:Option Addr}{cap:Nat}(hV:V=.slice ao e.length cap)(ht:match k with|.str=>P.underlying t=some .string|.sl=>∃ e,P.underlying t=some (.slice e)|.arr m=>∃ e,P.underlying t=some (.array m e))
  (he:cQ k (.slice e false)=some z) (ty:TypeId) {n:Nat} : ∃ v,(Builtin.len_ #[t] ty #[V]).run P w=.ok v w/\VR gh n w v z:=by
 subst hV
 cases k<;>simp only[cQ,anV,reduceCtorEq] at he<;>subst he
 ·obtain⟨e',ht⟩:=ht
  exact⟨.int .i64 e.length,by simp[Builtin.len_,run_underlying ht,goInt],.plain _ _ (.int _ _)⟩
 ·obtain⟨e',ht⟩:=ht
  exact⟨.int .i64 _,by simp[Builtin.len_,run_underlying ht,goInt],.plain _ _ (.int _ _)⟩
theorem YF(hW:bc G base s.H gh w)(hF:FR L nt gh w a s){o:Oper}{c:Call}{x y:Operand}{ix iy:aC}{mx:Bool}{z:AV}(ho:o.op=.call c)(iT:c.callee=.builtin (cond mx .max .min))(fP:c.args.toList=[x,y])
  (hx:au nt x=some ix) (hy:au nt y=some iy) (he:RM mx (ix.eval G s.T) (iy.eval G s.T)=some z):∃ v,(execOp a.eval o).run P w=.ok (.value v) w/\mP gh s.H.length nt w s.T s.gen (gv a) v z:=by
 generalize hX:ix.eval G s.T=X at he
 generalize hY:iy.eval G s.T=Y at he
 unfold RM at he
 split at he
 ·obtain⟨h0,he⟩:=ag he
  injection he with he
  subst he
  have h1:=(cY hW hF hx hX rfl).ju
  have h2:=(cY hW hF hy hY rfl).ju
  have e1:c.args=#[x,y]:=by apply ap9;simpa using fP
  cases mx
  ·refine⟨_,?_,.dO (.plain _ _ (.int _ _))⟩
   unfold execOp
   simp only[ho,resolve,iT,e1,invoke,builtin,Sem.run_bind,Sem.run_pure,Result.andThen_ok,aqb,aoc,aof,anZ,h1,h2,Builtin.min_,Builtin.min2,List.foldlM_cons,List.foldlM_nil]
  ·refine⟨_,?_,.dO (.plain _ _ (.int _ _))⟩
   unfold execOp
   simp only[ho,resolve,iT,e1,invoke,builtin,Sem.run_bind,Sem.run_pure,Result.andThen_ok,aqb,aoc,aof,cond_true,h1,h2,Builtin.max_,Builtin.max2,List.foldlM_cons,List.foldlM_nil]
 ·cases he
theorem V9{m:Nat}{V:Value}{t e:TypeId}(ht:P.underlying t=some (.array m e))(ty:TypeId){n:Nat} : ∃ v,(Builtin.len_ #[t] ty #[V]).run P w=.ok v w/\VR gh n w v (.int .i64 m) :=
 ⟨.int .i64 _,by simp[Builtin.len_,run_underlying ht,goInt],.plain _ _ (.int _ _)⟩
theorem Jf(hW:bc G base s.H gh w)(hF:FR L nt gh w a s){o:Oper}{c:Call}{x:Operand}{t:TypeId}{y:aC}{k:lR}{z:AV}{s' : Option AS}{cf:dK}
  (ho:o.op=.call c) (iT:c.callee=.builtin .len) (fP:c.args.toList=[x]) (kV:c.argTypes.toList=[t]) (hc:au nt x=some y)
  (ht:match k with|.str=>P.underlying t=some .string|.sl=>∃ e,P.underlying t=some (.slice e)|.arr m=>∃ e,P.underlying t=some (.array m e))
  (he:aA G cf s (.len k y)=some (z,s')):s'=none/\∃ v,(execOp a.eval o).run P w=.ok (.value v) w/\mP gh s.H.length nt w s.T s.gen (gv a) v z:=by
 simp only[aA] at he
 have fin:∀ {zz:AV},(∃ v,(Builtin.len_ #[t] o.type #[a.eval x]).run P w=.ok v w/\VR gh s.H.length w v zz)->∃ v,(execOp a.eval o).run P w=.ok (.value v) w/\mP gh s.H.length nt w s.T s.gen (gv a) v zz :=
  fun ⟨v,h1,h2⟩=>⟨v,DN ho iT fP kV h1,.dO h2⟩
 split at he
 ·rename_i tt g hy
  split at he
  ·rename_i g' e hT
   obtain⟨h0,he⟩:=ag he
   have D4:g=g':=by simpa [gI] using h0
   simp only[anT,anY] at he
   obtain⟨z',hz,rfl,rfl⟩:=he
   refine⟨rfl,fin ?_⟩
   have hv:=arg_val hW hF hc
   rw[hy] at hv
   obtain⟨hb,_,hr⟩:=(hv:_/\_/\_)
   have qh:=hr (by rw[hT,<- D4];rfl)
   obtain⟨ad,cap,hV,_⟩:=nH hF hb hT
   exact Nd (qh.trans hV) ht hz o.type
  ·cases he
 ·simp only[anT,anY] at he
  obtain⟨z',hz,rfl,rfl⟩:=he
  refine⟨rfl,fin ?_⟩
  cases k with
  | arr m =>
   obtain⟨e,ht⟩:=ht
   simp only[cQ,anV] at hz
   subst hz
   exact V9 ht o.type
  | _ =>
   have N4:aH (y.addr G s.T)=true:=by
    generalize y.addr G s.T=Y at hz
    cases Y<;>first|rfl|(simp[cQ] at hz)
   exact TP (nV hW hF hc rfl N4) ht hz o.type
theorem yQ{cf:dK}(jK:fD P G cf)(hW:bc G base s.H gh w)(hF:FR L nt gh w a s){cz locals muts:List Nat}{o:Oper}{io:gA}(bY:dB P cz locals muts nt o.dst o.op=some io)
  (y7:∀ x,x∈locals->x∈L) (xM:∀ x,x∈muts->x∈L) {z:AV} {s' : Option AS} (he:aA G cf s io=some (z,s')) (hd:∀ k,o.dst=some k->k<nt) (K:Act->World->Prop) (Q:Exit->Act->World->Prop)
  (hK:∀ v' aX w',Out G base nt L gh w a s o.dst z (s'.getD s) v' aX w'->K (a.put o.dst v') w'):o.wp P a w K Q:=by
 have fin:s'=none->(∃ v,(execOp a.eval o).run P w=.ok (.value v) w/\mP gh s.H.length nt w s.T s.gen (gv a) v z)->o.wp P a w K Q:=by
  rintro rfl ⟨v,h1,h2⟩
  exact sQ.wp (.inl h1) (hK v gh w (Out.pure hW hF hd h2))
 have pK:(∃ v' aX w',sQ P a o w v' w'/\Out G base nt L gh w a s o.dst z (s'.getD s) v' aX w')->o.wp P a w K Q:=by
  rintro ⟨v',aX,w',h1,h2⟩
  exact sQ.wp h1 (hK v' aX w' h2)
 have aeZ:∀ x y,(o.op=.move x\/o.op=.assign x)->au nt x=some y->io=.mov (jg cz o.dst) (jg muts o.dst) (cond (jg muts o.dst) (Dr y) y)->o.wp P a w K Q:=by
  intro x y ho hc uO
  subst uO
  simp only[aA] at he
  by_cases JI:∃ v,y=.bC v/\jg muts o.dst=true
  ·obtain⟨v,rfl,hm⟩:=JI
   rw[hm] at he
   simp only[cond_true,Dr,mB,anV,anY,aC.eval] at he
   obtain⟨rfl,rfl⟩:=he
   refine fin rfl ⟨a.eval x,?_,.dO ?_⟩
   ·rcases ho with ho|ho<;>simp[execOp,ho]
   ·cases x with
    | tmp k =>
     simp only[au] at hc
     rcases ao4 (Nat.blt k nt) with hb|hb<;>rw[hb] at hc<;>simp at hc
    | const u =>
     simp only[au,anT] at hc
     obtain⟨zz,hz,h⟩:=hc
     injection h with h
     subst h
     exact Cz hz
    | global g=>simp[au] at hc
    | func f=>simp[au] at hc
  have BE:cond (jg muts o.dst) (Dr y) y=y:=by
   cases hm:jg muts o.dst with
   | false=>rfl
   | true=>cases y<;>first|rfl|exact absurd ⟨_,rfl,hm⟩ JI
  rw[BE] at he
  cases s' with
  | none =>
   refine fin rfl ⟨a.eval x,?_,aad hW hF hc he⟩
   rcases ho with ho|ho<;>simp[execOp,ho]
  | some s' =>
   refine pK (CY hW hF ho hc he hd (fun h k hk=>?_))
   obtain⟨k',h1,h2⟩:=tF h
   rw[h1] at hk;injection hk with hk;subst hk
   exact xM _ h2
 cases dN:o.op with
 | move x =>
  rw[dN] at bY
  simp only[dB,anT] at bY
  obtain⟨y,hc,rfl⟩:=bY
  exact aeZ x y (.inl dN) hc rfl
 | assign x =>
  rw[dN] at bY
  simp only[dB,anT] at bY
  obtain⟨y,hc,rfl⟩:=bY
  exact aeZ x y (.inr dN) hc rfl
 | pick c x y =>
  rw[dN] at bY
  simp only[dB,anU,anT] at bY
  obtain⟨ic,hc,ix,hx,iy,hy,rfl⟩:=bY
  simp only[aA] at he
  split at he
  ·rename_i t ht
   simp only[anV,anY] at he
   obtain⟨rfl,rfl⟩:=he
   exact fin rfl (TU hW hF dN hc hx hy ht)
  ·cases he
 | alloc t =>
  rw[dN] at bY
  simp only[dB,anU] at bY
  obtain⟨zz,hz,bY⟩:=bY
  cases hl:isLocal locals o.dst with
  | true =>
   rw[hl] at bY
   simp only[cond_true,anV] at bY
   subst bY
   simp only[aA,anV,anY] at he
   obtain⟨rfl,rfl⟩:=he
   obtain⟨k,hk,og⟩:=w6 hl
   exact pK (Mz hW hF dN hz (fun k' qj=>⟨hd k' qj,by rw[hk] at qj;injection qj with e;subst e;exact y7 _ og⟩))
  | false =>
   rw[hl] at bY
   simp only[anZ,anV] at bY
   subst bY
   rcases ao4 (Gt 500000 muts o.dst) with hm|hm
   ·rw[hm] at he
    simp only[cond_true,aA,anU] at he
    obtain⟨cs,ia,he⟩:=he
    obtain⟨h0,he⟩:=ag he
    simp only[anV,anY] at he
    obtain⟨rfl,rfl⟩:=he
    have Tl:cs=zz:=(apc ia).symm
    subst Tl
    exact pK (MA hW hF dN hz hd)
   ·rw[hm] at he
    simp only[anZ,aA,anV,anY] at he
    obtain⟨rfl,rfl⟩:=he
    exact pK (My hW hF dN hz hd)
 | box t x =>
  rw[dN] at bY
  simp only[dB,anT] at bY
  obtain⟨y,hc,rfl⟩:=bY
  cases hl:isLocal locals o.dst with
  | true =>
   rw[hl] at he
   simp only[cond_true,aA,anT,anY] at he
   obtain⟨cs,ia,rfl,rfl⟩:=he
   obtain⟨k,hk,og⟩:=w6 hl
   exact pK (TL hW hF dN hc ia (fun k' qj=>⟨hd k' qj,by rw[hk] at qj;injection qj with e;subst e;exact y7 _ og⟩))
  | false =>
  rw[hl,anZ] at he
  rcases ao4 (Gt 500000 muts o.dst) with hm|hm
  ·rw[hm] at he
   simp only[cond_true,aA,anU] at he
   obtain⟨cs,ia,he⟩:=he
   obtain⟨h0,he⟩:=ag he
   simp only[anV,anY] at he
   obtain⟨rfl,rfl⟩:=he
   exact pK (TM hW hF dN hc ia hd)
  ·rw[hm] at he
   simp only[anZ,aA,anU] at he
   obtain⟨cs,ia,he⟩:=he
   obtain⟨h0,he⟩:=ag he
   simp only[anV,anY] at he
   obtain⟨rfl,rfl⟩:=he
   exact pK (aab hW hF dN hc ia h0 hd)
 | build t parts =>
  rw[dN] at bY
  simp only[dB,anU] at bY
  obtain⟨zz,hz,bY⟩:=bY
  split at bY
  ·rename_i fs hu
   obtain⟨h0,bY⟩:=ag bY
   simp only[anT] at bY
   obtain⟨ps,hp,rfl⟩:=bY
   simp only[aA,anT,anY] at he
   obtain⟨Z,hZ,rfl,rfl⟩:=he
   exact fin rfl (xu hW hF dN hz hu hp (Option.isSome_iff_exists.1 h0) hZ)
  ·rename_i n e hu
   simp only[anU,anT] at bY
   obtain⟨sz,hs,ps,hp,rfl⟩:=bY
   simp only[aA,anT,anY] at he
   obtain⟨Z,hZ,rfl,rfl⟩:=he
   exact fin rfl (yR hW hF dN hz hu hs hp hZ)
  ·cases bY
 | buildSlice t len parts =>
  rw[dN] at bY
  simp only[dB] at bY
  split at bY
  ·rename_i e hu
   simp only[anU] at bY
   obtain⟨sz,hs,zz,hz,ps,hp,bY⟩:=bY
   obtain⟨h0,bY⟩:=ag bY
   injection bY with bY
   subst bY
   simp only[an7,aoU,gI,aoq,aoE] at h0
   cases hl:isLocal locals o.dst with
   | true =>
    rw[hl] at he
    simp only[cond_true,aA,anU] at he
    obtain⟨E,hE,he⟩:=he
    obtain⟨lH,he⟩:=ag he
    simp only[anV,anY] at he
    obtain⟨rfl,rfl⟩:=he
    exact pK (Gk hW hF dN hu hs hz hp h0.1.1 h0.1.2 h0.2 lH hE hd)
   | false =>
   rw[hl] at he
   simp only[anZ,aA,anU] at he
   obtain⟨E,hE,he⟩:=he
   obtain⟨lH,he⟩:=ag he
   simp only[anV,anY] at he
   obtain⟨rfl,rfl⟩:=he
   exact pK (Jg hW hF dN hu hs hz hp lH (fun h=>aph h) h0.1.1 h0.1.2 h0.2 hE hd)
  ·cases bY
 | load t x =>
  rw[dN] at bY
  simp only[dB,anU,anT] at bY
  obtain⟨y,hc,g,hg,sz,hs,rfl⟩:=bY
  simp only[aA] at he
  cases s' with
  | none =>
   obtain⟨v,h1,h2⟩:=TQ (P:=P) hW hF hc hg hs he
   exact fin rfl ⟨v,by simp[execOp,dN,h1],h2⟩
  | some s'=>exact pK (CX hW hF dN hc hg hs he hd)
 | store t x y =>
  rw[dN] at bY
  simp only[dB,anU,anT] at bY
  obtain⟨ya,Lk,yv,xN,sz,hs,rfl⟩:=bY
  simp only[aA,anT,anY] at he
  obtain⟨s1,he,rfl,rfl⟩:=he
  exact pK (Pg hW hF dN Lk xN hs he hd)
 | nilCheck x =>
  rw[dN] at bY
  simp only[dB,anT] at bY
  obtain⟨y,hc,rfl⟩:=bY
  simp only[aA] at he
  obtain⟨h0,he⟩:=ag he
  simp only[anV,anY] at he
  obtain⟨rfl,rfl⟩:=he
  exact fin rfl (Gl hW hF dN hc h0)
 | binOp op t x y u =>
  rw[dN] at bY
  simp only[dB,anU] at bY
  obtain⟨ix,hx,iy,hy,bY⟩:=bY
  split at bY
  ·rename_i neg hn
   injection bY with bY
   subst bY
   simp only[aA,anT,anY] at he
   obtain⟨b,hb,rfl,rfl⟩:=he
   exact fin rfl (TT hW hF dN hx hn hb)
  ·injection bY with bY
   subst bY
   simp only[aA,anT,anY] at he
   obtain⟨z',hz,rfl,rfl⟩:=he
   exact fin rfl (aaa hW hF dN hx hy hz)
 | unOp op t x =>
  rw[dN] at bY
  simp only[dB,anT] at bY
  obtain⟨y,hc,rfl⟩:=bY
  simp only[aA,anT,anY] at he
  obtain⟨z',hz,rfl,rfl⟩:=he
  exact fin rfl (aeg hW hF dN hc hz)
 | convert st dt x =>
  rw[dN] at bY
  simp only[dB,anU] at bY
  obtain⟨y,hc,bY⟩:=bY
  split at bY
  ·rename_i k' k h1 h2
   injection bY with bY
   subst bY
   simp only[aA,anT,anY] at he
   obtain⟨z',hz,rfl,rfl⟩:=he
   exact fin rfl (Ph hW hF dN hc h1 h2 hz)
  ·rename_i h1 h2
   injection bY with bY
   subst bY
   simp only[aA,anT,anY] at he
   obtain⟨z',hz,rfl,rfl⟩:=he
   exact fin rfl (Jh hW hF dN hc h1 h2 hz)
  ·rename_i e h1 h2
   split at bY
   ·rename_i hE
    injection bY with bY
    subst bY
    simp only[aA,anT,anY] at he
    obtain⟨z',hz,rfl,rfl⟩:=he
    exact fin rfl (Gi hW hF dN hc h1 hE h2 hz)
   ·cases bY
  ·cases bY
 | makeInterface t x =>
  rw[dN] at bY
  simp[dB] at bY
 | makeFunc f first captured =>
  rw[dN] at bY
  simp only[dB,anU,anT] at bY
  obtain⟨fs,h1,cs,h2,rfl⟩:=bY
  simp only[aA] at he
  obtain⟨h0,he⟩:=ag he
  simp only[anV,anY] at he
  obtain⟨rfl,rfl⟩:=he
  simp only[an7] at h0
  exact fin rfl (MD hW hF dN h1 h2 h0.1 h0.2)
 | slice t x lo hi mx =>
  rw[dN] at bY
  simp only[dB,anU] at bY
  obtain⟨ix,hc,M6,h1,Ii,h2,BH,h3,bY⟩:=bY
  split at bY
  ·rename_i hu
   injection bY with bY
   subst bY
   simp only[aA,anT,anY] at he
   obtain⟨z',hz,rfl,rfl⟩:=he
   exact fin rfl (C1 hW hF dN hc h1 h2 h3 hu hz)
  ·rename_i e hu
   simp only[anT] at bY
   obtain⟨sz,hs,rfl⟩:=bY
   simp only[aA,anT,anY] at he
   obtain⟨z',hz,rfl,rfl⟩:=he
   exact fin rfl (Gm hW hF dN hc h1 h2 h3 hu hs hz)
  ·rename_i n e hu
   simp only[anU] at bY
   obtain⟨sz,hs,bY⟩:=bY
   obtain⟨h0,bY⟩:=ag bY
   injection bY with bY
   subst bY
   simp only[aA,anT,anY] at he
   obtain⟨z',hz,rfl,rfl⟩:=he
   exact fin rfl (CZ hW hF dN hc h1 h2 h3 hu hs (by simpa [aoE] using h0) hz)
  ·cases bY
 | fieldAddr t x f =>
  rw[dN] at bY
  simp only[dB,anU] at bY
  obtain⟨ix,hc,bY⟩:=bY
  split at bY
  ·rename_i fs hu
   simp only[anU] at bY
   obtain⟨q,hq,sz,hs,bY⟩:=bY
   obtain⟨h0,bY⟩:=ag bY
   injection bY with bY
   subst bY
   simp only[aA] at he
   obtain⟨hl,he⟩:=ag he
   simp only[anT,anY] at he
   obtain⟨z',hz,rfl,rfl⟩:=he
   exact fin rfl (CW hW hF dN hc hu hq hs (by simpa [aoE] using h0) hl hz)
  ·cases bY
 | field t x f =>
  rw[dN] at bY
  simp[dB] at bY
 | indexAddr t x i =>
  rw[dN] at bY
  simp only[dB,anU] at bY
  obtain⟨ix,hc,ii,hi,bY⟩:=bY
  split at bY
  ·rename_i e hu
   simp only[anT] at bY
   obtain⟨sz,hs,rfl⟩:=bY
   simp only[aA] at he
   split at he
   ·rename_i el own hy
    simp only[anU] at he
    obtain⟨k,hk,r,hr,he⟩:=he
    obtain⟨h0,he⟩:=ag he
    simp only[anV,anY] at he
    obtain⟨rfl,rfl⟩:=he
    exact fin rfl (TO hW hF dN hc hi hu hs hk hy hr (by simpa [gI] using h0))
   ·rename_i l of m hy
    simp only[anU] at he
    obtain⟨k,hk,he⟩:=he
    obtain⟨h0,he⟩:=ag he
    simp only[anV,anY] at he
    obtain⟨rfl,rfl⟩:=he
    exact fin rfl (MC hW hF dN hc hi hu hs hk hy (by simpa [aoE] using h0))
   ·rename_i b g hy
    split at he
    ·rename_i g' el hT
     obtain⟨h0,he⟩:=ag he
     have D4:g=g':=by simpa [gI] using h0
     simp only[anU] at he
     obtain⟨k,hk,r,hr,he⟩:=he
     obtain⟨h0,he⟩:=ag he
     simp only[anV,anY] at he
     obtain⟨rfl,rfl⟩:=he
     exact fin rfl (Pd hW hF dN hc hi hu hs hk hy (by rw[hT,D4]) hr (by simpa [gI] using h0))
    ·cases he
   ·cases he
  ·rename_i n e hu
   simp only[anT] at bY
   obtain⟨sz,hs,rfl⟩:=bY
   simp only[aA,anU] at he
   obtain⟨k,hk,he⟩:=he
   obtain⟨h0,he⟩:=ag he
   simp only[an7,aoE] at h0
   simp only[anT,anY] at he
   obtain⟨z',hz,rfl,rfl⟩:=he
   exact fin rfl (Pc hW hF dN hc hi hu hs hk h0.1 h0.2 hz)
  ·cases bY
 | index t x i =>
  rw[dN] at bY
  simp only[dB,anU] at bY
  obtain⟨ix,hc,ii,hi,bY⟩:=bY
  split at bY
  ·rename_i hu
   injection bY with bY
   subst bY
   simp only[aA] at he
   split at he
   ·rename_i l hz
    simp only[anU,anT,anY] at he
    obtain⟨k,hk,b,hb,rfl,rfl⟩:=he
    exact fin rfl (Gj hW hF dN hc hi hu hk hz hb)
   ·cases he
  ·rename_i n e hu
   simp only[anU,anT] at bY
   obtain⟨sz,hs,g,hg,rfl⟩:=bY
   simp only[aA,anU] at he
   obtain⟨k,hk,he⟩:=he
   obtain⟨h0,he⟩:=ag he
   split at he
   ·rename_i cs hz
    simp only[anT,anY] at he
    obtain⟨z',hl,rfl,rfl⟩:=he
    exact fin rfl (Pb hW hF dN hc hi hu hs hg hk (by simpa [aoE] using h0) hz hl)
   ·cases he
  ·cases bY
 | extract x i =>
  rw[dN] at bY
  simp only[dB,anT] at bY
  obtain⟨y,hc,rfl⟩:=bY
  simp only[aA] at he
  split at he
  ·rename_i vs hz
   simp only[anT,anY] at he
   obtain⟨z',Tl,rfl,rfl⟩:=he
   exact fin rfl (Je hW hF dN hc hz Tl)
  ·cases he
 | call c =>
  rw[dN] at bY
  simp only[dB,ui] at bY
  split at bY
  ·rename_i fx iT
   simp only[anU,anT] at bY
   obtain⟨yf,fq,ys,za,YO⟩:=bY
   rw[uk] at YO
   subst YO
   simp only[aA] at he
   split at he
   ·rename_i f fs cs aaM
    obtain⟨h0,he⟩:=ag he
    simp only[anT,anY] at he
    obtain⟨⟨r,ch⟩,hr,rfl,rfl⟩:=he
    exact TN jK hW hF dN iT fq za aaM h0 hr hd K Q hK
   ·cases he
  ·rename_i iT
   split at bY
   ·rename_i x t fP kV
    simp only[anU] at bY
    obtain⟨y,hc,bY⟩:=bY
    split at bY
    ·rename_i hu
     injection bY with bY
     subst bY
     obtain⟨h1,h2⟩:=Jf (P:=P) hW hF dN iT fP kV hc (k:=.str) hu he
     exact fin h1 h2
    ·rename_i e hu
     injection bY with bY
     subst bY
     obtain⟨h1,h2⟩:=Jf (P:=P) hW hF dN iT fP kV hc (k:=.sl) ⟨_,hu⟩ he
     exact fin h1 h2
    ·rename_i n e hu
     injection bY with bY
     subst bY
     obtain⟨h1,h2⟩:=Jf (P:=P) hW hF dN iT fP kV hc (k:=.arr n) ⟨_,hu⟩ he
     exact fin h1 h2
    ·rename_i hu
     cases bY
    ·cases bY
   ·cases bY
  ·rename_i iT
   split at bY
   ·rename_i x y t u fP kV
    simp only[anU] at bY
    obtain⟨yx,fq,yy,za,bY⟩:=bY
    have go:∀ e,P.underlying t=some (.slice e)->((∃ e',P.underlying u=some (.slice e'))\/P.underlying u=some .string) ->
      ((P.info? e).bind fun i=>cond (Nat.blt 0 i.size&&(i.zero.map fun z=>Nat.beq z.cells.size i.size).getD false) (some (cond (isLocal locals o.dst) (gA.appendO i.size i.bytes yx yy) (gA.append (Nat.beq e jc) (jg muts o.dst) i.size i.bytes yx yy))) none)=some io->o.wp P a w K Q:=by
     intro e ht hu bY
     simp only[anU] at bY
     obtain⟨i,hi,bY⟩:=bY
     obtain⟨h0,bY⟩:=ag bY
     injection bY with bY
     subst bY
     simp only[an7,aoE] at h0
     obtain⟨h0,h1⟩:=h0
     have hT:wz P t e i.size i.bytes:=by
      cases hz:i.zero with
      | none=>rw[hz] at h1;cases h1
      | some zv=>rw[hz] at h1;exact⟨ht,⟨i,zv,hi,hz,rfl,rfl,by simpa [gI] using h1⟩,h0⟩
     cases YX:isLocal locals o.dst with
     | true =>
      rw[YX] at he
      simp only[cond_true,aA] at he
      exact pK (Jd hW hF dN iT fP kV hT hu fq za he hd)
     | false =>
     rw[YX] at he
     simp only[anZ,aA] at he
     refine pK (MB hW hF dN iT fP kV hT (fun h=>aph h) hu fq za he hd (fun h k hk=>?_))
     obtain⟨k',h1,h2⟩:=tF h
     rw[h1] at hk;injection hk with hk;subst hk
     exact xM _ h2
    split at bY
    ·rename_i e e' ht hu
     exact go e ht (.inl ⟨_,hu⟩) bY
    ·rename_i e ht hu
     exact go e ht (.inr hu) bY
    ·cases bY
   ·cases bY
  ·rename_i iT
   split at bY
   ·rename_i x y t u fP kV
    simp only[anU] at bY
    obtain⟨ix,hx,iy,hy,bY⟩:=bY
    split at bY
    ·rename_i e e' ht hu
     simp only[anU] at bY
     obtain⟨sz,hs,bY⟩:=bY
     obtain⟨h0,bY⟩:=ag bY
     injection bY with bY
     subst bY
     simp only[gI,aoq] at h0
     subst h0
     simp only[aA] at he
     exact pK (Pa hW hF dN iT fP kV ht hs hx hy he hd)
    ·cases bY
   ·cases bY
  ·rename_i iT
   split at bY
   ·rename_i x y fP
    simp only[anU,anT] at bY
    obtain⟨ix,hx,iy,hy,rfl⟩:=bY
    simp only[aA,anT,anY] at he
    obtain⟨z',hz,rfl,rfl⟩:=he
    exact fin rfl (YF (mx:=true) hW hF dN iT fP hx hy hz)
   ·cases bY
  ·rename_i iT
   split at bY
   ·rename_i x y fP
    simp only[anU,anT] at bY
    obtain⟨ix,hx,iy,hy,rfl⟩:=bY
    simp only[aA,anT,anY] at he
    obtain⟨z',hz,rfl,rfl⟩:=he
    exact fin rfl (YF (mx:=false) hW hF dN iT fP hx hy hz)
   ·cases bY
  ·cases bY
 | makeSlice t x y =>
  rw[dN] at bY
  simp only[dB,anU] at bY
  obtain⟨yx,fq,bY⟩:=bY
  obtain⟨Lu,bY⟩:=ag bY
  split at bY
  ·rename_i e ht
   simp only[anU] at bY
   obtain⟨i,hi,zv,hz,zero,hzc,bY⟩:=bY
   obtain⟨h0,bY⟩:=ag bY
   injection bY with bY
   subst bY
   simp only[an7,aoE,gI,aoq] at h0
   simp only[aA] at he
   exact pK (Pe hW hF dN Lu ht hi hz hzc h0.2 h0.1 fq he hd)
  ·cases bY
 | makeMap t r =>
  rw[dN] at bY
  cases r with
  | some r=>simp[dB] at bY
  | none =>
   simp only[dB,anT] at bY
   obtain⟨m,hm,rfl⟩:=bY
   simp only[aA,anV,anY] at he
   obtain⟨rfl,rfl⟩:=he
   exact pK (Pf hW hF dN hd _ _ _)
 | lookup t x i ok =>
  rw[dN] at bY
  simp only[dB,anU,anT] at bY
  obtain⟨ya,Lk,yb,hcb,m,hm,rfl⟩:=bY
  obtain⟨kt,et,z,hT⟩:=uZ hm
  simp only[aA] at he
  obtain⟨h1,h2⟩:=TR hW hF hT dN Lk hcb he
  exact fin h1 h2
 | mapUpdate t x i v =>
  rw[dN] at bY
  simp only[dB,anU,anT] at bY
  obtain⟨ya,Lk,yb,hcb,yc,hcc,m,hm,rfl⟩:=bY
  obtain⟨kt,et,z,hT⟩:=uZ hm
  simp only[aA,anT,anY] at he
  obtain⟨s1,he,rfl,rfl⟩:=he
  exact pK (K8 hW hF hT (.inl dN) Lk hcb hcc he hd)
 | insert t x i v =>
  rw[dN] at bY
  simp only[dB,anU,anT] at bY
  obtain⟨ya,Lk,yb,hcb,yc,hcc,m,hm,rfl⟩:=bY
  obtain⟨kt,et,z,hT⟩:=uZ hm
  simp only[aA,anT,anY] at he
  obtain⟨s1,he,rfl,rfl⟩:=he
  exact pK (K8 hW hF hT (.inr dN) Lk hcb hcc he hd)
 | range t x =>
  rw[dN] at bY
  simp only[dB] at bY
  obtain⟨h0,bY⟩:=ag bY
  simp only[anU,anT] at bY
  obtain⟨ya,Lk,m,hm,rfl⟩:=bY
  obtain⟨kt,et,z,hT⟩:=uZ hm
  obtain⟨k',h1,h2⟩:=tF h0
  exact pK (aae hW hF dN Lk hT.ht he (fun k hk=>⟨hd k hk,by rw[h1] at hk;injection hk with hk;subst hk;exact xM _ h2⟩))
 | next x b =>
  rw[dN] at bY
  cases b with
  | true=>simp[dB] at bY
  | false =>
   simp only[dB,anT] at bY
   obtain⟨ya,Lk,rfl⟩:=bY
   simp[aA] at he
 | entry x =>
  rw[dN] at bY
  simp only[dB,anT] at bY
  obtain⟨ya,Lk,rfl⟩:=bY
  obtain⟨h1,h2⟩:=aac hW hF dN Lk he
  exact fin h1 h2
 | _=>rw[dN] at bY;simp[dB] at bY
end
end
end Go.Abs
