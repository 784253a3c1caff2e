/-
  A part of the proof of PrintForms: AbsMap3, AbsMap4, AbsMap5, AbsMap6, AbsArr, AbsCopy, AbsEvOp.
-/
import Derived.Maps.RangeRun
import Derived.Laws.MakeOwn
import Derived.Laws.IdiomCopy
import Derived.WalkSpells
import Derived.Test.YtbdnnjjcdcacnaaGreatDoorP03
set_option linter.unusedSimpArgs false
set_option linter.unusedVariables false
set_option linter.defProp false
namespace Go.Abs
section
section
variable {P:Program}{G:Nat->List AV}{base nt:Nat}{L:List Nat}{gh:Gh}{w w' : World}{a:Act}{s:AS}{H:ah}
theorem find_spec{a:List UInt8} : ∀ (es:List (List AV)),(∀ r,r∈es->∃ b,mw r=some b)->∃ o,dH [.s] [.str a] es=some o /\
  ((o=none/\∀ r,r∈es->mw r≠some a)\/∃ i r,o=some i/\es[i]?=some r/\mw r=some a)
 | [],_=>⟨none,rfl,.inl ⟨rfl,fun r h=>by cases h⟩⟩
 | r :: es,h=>by
  obtain⟨b,hb⟩:=h r (aoF ..)
  obtain⟨q,rfl⟩:∃ q,r=.str b :: q:=by
   unfold mw at hb
   split at hb
   ·injection hb with hb;subst hb;exact⟨_,rfl⟩
   ·cases hb
  obtain⟨o,ho,hs⟩:=find_spec (a:=a) es (fun r hr=>h r (apl _ hr))
  by_cases hab:a=b
  ·subst hab
   exact⟨some 0,by simp[dH,cq],.inr ⟨0,_,rfl,rfl,rfl⟩⟩
  ·have dn:(a==b)=false:=by simpa using hab
   refine⟨o.map (· + 1),by simp[dH,cq,dn,ho],?_⟩
   rcases hs with ⟨rfl,hs⟩|⟨i,r,rfl,h1,h2⟩
   ·refine .inl ⟨rfl,fun r hr=>?_⟩
    rcases aoN.1 hr with rfl|hr
    ·simp only[mw];intro h;injection h with h;exact hab h.symm
    ·exact hs r hr
   ·exact .inr ⟨i+1,r,rfl,by simpa using h1,h2⟩
theorem apart_spec:∀ {es:List (List AV)},sR es=true->(∀ r,r∈es->∃ b,mw r=some b)/\∀ r r',r∈es->r'∈es->mw r=mw r'->r=r'
 | [],_=>⟨fun r h=>(by cases h),fun r r' h=>(by cases h)⟩
 | q :: es,h=>by
  simp only[sR,aod] at h
  obtain⟨h1,h2⟩:=h
  obtain⟨i1,i2⟩:=apart_spec h2
  cases hq:mw q with
  | none=>rw[hq] at h1;cases h1
  | some a =>
   rw[hq] at h1
   simp only[aof] at h1
   have dn:∀ r,r∈es->mw r≠some a:=by
    intro r hr hra
    have:=h1 r hr
    rw[hra] at this
    simp at this
   refine⟨fun r hr=>?_,fun r r' hr A9 he=>?_⟩
   ·rcases aoN.1 hr with rfl|hr
    ·exact⟨a,hq⟩
    ·exact i1 r hr
   ·rcases aoN.1 hr with e1|k1<;>rcases aoN.1 A9 with e2|k2
    ·rw[e1,e2]
    ·rw[e1] at he;exact absurd (he.symm.trans hq) (dn r' k2)
    ·rw[e2] at he;exact absurd (he.trans hq) (dn r k1)
    ·exact i2 r r' k1 k2 he
theorem L9{a:List UInt8}{es vb:List (List AV)}(hp:vb.Perm es)(ha:sR es=true){o:Option Nat}(hf:dH [.s] [.str a] es=some o)(ok va:Bool)(zero:List AV)(kz:Nat) :
  ∃ o',dH [.s] [.str a] vb=some o'/\pf ok va zero kz vb o'=pf ok va zero kz es o:=by
 obtain⟨h1,h2⟩:=apart_spec ha
 obtain⟨o1,e1,s1⟩:=find_spec (a:=a) es h1
 rw[hf] at e1
 injection e1 with e1
 subst e1
 obtain⟨o',e2,s2⟩:=find_spec (a:=a) vb (fun r hr=>h1 r (hp.mem_iff.1 hr))
 refine⟨o',e2,?_⟩
 rcases s1 with ⟨rfl,s1⟩|⟨i,r,rfl,k1,k2⟩
 ·rcases s2 with ⟨rfl,_⟩|⟨i',r',rfl,k1',k2'⟩
  ·rfl
  ·exact absurd k2' (s1 r' (hp.mem_iff.1 (aoo k1')))
 ·rcases s2 with ⟨rfl,s2⟩|⟨i',r',rfl,k1',k2'⟩
  ·exact absurd k2 (s2 r (hp.mem_iff.2 (aoo k1)))
  ·have:r'=r:=h2 r' r (hp.mem_iff.1 (aoo k1')) (aoo k1) (k2'.trans k2.symm)
   subst this
   simp only[pf,List.getD,k1,k1']
theorem TN(hW:aX G base s.H gh w)(hF:FR L nt gh w a s){o:Oper}{t kt et:TypeId}{ks:List CK}{ka va:Bool}{vz:Nat}{zv:Value}{zero:List AV}(hT:H3 P t kt et ks ka va vz zv zero){x i:Operand}{y yi:aF}{ok:Bool}{z:AV}{s' : Option AS}
  (ho:o.op=.lookup t x i ok) (hc:ax nt x=some y) (hi:ax nt i=some yi) (he:vD s ok ks.length ka va ks zero (y.addr G s.T) (yi.eval G s.T)=some (z,s')) :
  s'=none/\∃ v,(execOp a.eval o).run P w=.ok (.value v) w/\mO gh s.H.length nt w s.T s.gen (fP a) v z:=by
 simp only[vD,an1] at he
 obtain⟨kc,qo,he⟩:=he
 obtain⟨h0,he⟩:=ae he
 simp only[aod,fW,aov,ao3] at h0
 obtain⟨hl,vd⟩:=h0
 have ND:aG (yi.eval G s.T)=true:=by rw[<- jE];exact iU qo
 have hk:=cJ hW hF hi rfl ND
 have fin:∀ {M:Value} {zz:AV},a.eval x=M->(∃ v,(Instr.lookup t M (a.eval i) ok).run P w=.ok v w/\VR gh s.H.length w v zz)->∃ v,(execOp a.eval o).run P w=.ok (.value v) w/\mO gh s.H.length nt w s.T s.gen (fP a) v zz:=by
  rintro M zz rfl ⟨v,h1,h2⟩
  exact⟨v,by simp[execOp,ho,h1],.dC h2⟩
 have hm:=arg_val hW hF hc
 split at he
 ·rename_i hM
  simp only[an2,an7] at he
  obtain⟨rfl,rfl⟩:=he
  rw[hM] at hm
  refine⟨rfl,fin (M:=.map none) ?_ (Dp hT hk qo hl vd ok)⟩
  generalize a.eval x=V at hm
  cases (hm:VR gh s.H.length w V .de) with
  | plain _ _ h=>cases h;rfl
 ·rename_i ml mj mD es hM
  obtain⟨h1,qi⟩:=ae he
  clear he
  simp only[an0,an7] at qi
  obtain⟨r,hf,rfl,rfl⟩:=qi
  simp only[aod,fW,aov,ao3] at h1
  obtain⟨⟨⟨⟨rfl,rfl⟩,rfl⟩,wZ⟩,hsk⟩:=h1
  obtain⟨str,rfl,rfl⟩:∃ str,ks=[.s]/\kc=[.str str]:=by
   unfold VW at hsk
   split at hsk
   ·exact⟨_,rfl,rfl⟩
   ·cases hsk
  refine⟨rfl,?_⟩
  rw[hM] at hm
  have hp:PR gh.S w (a.eval x) (.nC [CK.s].length ka va es):=by
   generalize a.eval x=V at hm
   cases (hm:VR gh s.H.length w V (.nC [CK.s].length ka va es)) with
   | plain _ _ h=>exact h
  generalize hV:a.eval x=V at hp
  cases hp with
  | nC b _ _ _ _ vb E ck f hS hb hI hpm cL =>
   have hE:=hI.size
   have bN:=hI.row
   obtain⟨o',hf',hlk⟩:=L9 hpm wZ hf ok va zero [CK.s].length
   rw[<- hlk]
   have hR:Rows gh s.H.length w E [CK.s].length ka va vb:=by
    refine⟨hE,fun i e r h1 h2=>⟨f i,(bN i e r h1 h2).2.2.2.1,fun j x hj _=>cL i j r x h2 hj⟩,fun i e r h1 h2=>?_⟩
    obtain⟨k1,_,k2,_,k3⟩:=bN i e r h1 h2
    refine⟨k1,k2,_,k3,fun j x hj=>?_⟩
    rw[aoU] at hj
    have:=cL i _ r x h2 hj
    exact⟨VR.dropped (.plain _ _ this),this.fw⟩
   exact fin hV (Hr hT hk qo hl vd hb hR hf' ok)
 ·simp only[an1,an0,an7] at he
  obtain⟨es,dk,r,hf,rfl,rfl⟩:=he
  refine⟨rfl,?_⟩
  have key:∃ b E ck,a.eval x=.map (some b)/\w.heap[b]?=some (.map E ck)/\Rows gh s.H.length w E ks.length ka va es:=by
   generalize hY:y.addr G s.T=Y at hm dk
   have hp:∀ ml mj mD vb,Y=.fg ml mj mD vb->PR gh.S w (a.eval x) (.fg ml mj mD vb):=by
    rintro _ _ _ _ rfl
    generalize a.eval x=V at hm
    cases (hm:VR gh s.H.length w V (.fg _ _ _ _)) with
    | plain _ _ h=>exact h
   unfold uN at dk
   split at dk
   ·obtain⟨h1,dk⟩:=ae dk
    injection dk with dk
    subst dk
    simp only[aod,fW,aov,ao3] at h1
    obtain⟨⟨rfl,rfl⟩,rfl⟩:=h1
    exact zo (b:=0) (hp _ _ _ _ rfl)
   ·obtain⟨bf,qg⟩:=VR.nK (hm:VR gh s.H.length w (a.eval x) (.mref _))
    split at dk
    ·rename_i hH
     obtain⟨h1,dk⟩:=ae dk
     injection dk with dk
     subst dk
     simp only[aod,fW,aov,ao3] at h1
     obtain⟨⟨rfl,rfl⟩,rfl⟩:=h1
     obtain⟨E,ck,hb,hR⟩:=zn (hW.more _ _ hH).1
     exact⟨_,E,ck,qg,hb,hR⟩
    ·rename_i hH
     obtain⟨h1,dk⟩:=ae dk
     injection dk with dk
     subst dk
     simp only[aod,fW,aov,ao3] at h1
     obtain⟨⟨rfl,rfl⟩,rfl⟩:=h1
     obtain⟨b,E,ck,hv,hb,hR⟩:=zo (b:=0) (n:=s.H.length) (hW.more _ _ hH:PR gh.S w _ _)
     exact⟨b,E,ck,qg.trans hv,hb,hR⟩
    ·cases dk
   ·cases dk
  obtain⟨b,E,ck,qg,hb,hR⟩:=key
  exact fin qg (Hr hT hk qo hl vd hb hR hf ok)
theorem find_eq:∀ {ks:List CK} {kc:List AV} {es:List (List AV)} {i:Nat} {r:List AV},dH ks kc es=some (some i)->es[i]?=some r->cq ks kc r=some true
 | ks,kc,[],i,r,h,_=>by simp[dH] at h
 | ks,kc,q :: es,i,r,h,hr=>by
  simp only[dH,an1] at h
  obtain⟨b,hb,h⟩:=h
  cases b with
  | true=>simp at h;subst h;simp at hr;subst hr;exact hb
  | false =>
   simp only[an8,an0] at h
   obtain⟨o,ho,h⟩:=h
   cases o with
   | none=>simp at h
   | some j=>simp at h;subst h;exact find_eq ho (by simpa using hr)
theorem AE{n m:Nat}{c:CK}{u v:Value}{x y:AV}(hu:VR gh n w u x)(hv:PR gh.S w v y)(h:cq [c] [x] [y]=some true):Instr.sameBits m v u=true:=by
 cases c<;>cases x<;>try (cases h;done)
 all_goals (cases y<;>try (cases h;done))
 ·obtain rfl:=hu.jI
  cases hv
  simp[cq] at h
  cases m<;>simp[Instr.sameBits,h]
 ·obtain rfl:=hu.jl
  cases hv
  simp only[cq] at h
  obtain⟨h0,h⟩:=ae h
  simp at h h0
  cases m<;>simp[Instr.sameBits,h,h0]
 ·obtain⟨p,rfl,rfl⟩:=hu.jn
  cases hv with
  | str q _ hq =>
   simp[cq] at h
   have:q=p:=by
    cases p;cases q
    congr 1
    exact aqm (by rw[hq];simp at h ⊢;rw[h])
   subst this
   have hb:(q==q)=true:=show (q.data==q.data)=true by simp
   cases m<;>simp[Instr.sameBits,hb]
theorem AY:∀ {ks:List CK} {X Y:List AV},cq ks X Y=some true->∀ (j:Nat) (c:CK),ks[j]?=some c->∃ x y,X[j]?=some x/\Y[j]?=some y/\cq [c] [x] [y]=some true
 | [],X,Y,h,j,c,hj=>by simp at hj
 | c0 :: ks,X,Y,h,j,c,hj=>by
  have one:∀ (x y:AV) (X' Y' : List AV) (e:Bool),X=x :: X'->Y=y :: Y'->cq [c0] [x] [y]=some e->(cq ks X' Y').map (e&&·)=some true->∃ x y,X[j]?=some x/\Y[j]?=some y/\cq [c] [x] [y]=some true:=by
   rintro x y X' Y' e rfl rfl h1 h2
   simp only[an0,aod] at h2
   obtain⟨b,hb,rfl,rfl⟩:=h2
   cases j with
   | zero=>simp at hj;subst hj;exact⟨x,y,rfl,rfl,h1⟩
   | succ j =>
    obtain⟨x',y',k1,k2,k3⟩:=AY hb j c (by simpa using hj)
    exact⟨x',y',by simpa using k1,by simpa using k2,k3⟩
  cases c0<;>cases X<;>try (cases h;done)
  all_goals (rename_i x X';cases x<;>try (cases h;done))
  all_goals (cases Y<;>try (cases h;done))
  all_goals (rename_i y Y';cases y<;>try (cases h;done))
  ·exact one _ _ _ _ _ rfl rfl (by simp[cq]) h
  ·simp only[cq] at h
   obtain⟨h0,h⟩:=ae h
   exact one _ _ _ _ _ rfl rfl (by simp only[cq,h0,cond_true];simp) h
  ·exact one _ _ _ _ _ rfl rfl (by simp[cq]) h
theorem N9{kt:TypeId}{ks:List CK}{ka:Bool}(hK:BM P kt ks ka){n:Nat}{kv:Value}{k:AV}{kc:List AV}(hk:VR gh n w kv k)(qo:k.cells=some kc)(hl:kc.length=ks.length)(vd:ka=k.isAgg)
  {v:Value} {r:List AV} (hv:Kq gh.S w ks.length ka v r) (he:cq ks kc r=some true):Instr.sameBits 10000 v kv=true:=by
 obtain⟨f,rfl,hf⟩:=hv
 have Pe:=AY he
 cases ka with
 | false =>
  have h1:=hK.kz rfl
  obtain⟨c,rfl⟩:=apG.1 h1
  have aay:kc=[k]:=by
   cases k<;>first|(cases vd;done)|(injection qo with qo;exact qo.symm)|(cases qo;done)
  subst aay
  obtain⟨x,y,k1,k2,k3⟩:=Pe 0 c rfl
  simp at k1
  subst k1
  exact AE hk (hf 0 y k2 (by simp)) k3
 | true =>
  obtain⟨C,rfl⟩:=vm hk vd
  have hC:Row gh n w C kc:=by
   rcases si hk qo with ⟨C',e,_,hr⟩|⟨_,h1⟩
   ·injection e with e;subst e;exact hr
   ·simp[Value.oneCell'] at h1
  show Instr.sameBits (9999+1) (.agg ((List.range ks.length).map f).toArray) (.agg C)=true
  simp only[Instr.sameBits,aod,ao3,aof]
  refine⟨by simp[hC.1,hl],fun p hp=>?_⟩
  obtain⟨j,hj⟩:=aoM hp
  rw[ap5] at hj
  obtain⟨h1,h2⟩:=hj
  simp only[aor,an0] at h1
  obtain⟨i,hi,NC⟩:=h1
  obtain⟨bf,xu⟩:=an9.1 hi
  simp at bf xu
  subst xu
  have hc:ks[j]?=some ks[j]:=an' bf
  obtain⟨x,y,k1,k2,k3⟩:=Pe j _ hc
  have hu:=hC.2 j p.2 x (by simpa using h2) k1
  obtain⟨p1,p2⟩:=p
  simp only at NC hu ⊢
  rw[<- NC]
  exact AE hu (hf j y k2 bf) k3
theorem BI{n:Nat}{v:Value}{x:AV}{cs:List AV}(h:VR gh n w v x)(hc:x.cells=some cs):v=qq x.isAgg cs.length (fun j=>v.cells.getD j undef)/\∀ (j:Nat) (y:AV),cs[j]?=some y->VR gh n w (v.cells.getD j undef) y/\(v.cells.getD j undef).oneCell'=true:=by
 have hr:=rG h hc
 refine⟨?_,fun j y hj=>?_⟩
 ·rcases si h hc with ⟨C,rfl,rfl,bN⟩|⟨rfl,fY⟩
  ·simp only[qq,AV.isAgg,cond_true,Value.cells]
   congr 1
   refine Array.ext (by simp[bN.1]) (fun i h1 h2=>by simp[h1])
  ·have Jh:x.isAgg=false:=by
    cases x<;>first|rfl|skip
    obtain⟨C,rfl,_⟩:=h.kj
    simp[Value.oneCell'] at fY
   have hv:v.cells=#[v]:=by cases v<;>first|rfl|(simp[Value.oneCell'] at fY)
   simp[qq,Jh,hv]
 ·have bf:j<v.cells.size:=by rw[hr.1];exact (an9.1 hj).1
  have hv:v.cells[j]?=some v.cells[j]:=aop bf
  obtain⟨h1,h2⟩:=hr.2 j _ y hv hj
  simp only[aql,hv,apf]
  exact⟨h1,h2⟩
end
end
section
section
variable {P:Program}{G:Nat->List AV}{base nt:Nat}{L:List Nat}{gh:Gh}{w w' : World}{a:Act}{s:AS}{H:ah}
theorem mW{agg:Bool}{n:Nat}{f g:Nat->Value}(h:∀ j,j<n->f j=g j)(hn:agg=false->0<n):qq agg n f=qq agg n g:=by
 cases agg with
 | true =>
  simp only[qq,cond_true]
  congr 2
  exact aoD fun j hj=>h j (by simpa using hj)
 | false=>exact h 0 (hn rfl)
def mJ(E:Array MapEntry)(ck:Nat)(o:Option Nat)(kv vv:Value):Array MapEntry × Nat :=
 match o with
 | none=>(E.push { key:=kv,val:=vv,born:=ck },ck+1)
 | some i=>(E.modify i fun e=>{ e with key:=kv,val:=vv },ck)
theorem Sk{n:Nat}{t kt et:TypeId}{ks:List CK}{ka va:Bool}{vz:Nat}{zv:Value}{zero:List AV}(hT:H3 P t kt et ks ka va vz zv zero){kv vv:Value}{k:AV}{kc:List AV}(hk:VR gh n w kv k)(qo:k.cells=some kc)(hl:kc.length=ks.length)(vd:ka=k.isAgg)
  {b:Nat} {E:Array MapEntry} {ck:Nat} {es:List (List AV)} (hb:w.heap[b]?=some (.map E ck)) (hR:Rows gh n w E ks.length ka va es) {o:Option Nat} (hf:dH ks kc es=some o) :
  (Instr.mapUpdate t (.map (some b)) kv vv).run P w=.ok () (tC w b (mJ E ck o kv vv).1 (mJ E ck o kv vv).2):=by
 have rN:=vV hT.key hk qo hl vd false
 have NC:=zq hT.key hk qo hl vd (l:=E.toList) (by simpa using hR.size) (fun i e r h1 h2=>hR.key i e r (by simpa using h1) h2) hf
 cases o with
 | none =>
  have hs:=zt (P:=P) (w:=w) (E':=E.push { key:=kv,val:=vv,born:=ck }) (ck':=ck+1) hb
  simp[Instr.mapUpdate,run_underlying hT.ht,getObj,Sem.run,hb]
  simp[rN,NC,mJ]
  exact hs
 | some i =>
  have hi:=xl hf
  have hiE:i<E.size:=by rw[hR.size];exact hi
  have hE:E[i]?=some E[i]:=aop hiE
  have he:es[i]?=some es[i]:=an' hi
  have aex:=N9 hT.key hk qo hl vd (hR.key i _ _ hE he) (find_eq hf he)
  have hs:=zt (P:=P) (w:=w) (E':=E.modify i fun e=>{ e with key:=kv,val:=vv }) (ck':=ck) hb
  simp[Instr.mapUpdate,run_underlying hT.ht,getObj,Sem.run,hb]
  simp only[aok] at NC
  simp[rN,NC,mJ,hiE,Instr.keyThatStays,aex]
  exact hs
theorem acJ{n l b kz:Nat}{ka va:Bool}{es:List (List AV)}{E:Array MapEntry}{ck:Nat}{f:Nat->Nat->Value}(hW:aX G base H gh w)(hκ:gh.κ b=.hb l)(hS:∀ o,¬ gh.S b o)(hb:w.heap[b]?=some (.map E ck))(hE:DM E ck kz ka va es f)
  (h1:∀ (i j:Nat) (r:List AV) (x:AV),es[i]?=some r->r[j]?=some x->j<kz->PR gh.S w (f i j) x)
  (h2:∀ (i j:Nat) (r:List AV) (x:AV),es[i]?=some r->r[j]?=some x->kz<=j->(f i j).oneCell'=true/\(va=true->VR gh n w (f i j) x)/\CR gh n w (.hs l i) (f i j) x)
  {kc vc:List AV} {fk fv:Nat->Value} (hkz:kc.length=kz) (vK:ka=false->kz=1) (Un:va=false->vc.length=1) (KQ:∀ (j:Nat) (x:AV),kc[j]?=some x->PR gh.S w (fk j) x)
  {o:Option Nat} (ho:∀ i,o=some i->i<es.length) (hvv:∀ (j:Nat) (x:AV),vc[j]?=some x->(fv j).oneCell'=true/\(va=true->VR gh n w (fv j) x)/\CR gh n w (.hs l (o.getD es.length)) (fv j) x) :
  Az gh n (tC w b (mJ E ck o (qq ka kz fk) (qq va vc.length fv)).1 (mJ E ck o (qq ka kz fk) (qq va vc.length fv)).2) b (.hb l) (fun i=>.hs l i) kz ka va (tI es o (kc++vc)):=by
 have st:=GV (E':=(mJ E ck o (qq ka kz fk) (qq va vc.length fv)).1) (ck':=(mJ E ck o (qq ka kz fk) (qq va vc.length fv)).2) hW hb hS n
 rw[hκ] at st
 let idx:=o.getD es.length
 let f' : Nat->Nat->Value:=fun i j=>if i=idx then (if j<kz then fk j else fv (j-kz)) else f i j
 have bN:∀ i r,(tI es o (kc++vc))[i]?=some r->(i=idx/\r=kc++vc)\/(i≠idx/\es[i]?=some r):=by
  intro i r hr
  cases o with
  | none =>
   simp only[tI] at hr
   by_cases bf:i<es.length
   ·rw[aox bf] at hr
    exact .inr ⟨by show i≠es.length;omega,hr⟩
   ·rw[aoz (by omega)] at hr
    have hz:i=es.length:=by
     have:=(an9.1 hr).1
     simp at this;omega
    subst hz
    simp at hr
    exact .inl ⟨rfl,hr.symm⟩
  | some i0 =>
   simp only[tI] at hr
   rw[api] at hr
   split at hr
   ·rename_i e
    subst e
    split at hr
    ·injection hr with hr
     exact .inl ⟨rfl,hr.symm⟩
    ·cases hr
   ·rename_i e
    exact .inr ⟨apX e,hr⟩
 have KT:kz<=(kc++vc).length/\(ka=false->kz=1)/\(va=false->(kc++vc).length=kz+1)/\qq ka kz fk=qq ka kz (f' idx)/\qq va vc.length fv=qq va ((kc++vc).length-kz) (fun j=>f' idx (kz+j)):=by
  rw[List.length_append,hkz]
  refine⟨by omega,vK,fun h=>by rw[Un h],mW (fun j hj=>?_) (fun h=>by rw[vK h];omega),?_⟩
  ·simp only[f',if_pos rfl,if_pos hj]
  ·rw[Nat.add_sub_cancel_left]
   refine mW (fun j hj=>?_) (fun h=>by rw[Un h];omega)
   have e:¬ kz+j<kz:=by omega
   simp only[f',if_pos rfl,if_neg e,Nat.add_sub_cancel_left]
 refine⟨hκ,hS,_,_,f',Ht hb,?_,fun i j r x hi hj hl=>?_,fun i j r x hi hj hl=>?_⟩
 ·cases o with
  | none =>
   refine⟨by simp[mJ,tI,hE.size],by simp[mJ,hE.clk],fun i e he=>?_,fun i e he=>?_,fun i j e e' he DF A2=>?_,fun i e r he hr=>?_⟩
   ·simp only[mJ] at he
    rw[apV] at he
    split at he
    ·rename_i CD;injection he with he;subst he;rw[CD];exact hE.clk
    ·exact hE.at' i e he
   ·simp only[mJ] at he ⊢
    rw[apV] at he
    split at he
    ·injection he with he;subst he;simp
    ·have:=hE.born i e he;omega
   ·simp only[mJ] at he DF
    rw[apV] at he DF
    split at he<;>split at DF
    ·omega
    ·injection he with he;subst he
     have:=hE.born j e' DF
     simp only at A2;omega
    ·injection DF with DF;subst DF
     have:=hE.born i e he
     simp only at A2;omega
    ·exact hE.apart i j e e' he DF A2
   ·simp only[mJ] at he
    rw[apV] at he
    rcases bN i r hr with ⟨hi,rfl⟩|⟨hi,hr⟩
    ·have lD:i=es.length:=hi
     rw[if_pos (by rw[hE.size];exact lD)] at he
     injection he with he
     subst he
     subst hi
     exact KT
    ·have lD:i≠es.length:=hi
     rw[if_neg (by rw[hE.size];exact lD)] at he
     obtain⟨k1,k2,k3,k4,k5⟩:=hE.row i e r he hr
     refine⟨k1,k2,k3,?_,?_⟩
     ·rw[k4];refine mW (fun j _=>?_) (fun h=>by rw[k2 h];omega)
      simp only[f',if_neg hi]
     ·rw[k5];refine mW (fun j _=>?_) (fun h=>by rw[k3 h];omega)
      simp only[f',if_neg hi]
  | some i0 =>
   have vI:∀ {i:Nat} {e:MapEntry},(E.modify i0 fun e=>{ e with key:=qq ka kz fk,val:=qq va vc.length fv })[i]?=some e->∃ e0,E[i]?=some e0/\e=if i=i0 then { e0 with key:=qq ka kz fk,val:=qq va vc.length fv } else e0:=by
    intro i e he
    rw[Array.getElem?_modify] at he
    split at he
    ·rename_i Mq
     simp only[an0] at he
     obtain⟨e0,h0,rfl⟩:=he
     exact⟨e0,h0,by rw[if_pos Mq.symm]⟩
    ·rename_i Mq
     exact⟨e,he,by rw[if_neg (apX Mq)]⟩
   have KN:∀ {i:Nat} {e e0:MapEntry},(e=if i=i0 then { e0 with key:=qq ka kz fk,val:=qq va vc.length fv } else e0)->e.born=e0.born:=by
    intro i e e0 h
    rw[h];split<;>rfl
   refine⟨by simp[mJ,tI,hE.size],by simp[mJ,hE.clk],fun i e he=>?_,fun i e he=>?_,fun i j e e' he DF A2=>?_,fun i e r he hr=>?_⟩
   ·obtain⟨e0,h0,h⟩:=vI he
    rw[KN h]
    exact hE.at' i e0 h0
   ·obtain⟨e0,h0,h⟩:=vI he
    rw[KN h]
    exact hE.born i e0 h0
   ·obtain⟨e0,h0,h⟩:=vI he
    obtain⟨e0',Mj,h'⟩:=vI DF
    rw[KN h,KN h'] at A2
    exact hE.apart i j e0 e0' h0 Mj A2
   ·obtain⟨e0,h0,h⟩:=vI he
    rcases bN i r hr with ⟨hi,rfl⟩|⟨hi,hr⟩
    ·have lD:i=i0:=hi
     rw[if_pos lD] at h
     subst h
     subst hi
     exact KT
    ·have lD:i≠i0:=hi
     rw[if_neg lD] at h
     subst h
     obtain⟨k1,k2,k3,k4,k5⟩:=hE.row i e r h0 hr
     refine⟨k1,k2,k3,?_,?_⟩
     ·rw[k4];refine mW (fun j _=>?_) (fun h=>by rw[k2 h];omega)
      simp only[f',if_neg hi]
     ·rw[k5];refine mW (fun j _=>?_) (fun h=>by rw[k3 h];omega)
      simp only[f',if_neg hi]
 ·rcases bN i r hi with ⟨rfl,rfl⟩|⟨dn,hr⟩
  ·rw[aox (by omega)] at hj
   simp only[f',if_pos rfl,if_pos hl]
   exact (KQ j x hj).mono st.S st.cell st.mp
  ·simp only[f',if_neg dn]
   exact (h1 i j r x hr hj hl).mono st.S st.cell st.mp
 ·rcases bN i r hi with ⟨rfl,rfl⟩|⟨dn,hr⟩
  ·rw[aoz (by omega),hkz] at hj
   have e:¬ j<kz:=by omega
   simp only[f',if_pos rfl,if_neg e]
   obtain⟨k1,k2,k3⟩:=hvv (j-kz) x hj
   exact⟨k1,fun h=>(k2 h).mono st (aoa _),k3.mono st (aoa _) (by simp)⟩
  ·simp only[f',if_neg dn]
   obtain⟨k1,k2,k3⟩:=h2 i j r x hr hj hl
   exact⟨k1,fun h=>(k2 h).mono st (aoa _),k3.mono st (aoa _) (by simp)⟩
theorem qM{l:Nat}{x:AV}(h:x.plain=true):bo l x=true:=by
 cases x<;>first|exact h|(simp[AV.plain] at h;done)|(simp only[bo,AV.drop];exact h)|(simp[bo,AV.drop,AV.plain] at h ⊢;done)|skip
 rename_i f fs cs
 cases fs<;>cases cs<;>first|rfl|(simp[AV.plain] at h)
theorem KC(hW:aX G base s.H gh w)(hF:FR L nt gh w a s){o:Oper}{t kt et:TypeId}{ks:List CK}{ka va:Bool}{vz:Nat}{zv:Value}{zero:List AV}(hT:H3 P t kt et ks ka va vz zv zero){xm xk xv:Operand}{ym yk yv:aF}{s' : AS}
  (ho:o.op=.mapUpdate t xm xk xv\/o.op=.insert t xm xk xv) (hcm:ax nt xm=some ym) (hck:ax nt xk=some yk) (xr:ax nt xv=some yv)
  (he:qG s ks.length ka va vz ks (ym.addr G s.T) (yk.eval G s.T) (yv.eval G s.T)=some s') (hd:∀ k,o.dst=some k->k<nt) :
  ∃ v' aV w',tP P a o w v' w'/\Out G base nt L gh w a s o.dst .undef (s'.cI yv) v' aV w':=by
 have hm:=arg_val hW hF hcm
 unfold qG at he
 generalize hY:ym.addr G s.T=Y at hm he
 cases Y<;>simp only at he<;>try (cases he;done)
 rename_i l
 obtain⟨bf,qg⟩:=VR.nK (hm:VR gh s.H.length w (a.eval xm) (.mref l))
 split at he
 ·rename_i ml mj mD es hH
  simp only[an1] at he
  obtain⟨kc,qo,vc,Up,Yw⟩:=he
  obtain⟨h0,qi⟩:=ae Yw
  clear Yw
  simp only[aod,fW,aov,ao3] at h0
  obtain⟨⟨⟨⟨⟨⟨⟨⟨hl,hvl⟩,rfl⟩,rfl⟩,rfl⟩,vd⟩,hva⟩,YN⟩,Yy⟩:=h0
  simp only[an0] at qi
  obtain⟨oi,hf,rfl⟩:=qi
  have aid:aG (yk.eval G s.T)=true:=by rw[<- jE];exact iU qo
  have aie:aG (yv.eval G s.T)=true:=iU Up
  have vJ:=cJ hW hF hck rfl aid
  obtain⟨lF,qf,wX,HU,Tk,mg⟩:=oQ hW hF xr aie (.hs l (oi.getD es.length)) (by simp)
  have hρ:lF.ρ l=gh.ρ l:=Tk.ρ l bf
  have hk:=vJ.mono Tk (aoa _)
  obtain⟨⟨hκ,hS,E,ck,f,hb,hE,h1,h2⟩,dA⟩:=qf.more l _ hH
  obtain⟨E2,Ty,jF,hR⟩:=zn (qf.more l _ hH).1
  have hEE:E2=E/\Ty=ck:=by
   rw[hb] at jF
   injection jF with jF
   injection jF with e1 e2
   exact⟨e1.symm,e2.symm⟩
  obtain⟨rfl,rfl⟩:=hEE
  obtain⟨Td,Ue⟩:=BI hk qo
  have iA:∃ fv:Nat->Value,a.eval xv=qq va vc.length fv/\∀ (j:Nat) (x:AV),(cond va (vc.map AV.drop) vc)[j]?=some x->(fv j).oneCell'=true/\(va=true->VR lF s.H.length w (fv j) x)/\CR lF s.H.length w (.hs l (oi.getD es.length)) (fv j) x:=by
   cases afj:va with
   | true =>
    have Jh:(yv.eval G s.T).isAgg=true:=by rw[<- hva,afj]
    have Py:VR lF s.H.length w (a.eval xv) (yv.eval G s.T):=by
     rcases mg with h|⟨e,h,_⟩
     ·exact h
     ·rw[h] at Jh;cases Jh
    obtain⟨Un,Uo⟩:=BI Py Up
    rw[Jh] at Un
    refine⟨_,Un,fun j x hj=>?_⟩
    simp only[cond_true,aor,an0] at hj
    obtain⟨y,hy,rfl⟩:=hj
    obtain⟨m1,m2⟩:=Uo j y hy
    exact⟨m2,fun _=>m1.dropped,.inl m1.dropped⟩
   | false =>
    have Jh:(yv.eval G s.T).isAgg=false:=by rw[<- hva,afj]
    have aiT:vc=[yv.eval G s.T]:=by
     generalize yv.eval G s.T=V at Up Jh
     cases V<;>first|(cases Jh;done)|(injection Up with Up;exact Up.symm)|(cases Up;done)
    refine⟨fun _=>a.eval xv,by simp[qq],fun j x hj=>?_⟩
    rw[aiT] at hj
    cases j with
    | succ j=>simp at hj
    | zero =>
     simp at hj
     subst hj
     refine⟨?_,(fun h=>by cases h),mg⟩
     rcases mg with h|⟨e,_,hp,_⟩
     ·exact h.fw (fun cs e=>by rw[e] at Jh;cases Jh) (fun cs e=>by rw[e] at Up;cases Up)
     ·exact hp.fw
  obtain⟨fv,hvv,Uq⟩:=iA
  have A5:(cond va (vc.map AV.drop) vc).length=vc.length:=by cases va<;>simp
  have aiV:va=false->(cond va (vc.map AV.drop) vc).length=1:=fun h=>by rw[A5,hvl];exact hT.vz1 h
  have cZ:=Sk (vv:=a.eval xv) hT hk qo hl vd hb hR hf
  have aiq:a.eval xk=qq ka ks.length (fun j=>(a.eval xk).cells.getD j undef):=by rw[vd,<- hl];exact Td
  have hMA:=acJ (n:=s.H.length) (l:=l) (fk:=fun j=>(a.eval xk).cells.getD j undef) (fv:=fv) (vc:=cond va (vc.map AV.drop) vc) (o:=oi) qf hκ hS hb hE h1 h2 hl (fun h=>hT.key.kz h) aiV
   (fun j x hj=>(Ue j x hj).1.ke (aof.1 Yy x (aoo hj))) (fun i hi=>by subst hi;exact xl hf) Uq
  rw[A5,<- aiq,<- hvv] at hMA
  have wR:=GV (E':=(mJ E2 Ty oi (a.eval xk) (a.eval xv)).1) (ck':=(mJ E2 Ty oi (a.eval xk) (a.eval xv)).2) qf hb hS s.H.length
  rw[hκ] at wR
  have aes:((tI es oi (kc++cond va (vc.map AV.drop) vc)).all fun r=>r.all (bo l))=true:=by
   have jZ:(kc++cond va (vc.map AV.drop) vc).all (bo l)=true:=by
    rw[List.all_append,aod]
    refine⟨aof.2 fun x hx=>qM (aof.1 Yy x hx),?_⟩
    cases va with
    | false=>exact YN
    | true =>
     refine aof.2 fun x hx=>?_
     obtain⟨y,hy,rfl⟩:=aoy.1 hx
     exact oH (aof.1 YN y hy)
   refine aof.2 fun r hr=>?_
   cases oi with
   | none =>
    simp only[tI,aog,aos] at hr
    rcases hr with hr|rfl
    ·exact aof.1 dA r hr
    ·exact jZ
   | some i =>
    simp only[tI] at hr
    rcases ap6 hr with hr|rfl
    ·exact aof.1 dA r hr
    ·exact jZ
  have gO:(tC w (lF.ρ l) (mJ E2 Ty oi (a.eval xk) (a.eval xv)).1 (mJ E2 Ty oi (a.eval xk) (a.eval xv)).2).heap.size=w.heap.size:=by simp[tC]
  have CC:=qf.xD (o:=.map ks.length ka va (tI es oi (kc++cond va (vc.map AV.drop) vc))) wR bf (by intro k hk;simp[hk]) (fun b o ho=>by rw[gO];exact qf.nW b o ho) (fun b hb=>by rw[gO];exact qf.oL b hb) (fun _ _ h=>by cases h) ⟨hMA,aes⟩ (fun _ _ _ h=>.inl h)
  have hS:=ia s yv
  have yB:Ext s.H.length lF w lF (tC w (lF.ρ l) (mJ E2 Ty oi (a.eval xk) (a.eval xv)).1 (mJ E2 Ty oi (a.eval xk) (a.eval xv)).2):=⟨wR.mono (fun r h=>by rw[h];simp[pA]),fun b hb=>hb⟩
  have F1:FR L nt lF _ a ((s.cI yv).gk ⟨s.H.set l (.map ks.length ka va (tI es oi (kc++cond va (vc.map AV.drop) vc))),l⟩):=wX.grown (by rw[hS.1];exact wR) (fun i=>⟨by simp,by simp,by simp⟩) (by rw[hS.1];simp)
  refine⟨undef,lF,tC w (lF.ρ l) (mJ E2 Ty oi (a.eval xk) (a.eval xv)).1 (mJ E2 Ty oi (a.eval xk) (a.eval xv)).2,.inr ⟨?_,rfl⟩,?_⟩
  rotate_left
  ·rw[vX]
   exact Out.skip (s1:=(s.cI yv).gk ⟨s.H.set l (.map ks.length ka va (tI es oi (kc++cond va (vc.map AV.drop) vc))),l⟩) CC F1 (HU.trans yB (aoa _)) hd
  ·rcases ho with ho|ho<;>simp[execOp,ho,qg,<- hρ,cZ]
 ·cases he
end
end
section
section
variable {P:Program}{G:Nat->List AV}{base nt:Nat}{L:List Nat}{gh:Gh}{w w' : World}{a:Act}{s:AS}{H:ah}
theorem Dn{o:Oper}{c:Call}{x:Operand}{t:TypeId}(ho:o.op=.call c)(iE:c.callee=.builtin .len)(ft:c.args.toList=[x])(kX:c.argTypes.toList=[t]){v:Value}
  (cZ:(Builtin.len_ #[t] o.type #[a.eval x]).run P w=.ok v w'):(execOp a.eval o).run P w=.ok (.value v) w':=by
 have e1:c.args=#[x]:=by apply aqm;simpa using ft
 have e2:c.argTypes=#[t]:=by apply aqm;simpa using kX
 unfold execOp
 simp only[ho,resolve,iE,e1,e2,invoke,builtin,Sem.run_bind,Sem.run_pure,Result.andThen_ok,aqr,aoh,aol,cZ]
theorem V8(hW:aX G base s.H gh w)(hF:FR L nt gh w a s){x:Operand}{y:aF}(hc:ax nt x=some y):(y.addr G s.T=.de->a.eval x=.map none) /\
  (∀ kz ka va es,y.addr G s.T=.fg kz ka va es->PR gh.S w (a.eval x) (.fg kz ka va es))/\∀ l,y.addr G s.T=.mref l->l<s.H.length/\a.eval x=.map (some (gh.ρ l)):=by
 have hm:=arg_val hW hF hc
 refine⟨fun h=>?_,fun kz ka va es h=>?_,fun l h=>?_⟩
 ·rw[h] at hm
  generalize a.eval x=V at hm
  cases (hm:VR gh s.H.length w V .de) with
  | plain _ _ h=>cases h;rfl
 ·rw[h] at hm
  generalize a.eval x=V at hm
  cases (hm:VR gh s.H.length w V (.fg _ _ _ _)) with
  | plain _ _ h=>exact h
 ·rw[h] at hm
  exact VR.nK hm
theorem OY(hW:aX G base s.H gh w)(hF:FR L nt gh w a s){x:Operand}{y:aF}(hc:ax nt x=some y){kz:Nat}{ka va:Bool}{es:List (List AV)}(h:y.addr G s.T=.nC kz ka va es):PR gh.S w (a.eval x) (.nC kz ka va es):=by
 have hm:=arg_val hW hF hc
 rw[h] at hm
 generalize a.eval x=V at hm
 cases (hm:VR gh s.H.length w V (.nC _ _ _ _)) with
 | plain _ _ h=>exact h
end
end
end Go.Abs
namespace Go.Abs
open Go.ChangeMaps (setBlock)
section
section
variable {P:Program}{G:Nat->List AV}{base nt:Nat}{L:List Nat}{gh:Gh}{w w' : World}{a:Act}{s:AS}{H:ah}
theorem Hc{α:Type}{key:α->Nat} : ∀ (l:List α) (x:α),x∈l->(∀ (i j:Nat) (a b:α),l[i]?=some a->l[j]?=some b->key a=key b->i=j)->l.Perm (x :: l.filter fun y=>decide (key y≠key x))
 | [],x,h,_=>by cases h
 | y :: l,x,h,hd=>by
  have hd' : ∀ (i j:Nat) (a b:α),l[i]?=some a->l[j]?=some b->key a=key b->i=j:=fun i j a b h1 h2 h3=>by
   have:=hd (i+1) (j+1) a b (by simpa using h1) (by simpa using h2) h3
   omega
  by_cases KZ:key y=key x
  ·have dA:l.filter (fun z=>decide (key z≠key x))=l:=by
    refine List.filter_eq_self.2 fun z hz=>?_
    obtain⟨j,hj⟩:=aoM hz
    simp only[aov]
    intro e
    have:=hd 0 (j+1) y z rfl (by simpa using hj) (KZ.trans e.symm)
    omega
   have hxe:x=y:=by
    rcases aoN.1 h with h|h
    ·exact h
    ·obtain⟨j,hj⟩:=aoM h
     have:=hd 0 (j+1) y x rfl (by simpa using hj) KZ
     omega
   subst hxe
   rw[aqT,if_neg (by simp),dA]
  ·have hxl:x∈l:=by
    rcases aoN.1 h with h|h
    ·subst h;exact absurd rfl KZ
    ·exact h
   have ih:=Hc l x hxl hd'
   rw[aqT,if_pos (by simpa using KZ)]
   exact (List.Perm.cons y ih).trans (List.Perm.swap x y _)
theorem As(hW:aX G base H gh w){b:Nat}{o:Obj}{w1:World}(Th:w1=w\/w1=w.drew)(bf:b<w.heap.size)(hS:∀ o,¬ gh.S b o)(hnc:∀ C ty fr,w.heap[b]?≠some (.cells C ty fr))(n:Nat):Step (fun r=>r=gh.κ b) n gh w gh (setBlock w1 b o):=by
 have qj:(setBlock w1 b o).heap=w.heap.setIfInBounds b o:=by rcases Th with rfl|rfl<;>rfl
 have CE:∀ b',b'≠b->(setBlock w1 b o).heap[b']?=w.heap[b']?:=fun b' h=>by rw[qj];simp[apX h]
 have dn:∀ b' o,gh.S b' o->b'≠b:=fun b' o h=>by rintro rfl;exact hS o h
 refine⟨fun _ _ h=>h,fun b' o h=>cell_of_heap (CE b' (dn b' o h)),by rw[qj];simp,?_,?_,?_,fun b' gm hn=>?_,fun b' gm=>?_,fun _ _=>rfl,fun b' ty m hm=>?_,fun b' E1 c1 hs hm=>?_⟩
 ·rcases Th with rfl|rfl<;>rfl
 ·rcases Th with rfl|rfl<;>rfl
 ·rcases Th with rfl|rfl<;>rfl
 ·have w9:b'≠b:=by rintro rfl;exact hn rfl
  exact⟨.inl (CE b' w9),rfl,fun _ h=>h⟩
 ·have:w.heap.size<=b':=by first|exact gm|(rw[qj] at gm;simpa using gm)
  exact hW.bY b' this
 ·obtain⟨C,fr,h1,h2⟩:=hm
  have w9:b'≠b:=by rintro rfl;exact hnc C ty fr h1
  exact⟨C,fr,by rw[CE b' w9];exact h1,h2⟩
 ·rw[CE b' (dn b' 0 hs)];exact hm
theorem sB{x:AV}(h:x.plain=true):x.drop=x:=by
 cases x<;>try rfl
 rename_i e own
 cases own
 ·rfl
 ·simp[AV.plain] at h
def Gh.I3(gh:Gh)(b:Nat):Gh:={ gh with S:=fun b' o=>gh.S b' o\/(b'=b/\o=0) }
theorem JR(hW:aX G base s.H gh w)(hF:FR L nt gh w a s){l kz:Nat}{ka va:Bool}{es:List (List AV)}(hH:s.H[l]?=some (.map kz ka va es))(tj:(es.all fun r=>r.all AV.plain)=true) :
  ∃ lF,aX G base (s.H.set l (.fg kz ka va es)) lF w/\FR L nt lF w a (s.gk ⟨s.H.set l (.fg kz ka va es),l⟩)/\Ext s.H.length gh w lF w/\lF.ρ l=gh.ρ l/\PR lF.S w (.map (some (gh.ρ l))) (.fg kz ka va es):=by
 have bf:l<s.H.length:=(an9.1 hH).1
 obtain⟨⟨hκ,hS,E,ck,f,hb,hE,h1,h2⟩,_⟩:=hW.more l _ hH
 have Mn:gh.ρ l<w.heap.size:=(aoi.1 hb).1
 have st:∀ n,Step (fun r=>r=.hb l) n gh w (gh.I3 (gh.ρ l)) w:=fun n=>by
  refine⟨fun b o h=>.inl h,fun _ _ _=>rfl,aoa _,rfl,rfl,rfl,fun b hb hn=>⟨.inl rfl,rfl,fun o ho=>?_⟩,fun b hb=>hW.bY b hb,fun _ _=>rfl,fun _ _ _ h=>h,fun _ _ _ _ h=>h⟩
  rcases ho with ho|⟨rfl,_⟩
  ·exact ho
  ·exact absurd hκ hn
 have hP:PR (gh.I3 (gh.ρ l)).S w (.map (some (gh.ρ l))) (.fg kz ka va es):=by
  refine .fg (gh.ρ l) kz ka va es E ck f (.inr ⟨rfl,rfl⟩) hb hE (fun i j r x hi hj=>?_)
  have hx:=aof.1 (aof.1 tj r (aoo hi)) x (aoo hj)
  have hp:PR gh.S w (f i j) x:=by
   by_cases bf:j<kz
   ·exact h1 i j r x hi hj bf
   ·have:=((h2 i j r x hi hj (by omega)).2.2).dropped
    rw[sB hx] at this
    exact this.ke hx
  exact hp.mono (st 0).S (st 0).cell (st 0).mp
 refine⟨gh.I3 (gh.ρ l),?_,?_,⟨(st _).mono (fun r h=>by rw[h];exact⟨by simp,by simp⟩),fun b hb=>hb⟩,rfl,hP⟩
 ·refine hW.xD (st _) bf (by intro k hk;simp[hk]) (fun b o ho=>?_) hW.oL (fun _ _ h=>by cases h) hP (fun b o m ho=>?_)
  ·rcases ho with ho|⟨rfl,_⟩
   ·exact hW.nW b o ho
   ·exact Mn
  ·rcases ho with ho|⟨rfl,rfl⟩
   ·exact .inl ho
   ·exact .inr (fun hc=>by simp[World.cell?,hb] at hc)
 ·exact hF.grown (st _) (fun i=>⟨by simp,by simp,by simp⟩) (by simp)
theorem Hp(hW:aX G base s.H gh w)(hF:FR L nt gh w a s){o:Oper}{kz:Nat}{ka va:Bool}(hd:∀ k,o.dst=some k->k<nt/\k∈L) :
  ∀ (m:Option Nat) (since:Nat) (es:List (List AV)),(execOp a.eval o).run P w=.ok (.value (.pointer (some ⟨w.heap.size,0,none⟩))) (w.alloc (.mapIter m since #[] since)) ->
   ((m=none/\es=[])\/∃ m0 E ck f,m=some m0/\gh.S m0 0/\w.heap[m0]?=some (.map E ck)/\since=ck/\∃ vb:List (List AV),vi E ck kz ka va vb f/\es.Perm vb/\(∀ (i j:Nat) (r:List AV) (x:AV),vb[i]?=some r->r[j]?=some x->PR gh.S w (f i j) x)) ->
   ∃ v' aV w',tP P a o w v' w'/\Out G base nt L gh w a s o.dst (.iter s.gen kz ka va [] es) { s with gen:=s.gen+1 } v' aV w':=by
  intro m since es cZ hm
  have hp:=fp.alloc w (.mapIter m since #[] since)
  have dn:=tT o.dst
  have st:=ig hW hp dn (fun _=>False) s.H.length
  have F0:FR L nt (gh.alloc w.heap.size (HQ o.dst) fun _=>False) (w.alloc (.mapIter m since #[] since)) a s:=hF.grown (H':=s.H) (lo':=s.lo) st (fun i=>⟨id,id,fun _=>id⟩) (aoa _)
  have lW:=hW.alloc hp dn (fun _=>False) (fun _ _ h=>h.elim)
  refine⟨.pointer (some ⟨w.heap.size,0,none⟩),_,_,.inl cZ,lW,F0.RW (gen':=s.gen+1) (ao' _) (fun b hb=>lW.bY b hb) o.dst (fun k hk=>(hd k hk).1) (.inr ⟨⟨s.gen,aoa _,rfl⟩,fun k hk=>(hd k hk).2⟩) ?_,mP hW hp dn _ _⟩
  intro k hk
  refine⟨aqt _,w.heap.size,rfl,?_⟩
  rw[hk] at st ⊢
  refine⟨by simp[Gh.alloc,HQ],?_,m,since,#[],since,hp.new,?_⟩
  ·rintro o (ho|⟨_,ho⟩)
   ·have:=hW.nW _ o ho;omega
   ·exact ho
  ·rcases hm with ⟨rfl,rfl⟩|⟨m0,E,ck,f,rfl,h1,h2,rfl,vb,h3,hpm,h4⟩
   ·exact .inl ⟨rfl,rfl,rfl,rfl⟩
   ·refine .inr ⟨m0,E,vb,since,f,rfl,st.S _ _ h1,st.mp _ _ _ h1 h2,h3,rfl,rfl,fun i j r x hi hj=>(h4 i j r x hi hj).mono st.S st.cell st.mp,.inl ⟨rfl,rfl⟩,?_⟩
    have:((E.toList.zip vb).filter fun p=>!(#[]:Array Nat).contains p.1.born)=E.toList.zip vb:=List.filter_eq_self.2 fun p _=>by simp
    rw[this]
    have hz:(E.toList.zip vb).map (·.2)=vb:=List.map_snd_zip (by have:=h3.size;simp;omega)
    rw[hz]
    exact hpm
theorem ZY(hW:aX G base s.H gh w)(hF:FR L nt gh w a s){o:Oper}{t kt et:TypeId}{x:Operand}{y:aF}{kz:Nat}{ka va:Bool}{z:AV}{s' : Option AS}{cf:dq}(ho:o.op=.range t x)(hc:ax nt x=some y)(ht:P.underlying t=some (.map kt et))
  (he:aE G cf s (.rng kz ka va y)=some (z,s')) (hd:∀ k,o.dst=some k->k<nt/\k∈L) :
  ∃ v' aV w',tP P a o w v' w'/\Out G base nt L gh w a s o.dst z (s'.getD s) v' aV w':=by
 obtain⟨m1,m2,m3⟩:=V8 hW hF hc
 have key:=Hp (P:=P) hW hF (o:=o) (kz:=kz) (ka:=ka) (va:=va) hd
 simp only[aE] at he
 split at he
 ·rename_i hY
  simp only[an2,an7] at he
  obtain⟨rfl,rfl⟩:=he
  refine key none 0 [] ?_ (.inl ⟨rfl,rfl⟩)
  simp[execOp,ho,m1 hY,Instr.range,run_underlying ht,newObj,Sem.run]
 ·rename_i hY
  obtain⟨h0,qi⟩:=ae he
  clear he
  simp only[aod,fW,aov,ao3] at h0
  obtain⟨⟨rfl,rfl⟩,rfl⟩:=h0
  simp only[an2,an7] at qi
  obtain⟨rfl,rfl⟩:=qi
  have hp:=m2 _ _ _ _ hY
  generalize hA:a.eval x=V at hp
  cases hp with
  | fg b _ _ _ _ E ck f hS hb hE cL =>
   refine key (some b) ck _ ?_ (.inr ⟨b,E,ck,f,rfl,hS,hb,rfl,_,hE.iter,List.Perm.refl _,cL⟩)
   simp[execOp,ho,hA,Instr.range,run_underlying ht,newObj,getObj,Sem.run,hb]
 ·rename_i hY
  obtain⟨h0,qi⟩:=ae he
  clear he
  simp only[aod,fW,aov,ao3] at h0
  obtain⟨⟨rfl,rfl⟩,rfl⟩:=h0
  simp only[an2,an7] at qi
  obtain⟨rfl,rfl⟩:=qi
  have hp:=OY hW hF hc hY
  generalize hA:a.eval x=V at hp
  cases hp with
  | nC b _ _ _ _ vb E ck f hS hb hE hpm cL =>
   refine key (some b) ck _ ?_ (.inr ⟨b,E,ck,f,rfl,hS,hb,rfl,_,hE,hpm.symm,cL⟩)
   simp[execOp,ho,hA,Instr.range,run_underlying ht,newObj,getObj,Sem.run,hb]
 ·rename_i l hY
  split at he
  ·rename_i ml mj mD es hH
   obtain⟨h0,qi⟩:=ae he
   clear he
   simp only[aod,fW,aov,ao3] at h0
   obtain⟨⟨⟨rfl,rfl⟩,rfl⟩,tj⟩:=h0
   simp only[an2,an7] at qi
   obtain⟨rfl,rfl⟩:=qi
   obtain⟨bf,qg⟩:=m3 l hY
   obtain⟨lF,qf,wX,HU,hρ,hP⟩:=JR hW hF hH tj
   generalize hV:Value.map (some (gh.ρ l))=V at hP
   cases hP with
   | fg b _ _ _ _ E ck f hS hb hE cL =>
    injection hV with hV
    injection hV with hV
    subst hV
    obtain⟨v',aV,w',k1,k2⟩:=Hp (P:=P) (s:=s.gk ⟨s.H.set l (.fg kz ka va es),l⟩) qf wX (o:=o) hd (some (gh.ρ l)) ck es (by
     simp[execOp,ho,qg,Instr.range,run_underlying ht,newObj,getObj,Sem.run,hb]) (.inr ⟨_,E,ck,f,rfl,hS,hb,rfl,_,hE.iter,List.Perm.refl _,cL⟩)
    exact⟨v',aV,w',k1,k2.W,k2.F,HU.trans k2.E (by simp[AS.gk])⟩
  ·cases he
 ·cases he
theorem FO:∀ (l:List MapEntry) (e:MapEntry),e∈l->(∀ x∈l,x.born=e.born->x=e)->l.find? (fun x=>x.born==e.born)=some e
 | [],e,h,_=>by cases h
 | x :: l,e,h,hu=>by
  rw[List.find?_cons]
  by_cases hx:x.born=e.born
  ·have:=hu x (by simp) hx
   subst this
   simp
  ·have hb:(x.born==e.born)=false:=by simpa using hx
   rw[hb]
   rcases aoN.1 h with h|h
   ·subst h;exact absurd rfl hx
   ·exact FO l e h (fun y hy=>hu y (by simp[hy]))
theorem KA{n:Nat}{va:Bool}{m:Nat}{g:Nat->Value}{cs:List AV}(hm:cs.length=m)(h1:va=false->m=1)(h:∀ (j:Nat) (x:AV),cs[j]?=some x->PR gh.S w (g j) x):VR gh n w (qq va m g) (oE va cs) :=
 RC hm h1 (fun j x hj=>⟨VR.dropped (.plain _ _ (h j x hj)),(h j x hj).fw⟩)
theorem Fx{n ck kz i:Nat}{ka va:Bool}{E:Array MapEntry}{es:List (List AV)}{f:Nat->Nat->Value}(hE:vi E ck kz ka va es f)(cL:∀ (i j:Nat) (r:List AV) (x:AV),es[i]?=some r->r[j]?=some x->PR gh.S w (f i j) x)
  {e:MapEntry} {r:List AV} (he:E[i]?=some e) (hr:es[i]?=some r):VR gh n w e.key (oE ka (r.take kz))/\VR gh n w e.val (oE va (r.drop kz)):=by
 obtain⟨k1,k2,k3,k4,k5⟩:=hE.row i e r he hr
 rw[k4,k5]
 refine⟨KA (by simp;omega) k2 (fun j x hj=>?_),KA (by simp) (fun h=>by rw[k3 h];omega) (fun j x hj=>?_)⟩
 ·rw[aoC] at hj
  split at hj
  ·exact cL i j r x hr hj
  ·cases hj
 ·rw[aoU] at hj
  exact cL i (kz+j) r x hr hj
theorem Lj(hF:FR L nt gh w a s){t g kz:Nat}{ka va:Bool}{cur:List AV}{todo:List (List AV)}(ht:t<nt)(hT:s.T t=.iter g kz ka va cur todo):g<s.gen/\∃ b,fP a t=.pointer (some ⟨b,0,none⟩)/\vg gh w b (.bx t) kz ka va cur todo:=by
 have h:=hF.slot t ht
 rw[hT] at h
 exact h
theorem ZW(hW:aX G base s.H gh w)(hF:FR L nt gh w a s){o:Oper}{it:Operand}{y:aF}{z:AV}{s' : Option AS}{cf:dq}(ho:o.op=.entry it)(hc:ax nt it=some y)(he:aE G cf s (.TF y)=some (z,s')) :
  s'=none/\∃ v,(execOp a.eval o).run P w=.ok (.value v) w/\mO gh s.H.length nt w s.T s.gen (fP a) v z:=by
 cases y with
 | tmp t =>
  obtain⟨rfl,ht⟩:=jz hc
  simp only[aE] at he
  split at he
  ·rename_i g kz ka va cur todo hT
   obtain⟨h0,he⟩:=ae he
   simp only[aod,ao2,ao7,aqx] at h0
   simp only[an2,an7] at he
   obtain⟨rfl,rfl⟩:=he
   obtain⟨_,b,hb,_,_,m,since,seen,last,DH,hm⟩:=Lj hF ht hT
   refine⟨rfl,?_⟩
   rcases hm with ⟨_,_,_,O9⟩|⟨m0,E,es,ck,f,rfl,hS,Ny,hE,rfl,rfl,cL,O9,_⟩
   ·exact absurd O9 h0.2
   ·rcases O9 with ⟨_,O9⟩|⟨st,i,e,ur,hEi,hbe,aia⟩
    ·exact absurd O9 h0.2
    ·obtain⟨v1,v2⟩:=Fx (n:=s.H.length) hE cL hEi aia
     have ait:e∈E.toList:=by
      have:E.toList[i]?=some e:=by rw[aoX];exact hEi
      exact aoo this
     have aeH:E.find? (fun x=>x.born==e.born)=some e:=by
      rw[<- Array.find?_toList]
      refine FO _ e ait (fun x hx hxb=>?_)
      obtain⟨j,hj⟩:=aoM hx
      rw[aoX] at hj
      have:=hE.apart j i x e hj hEi hxb
      subst this
      rw[hEi] at hj;injection hj with hj;exact hj.symm
     have qg:a.eval (.tmp t)=.pointer (some ⟨b,0,none⟩):=hb
     refine⟨.tuple #[e.key,e.val],?_,.dC (.tuple _ _ rfl (fun j u x hu hx=>?_))⟩
     ·subst hbe
      simp[execOp,ho,qg,Instr.entry,getObj,Sem.run,DH]
      simp[ur,Ny,Sem.run,aeH]
     ·match j with
      | 0=>injection hu with hu;injection hx with hx;subst hu hx;exact v1
      | 1=>injection hu with hu;injection hx with hx;subst hu hx;exact v2
      | j+2=>simp at hx
  ·cases he
 | _=>simp only[aE] at he;cases he
theorem MJ{E:Array MapEntry}{es:List (List AV)}{seen:Array Nat}{ck kz i:Nat}{ka va:Bool}{f:Nat->Nat->Value}(hE:vi E ck kz ka va es f){e:MapEntry}{r:List AV}(he:E[i]?=some e)(hr:es[i]?=some r)(hs:seen.contains e.born=false) :
  (((E.toList.zip es).filter fun p=>!seen.contains p.1.born).map (·.2)).Perm (r :: ((E.toList.zip es).filter fun p=>!(seen.push e.born).contains p.1.born).map (·.2)):=by
 have hz:(E.toList.zip es)[i]?=some (e,r):=by rw[ap5];exact⟨by rw[aoX];exact he,hr⟩
 have h1:=Hc (key:=fun p:MapEntry × List AV=>p.1.born) (E.toList.zip es) (e,r) (aoo hz) (fun j k p q hj hk hpq=>by
  rw[ap5,aoX] at hj hk
  exact hE.apart j k p.1 q.1 hj.1 hk.1 hpq)
 have h2:=h1.filter (fun p=>!seen.contains p.1.born)
 rw[aqT,if_pos (by show (!seen.contains e.born)=true;rw[hs];rfl),List.filter_filter] at h2
 have h3:=h2.map (·.2)
 rw[aoh] at h3
 refine h3.trans (List.Perm.of_eq ?_)
 congr 2
 refine List.filter_congr fun p _=>?_
 by_cases hp:p.1.born=e.born
 ·simp[hp]
 ·simp[hp]
theorem TO(hW:aX G base s.H gh w)(hF:FR L nt gh w a s){o:Oper}{it:Operand}{t g kz:Nat}{ka va:Bool}{cur:List AV}{todo:List (List AV)}(ho:o.op=.next it false)(hc:ax nt it=some (.tmp t))(hT:s.T t=.iter g kz ka va cur todo)(hL:t∈L)
  (hd:∀ k,o.dst=some k->k<nt) (K:Act->World->Prop) (Q:Exit->Act->World->Prop)
  (hK0:todo=[]->∀ v' aV w',Out G base nt L gh w a s o.dst (.tuple [.bool false]) s v' aV w'->K (a.put o.dst v') w')
  (hK1:∀ r rest,todo.Perm (r :: rest)->∀ v' aV w',Out G base nt L gh w a s o.dst (.tuple [.bool true,oE ka (r.take kz),oE va (r.drop kz)]) (s.cc t (.iter g kz ka va r rest)) v' aV w'->K (a.put o.dst v') w'):o.wp P a w K Q:=by
 obtain⟨rfl,ht⟩:=jz hc
 obtain⟨hg,b,hb,hκ,hS,m,since,seen,last,DH,hm⟩:=Lj hF ht hT
 have qg:a.eval (.tmp t)=.pointer (some ⟨b,0,none⟩):=hb
 have Pc:∀ {n:Nat},VR gh n w (.tuple #[.bool false]) (.tuple [.bool false]):=fun {n}=>.tuple _ _ rfl (fun j u x hu hx=>by
  match j with
  | 0=>injection hu with hu;injection hx with hx;subst hu hx;exact .plain _ _ (.bool _)
  | j+1=>simp at hx)
 rcases hm with ⟨rfl,rfl,_,_⟩|⟨m0,E,es,ck,f,rfl,hSm,Ny,hE,rfl,rfl,cL,_,A7⟩
 ·refine tP.wp (.inl ?_) (hK0 rfl (.tuple #[.bool false]) gh w (Out.pure hW hF hd (.dC Pc)))
  simp[execOp,ho,qg,Instr.next,getObj,Sem.run,DH]
 ·rcases run_next_at (P:=P) w o.type b m0 last last seen E last DH Ny (fun x hx=>by
   obtain⟨j,hj⟩:=aoM hx
   rw[aoX] at hj
   exact hE.born j x hj) (aoa _) with ⟨hz,cZ⟩|⟨e,hem,w1,Th,cZ⟩
  ·have Mt:todo=[]:=by
    have hl:((E.toList.zip es).filter fun p=>!seen.contains p.1.born)=[]:=by
     refine List.filter_eq_nil_iff.2 fun p hp dn=>?_
     have hpe:p.1∈E.toList:=(List.of_mem_zip (a:=p.1) (b:=p.2) hp).1
     have:p.1∈(leftOf E seen).toList:=by
      unfold leftOf
      simp only[Array.toList_filter,aqU]
      exact⟨hpe,dn⟩
     have h0:(leftOf E seen).toList=[]:=List.eq_nil_of_length_eq_zero (by simpa using hz)
     rw[h0] at this
     cases this
    rw[hl] at A7
    exact A7.eq_nil
   refine tP.wp (.inl ?_) (hK0 Mt (.tuple #[.bool false]) gh w (Out.pure hW hF hd (.dC Pc)))
   simp[execOp,ho,qg,cZ]
  ·unfold leftOf at hem
   simp only[Array.toList_filter,aqU] at hem
   obtain⟨heE,pB⟩:=hem
   obtain⟨i,hi⟩:=aoM heE
   rw[aoX] at hi
   have aaw:i<es.length:=by rw[<- hE.size];exact (aoi.1 hi).1
   have hr:es[i]?=some es[i]:=an' aaw
   have aix:seen.contains e.born=false:=by simpa using pB
   have afg:=MJ hE hi hr aix
   have vG:b<w.heap.size:=(aoi.1 DH).1
   have st:=As (o:=.mapIter (some m0) last (seen.push e.born) last) hW Th vG hS (fun C ty fr h=>by rw[DH] at h;cases h) s.H.length
   rw[hκ] at st
   have qj:(setBlock w1 b (.mapIter (some m0) last (seen.push e.born) last)).heap=w.heap.setIfInBounds b (.mapIter (some m0) last (seen.push e.born) last):=by rcases Th with rfl|rfl<;>rfl
   have gO:(setBlock w1 b (.mapIter (some m0) last (seen.push e.born) last)).heap.size=w.heap.size:=by rw[qj];simp
   have lW:aX G base s.H gh (setBlock w1 b (.mapIter (some m0) last (seen.push e.born) last)):=hW.step st (fun l=>⟨by simp,by simp⟩) (fun b o h=>by rw[gO];exact hW.nW b o h) (fun b h=>by rw[gO];exact hW.oL b h) (fun _ _ _ h=>.inl h)
   have hE' : Ext s.H.length gh w gh (setBlock w1 b (.mapIter (some m0) last (seen.push e.born) last)):=⟨st.mono (fun r h=>by rw[h];simp[pA]),fun _ h=>h⟩
   have hIt:vg gh (setBlock w1 b (.mapIter (some m0) last (seen.push e.born) last)) b (.bx t) kz ka va es[i] (((E.toList.zip es).filter fun p=>!(seen.push e.born).contains p.1.born).map (·.2)):=by
    refine⟨hκ,hS,some m0,last,seen.push e.born,last,by rw[qj];simp[vG],.inr ⟨m0,E,es,last,f,rfl,hSm,st.mp _ _ _ hSm Ny,hE,rfl,rfl,fun i j r x h1 h2=>(cL i j r x h1 h2).mono st.S st.cell st.mp,.inr ⟨e.born,i,e,by simp,hi,rfl,hr⟩,List.Perm.refl _⟩⟩
   have F0:FR L nt gh (setBlock w1 b (.mapIter (some m0) last (seen.push e.born) last)) a (s.cc t (.iter g kz ka va es[i] (((E.toList.zip es).filter fun p=>!(seen.push e.born).contains p.1.born).map (·.2)))) :=
    hF.cc (H':=s.H) (lo':=s.lo) st (aoa _) (fun i hi=>⟨by simpa using hi,by simp,by simp⟩) (.inl ⟨ht,by rw[hT];rfl⟩) (fun _=>⟨hg,b,hb,hIt⟩)
   obtain⟨v1,v2⟩:=Fx (n:=s.H.length) hE cL hi hr
   have hv:VR gh s.H.length (setBlock w1 b (.mapIter (some m0) last (seen.push e.born) last)) (.tuple #[.bool true,e.key,e.val]) (.tuple [.bool true,oE ka (es[i].take kz),oE va (es[i].drop kz)]):=by
    refine .tuple _ _ rfl (fun j u x hu hx=>?_)
    match j with
    | 0=>injection hu with hu;injection hx with hx;subst hu hx;exact .plain _ _ (.bool _)
    | 1=>injection hu with hu;injection hx with hx;subst hu hx;exact v1.mono st (aoa _)
    | 2=>injection hu with hu;injection hx with hx;subst hu hx;exact v2.mono st (aoa _)
    | j+3=>simp at hx
   have hO:Out G base nt L gh w a s o.dst (.tuple [.bool true,oE ka (es[i].take kz),oE va (es[i].drop kz)]) (s.cc t (.iter g kz ka va es[i] (((E.toList.zip es).filter fun p=>!(seen.push e.born).contains p.1.born).map (·.2)))) (.tuple #[.bool true,e.key,e.val]) gh (setBlock w1 b (.mapIter (some m0) last (seen.push e.born) last)) :=
    Out.of (s1:=s.cc t (.iter g kz ka va es[i] (((E.toList.zip es).filter fun p=>!(seen.push e.born).contains p.1.born).map (·.2)))) (gen':=s.gen) lW F0 hE' (aoa _) hd (.inl rfl) (fun k hk=>nY rfl (.inl hv))
   refine tP.wp (.inl ?_) (hK1 es[i] _ (A7.trans afg) (.tuple #[.bool true,e.key,e.val]) gh _ hO)
   simp[execOp,ho,qg,cZ]
end
end
end Go.Abs
namespace Go.Abs
section
section
variable {P:Program}{G:Nat->List AV}{base nt:Nat}{L:List Nat}{gh lF:Gh}{w w' : World}{a:Act}{s:AS}{H:ah}
theorem xn{α:Type}{sz:Nat} : ∀ (e:List (List α)) (idx:Nat) (x:α),(∀ r∈e,r.length=sz)->e.flatten[idx]?=some x->∃ i j r,e[i]?=some r/\r[j]?=some x/\idx=i*sz+j
 | [],_,_,_,h=>by simp at h
 | r :: e,idx,x,hr,h=>by
  rw[aoP] at h
  by_cases hl:idx<r.length
  ·rw[aox hl] at h;exact⟨0,idx,r,rfl,h,by simp⟩
  ·rw[aoz (by omega)] at h
   obtain⟨i,j,r',h1,h2,h3⟩:=xn e _ x (fun r h=>hr r (by simp[h])) h
   have:=hr r (by simp)
   exact⟨i+1,j,r',by simpa using h1,h2,by rw[aoT];omega⟩
theorem nx{α:Type}{sz:Nat} : ∀ (e:List (List α)),(∀ r∈e,r.length=sz)->e.flatten.length=e.length*sz
 | [],_=>by simp
 | r :: e,hr=>by
  have:=hr r (by simp)
  have ih:=nx e (fun r h=>hr r (by simp[h]))
  simp only[aoP,List.length_append,an5,aoT];omega
theorem ux{l m:Nat}{x:AV}(h:gT l x=true)(hl:l<=m):gT m x=true:=by
 cases x<;>first|exact h|(simp only[gT,ao2] at h ⊢;omega)
theorem wD{l m:Nat}{x:AV}(h:lg l x=true)(hl:l<=m):lg m x=true:=by
 unfold lg at h ⊢
 split
 ·exact aof.2 fun y hy=>ux (aof.1 h y hy) hl
 ·rename_i hn
  split at h
  ·exact absurd rfl (hn _)
  ·exact ux h hl
theorem F7{l m:Nat}{x:AV}(h:bo l x=true)(hl:l<=m):bo m x=true:=by
 cases x
 case func f fs cs =>
  simp only[bo,aod,aof] at h ⊢
  exact⟨fun y hy=>wD (h.1 y hy) hl,fun y hy=>wD (h.2 y hy) hl⟩
 all_goals first|exact h|(simp only[bo,ao2] at h ⊢;omega)
theorem aX.arr(hW:aX G base H gh w){aV:Gh}{touch:bC->Prop}(st:Step touch H.length gh w aV w'){H' : ah}(hlen:H'.length=H.length)
  (hold:∀ (loc:Nat) (o:bZ),H'[loc]?=some o->(H[loc]?=some o/\¬ touch (.hb loc)/\∀ j,¬ touch (.hs loc j))\/o=.dead)
  (hs:∀ b o,aV.S b o->gh.S b o) (hk:∀ b,aV.κ b≠.none->base<=b/\b<w'.heap.size) {cs:List AV}
  (hB:gW aV (H.length+1) w' (aV.ρ H.length) (.hb H.length) (fun j=>.hs H.length j) cs) (hr:cs.all (bo H.length)=true):aX G base (H'++[.box bV cs]) aV w':=by
 have last:∀ {loc:Nat} {o:bZ},(H'++[bZ.box bV cs])[loc]?=some o->(loc<H.length/\H'[loc]?=some o)\/(loc=H.length/\o=.box bV cs):=by
  intro loc o hl
  by_cases bf:loc<H'.length
  ·rw[aox bf] at hl;exact .inl ⟨by omega,hl⟩
  ·rw[aoz (by omega)] at hl
   have hz:loc=H'.length:=by
    have:=(an9.1 hl).1
    simp at this;omega
   subst hz
   simp at hl
   exact .inr ⟨hlen,hl.symm⟩
 have hln:(H'++[bZ.box bV cs]).length=H.length+1:=by simp[hlen]
 refine⟨aoS hW.size st.size,fun b o ho=>apv (hW.nW b o (hs b o ho)) st.size,hk,fun g j x hx=>?_,fun loc ty ds hl=>?_,fun loc ty ds hl=>?_,fun g hg=>(hW.xf g hg).imp fun ty h=>st.len g ty _ h,hW.ko st (fun b o m h=>.inl (hs b o h)),fun loc o hl=>?_,fun loc ty ds hl hf=>?_⟩
 ·obtain⟨v,h1,h2,h3⟩:=hW.aZ g j x hx
  exact⟨v,(st.cell g j h3).trans h1,h2.mono st.S st.cell st.mp,st.S g j h3⟩
 ·rw[hln]
  rcases last hl with ⟨bf,hl⟩|⟨rfl,ho⟩
  ·rcases hold loc _ hl with ⟨h0,h1,h2⟩|h0
   ·rw[st.ρ loc bf];exact (hW.boxes loc ty ds h0).mono st (ao' _) h1 h2
   ·cases h0
  ·injection ho with e1 e2
   subst e1 e2
   exact hB
 ·rcases last hl with ⟨bf,hl⟩|⟨rfl,ho⟩
  ·rcases hold loc _ hl with ⟨h0,_⟩|h0
   ·exact hW.refs loc ty ds h0
   ·cases h0
  ·injection ho with e1 e2
   subst e1 e2
   exact hr
 ·rw[hln]
  rcases last hl with ⟨bf,hl⟩|⟨rfl,rfl⟩
  ·rcases hold loc _ hl with ⟨h0,h1,h2⟩|rfl
   ·rw[st.ρ loc bf];exact (hW.more loc o h0).mono st (ao' _) h1 h2
   ·trivial
  ·trivial
 ·rcases last hl with ⟨bf,hl⟩|⟨rfl,ho⟩
  ·rcases hold loc _ hl with ⟨h0,_⟩|h0
   ·rw[st.ρ loc bf];exact st.len _ _ _ (hW.types loc ty ds h0 hf)
   ·cases h0
  ·injection ho with e1 e2
   exact absurd e1 hf
def Gh.rename(gh:Gh)(l n b:Nat):Gh where
 S:=gh.S
 κ:=fun x=>match gh.κ x with
  | .hb i=>if i=l then .hb n else .hb i
  | .hs i j=>if i=l then .hs n j else .hs i j
  | k=>k
 ρ:=fun i=>if i=n then b else gh.ρ i
theorem Sd{l n b x:Nat}(h:gh.κ x≠.hb l/\∀ j,gh.κ x≠.hs l j):(gh.rename l n b).κ x=gh.κ x:=by
 simp only[Gh.rename]
 generalize gh.κ x=k at h
 cases k with
 | hb i=>simp only;rw[if_neg (fun e=>h.1 (by rw[e]))]
 | hs i j=>simp only;rw[if_neg (fun e=>h.2 j (by rw[e]))]
 | _=>rfl
theorem wO{l n b x:Nat} : (gh.rename l n b).κ x=.none↔gh.κ x=.none:=by
 simp only[Gh.rename]
 generalize gh.κ x=k
 cases k with
 | hb i=>simp only;split<;>simp
 | hs i j=>simp only;split<;>simp
 | _=>simp
theorem pY{l n b x:Nat} : (gh.rename l n b).κ x=.outer↔gh.κ x=.outer:=by
 simp only[Gh.rename]
 generalize gh.κ x=k
 cases k with
 | hb i=>simp only;split<;>simp
 | hs i j=>simp only;split<;>simp
 | _=>simp
def jd(l:Nat)(r:bC):Prop:=r=.hb l\/∃ j,r=.hs l j
theorem Step.renamed{touch:bC->Prop}{m l n b:Nat}(st:Step touch m gh w lF w')(hn:m<=n)(ht:∀ r,touch r->jd l r):Step (jd l) m gh w (lF.rename l n b) w':=by
 refine⟨st.S,st.cell,st.size,st.os,st.tape,st.output,fun x hx lY=>?_,fun x hx=>?_,fun loc hl=>?_,st.len,st.mp⟩
 ·obtain⟨k1,k2,k3⟩:=st.AF x hx (fun h=>lY (ht _ h))
  refine⟨k1,?_,k3⟩
  rw[Sd (by rw[k2];exact⟨fun h=>lY (.inl h),fun j h=>lY (.inr ⟨j,h⟩)⟩),k2]
 ·intro h
  exact st.fresh x hx (pY.1 h)
 ·show (if loc=n then _ else _)=_
  rw[if_neg (by omega)]
  exact st.ρ loc hl
theorem CR.rename{m m' l n b j:Nat}{v:Value}{x:AV}(h:CR gh m w (.hs l j) v x)(hf:∀ b,w.heap.size<=b->gh.κ b≠.outer)(hm:m<=n)(YE:m<=m'):CR (gh.rename l n b) m' w (.hs n j) v x:=by
 have st:Step (jd l) m gh w (gh.rename l n b) w:=Step.renamed (touch:=fun _=>False) (Step.refl _ _ _ _ hf) hm (fun _ h=>h.elim)
 rcases h with h|⟨e,rfl,h1,b',cap,C,ty,lo,hi,sz,hv,hk,he,hb,hC,hr,hl,hh,hS⟩
 ·exact .inl (h.mono st YE)
 ·exact .inr ⟨e,rfl,h1,b',cap,C,ty,lo,hi,sz,hv,by simp[Gh.rename,hk],he,hb,hC,hr,hl,hh,hS⟩
theorem zD(l:Nat)(i:Nat):¬ jd l (.bx i)/\¬ jd l (.sl i)/\∀ j,¬ jd l (.sc i j):=by
 refine⟨?_,?_,fun j=>?_⟩<;>(rintro (h|⟨_,h⟩)<;>cases h)
theorem Dy(l:Nat)(r:bC)(h:jd l r):pA r:=by
 rcases h with rfl|⟨j,rfl⟩<;>exact⟨by simp,by simp⟩
theorem Out.arr(hF:FR L nt gh w a s){d:Option Nat}(hd:∀ k,d=some k->k<nt){aV:Gh}{l:Nat}(st:Step (jd l) s.H.length gh w aV w')(ho:∀ b,aV.κ b=.outer->gh.κ b=.outer){H' : ah}{lo k cap z:Nat}(hlen:H'.length=s.H.length){cs:List AV}
  (hW:aX G base (H'++[.box bV cs]) aV w') (hk:k<=cap) (hz:∃ ty,pC w' (aV.ρ s.H.length) ty (0+cap*z)) :
  Out G base nt L gh w a s d (.sref s.H.length 0 k z) (s.gk ⟨H'++[.box bV cs],lo⟩) (.slice (some ⟨aV.ρ s.H.length,0,none⟩) k cap) aV w':=by
 have hv:VR aV (H'++[bZ.box bV cs]).length w' (.slice (some ⟨aV.ρ s.H.length,0,none⟩) k cap) (.sref s.H.length 0 k z):=.sref _ 0 k cap z (by simp[hlen]) hk (fun _=>hz)
 exact⟨hW,hF.put st (zD l) (by simp[hlen]) d hd (.dC hv),⟨st.mono (Dy l),ho⟩⟩
theorem rM{sz:Nat}{A:Array Value}{E:List (List AV)}{S:Nat->Nat->Prop}(h:iC S w sz A E){j:Nat}{x:AV}(hx:E.flatten[j]?=some x):∃ v,A[j]?=some v/\PR S w v x:=by
 obtain⟨i,k,r,h1,h2,rfl⟩:=xn E j x (fun r hm=>by obtain⟨i,hi⟩:=aoM hm;exact h.2.1 i r hi) hx
 exact h.2.2 i k r x h1 h2
theorem Bn{n:Nat}{p:bC}{V:Value}(h:CR gh n w p V (.slice [] true)):∃ ao,V=.slice ao 0 0:=by
 rcases h with h|⟨e',heq,_,b,cap,C,ty,lo,hi,jx,iA,hk,dn,_⟩
 ·cases h with
  | plain _ _ h=>cases h
  | full ao k _ h hz =>
   cases h with
   | dw=>exact⟨none,rfl⟩
   | slice b o _ _ jx _ _ hn=>simp at hn;subst hn;exact⟨_,rfl⟩
 ·injection heq with h1;subst h1;exact absurd rfl dn
theorem XD{t e:TypeId}{sz:Nat}(ht:P.underlying t=some (.slice e))(ao:Option Addr):Src P sz t (.slice ao 0 0) 0 [] w:=by
 refine⟨.inl ⟨_,ht⟩,fun _=>rfl,?_,?_,by simp,fun _ h=>by cases h⟩
 ·cases ao with
  | none=>exact run_firstCells_none w _ 0 0 0
  | some ad=>exact run_firstCells_some w _ 0 ad 0 0 [] (by simp) (fun j v h=>by simp at h)
 ·cases ao with
  | none=>exact run_firstCells_none w.drew _ 0 0 0
  | some ad=>exact run_firstCells_some w.drew _ 0 ad 0 0 [] (by simp) (fun j v h=>by simp at h)
theorem oJ{f:List (List AV)}(h:dP f=true){x:AV}(hx:x∈f.flatten):x.plain=true:=by
 obtain⟨r,hr,hx⟩:=ap'.1 hx
 exact aof.1 (aof.1 h r hr) x hx
theorem lX{x:AV}(h:x.plain=true)(n:Nat):bo n x=true:=qM h
theorem FF(hW:aX G base s.H gh w)(hF:FR L nt gh w a s){o:Oper}{c:Call}{x y:Operand}{t u e:TypeId}{sz bytes:Nat}{yx yy:aF}{z:AV}{s' : Option AS}
  (ho:o.op=.call c) (iE:c.callee=.builtin .append) (ft:c.args.toList=[x,y]) (kX:c.argTypes.toList=[t,u]) (hT:wa P t e sz bytes) (hu:(∃ e',P.underlying u=some (.slice e'))\/P.underlying u=some .string)
  (dR:ax nt x=some yx) (yD:ax nt y=some yy) (he:iT s sz bytes (yx.addr G s.T) (yy.eval G s.T)=some (z,s')) (hd:∀ k,o.dst=some k->k<nt) :
  ∃ v' aV w',tP P a o w v' w'/\Out G base nt L gh w a s o.dst z (s'.getD s) v' aV w':=by
 have fI:=fun b hb=>hW.bY (gh:=gh) b hb
 simp only[iT,an1] at he
 obtain⟨f,hf,he⟩:=he
 obtain⟨i,zv,hi,_,rfl,_⟩:=hT.hi
 have fresh:∀ ao,a.eval x=.slice ao 0 0->cond (!f.isEmpty&&cF i.size bytes [] f&&dP f) (some (AV.sref s.H.length 0 f.length i.size,some (s.gk ⟨s.H++[.box bV f.flatten],s.H.length⟩))) none=some (z,s') ->
   ∃ v' aV w',tP P a o w v' w'/\Out G base nt L gh w a s o.dst z (s'.getD s) v' aV w':=by
  intro ao hV he
  obtain⟨h0,he⟩:=ae he
  simp only[an2,an7] at he
  obtain⟨rfl,rfl⟩:=he
  simp only[aod,cF,ao2,an6,Nat.zero_add,ao7,aqx] at h0
  obtain⟨⟨dn,⟨⟨w6,jF⟩,_⟩,hh⟩,tj⟩:=h0
  obtain⟨news,hs,dk⟩:=sf (P:=P) hW hF yD hf hh hu
  have aj2:0<f.length:=aqQ.2 dn
  obtain⟨tU,C',cZ,jG,Mk,su⟩:=grow (P:=P) (ty:=o.type) (ao:=ao) (sLen:=0) (sCap:=0) hT (XD (w:=w) hT.ht ao).cellsD (by simp) hs (by omega) (by omega) (by simpa using w6)
  have mH:fp w (w.drew.alloc (.cells C' e)) (.cells C' e):=.drew w _
  have zy:=gB hW mH
  have st:Step (jd s.H.length) s.H.length gh w (gh.bJ w.heap.size s.H.length) (w.drew.alloc (.cells C' e)):=zy.mono (fun _ h=>h.elim)
  have hρ:(gh.bJ w.heap.size s.H.length).ρ s.H.length=w.heap.size:=by simp[Gh.bJ]
  have aeI:f.flatten.length<=C'.size:=by
   have h1:f.flatten.length=f.length*i.size:=nx f (fun r hm=>by obtain⟨k,hk⟩:=aoM hm;exact dk.2.1 k r hk)
   rw[h1,Mk]
   exact aot _ (by omega)
  have hB:gW (gh.bJ w.heap.size s.H.length) (s.H.length+1) (w.drew.alloc (.cells C' e)) ((gh.bJ w.heap.size s.H.length).ρ s.H.length) (.hb s.H.length) (fun j=>.hs s.H.length j) f.flatten:=by
   rw[hρ]
   refine⟨by simp[Gh.bJ,Gh.alloc],?_,C',e,mH.new,aeI,fun j v x hv hx=>?_⟩
   ·rintro o (ho|⟨_,ho⟩)
    ·have:=hW.nW _ o ho;omega
    ·exact ho
   ·obtain⟨v',sE,hp⟩:=rM dk hx
    have bf:=(aoi.1 sE).1
    rw[su j (by simpa using bf)] at hv
    simp only[ao8] at hv
    rw[sE] at hv
    injection hv with hv
    subst hv
    exact⟨hp.fw,.inl (.plain _ _ (hp.mono st.S st.cell st.mp))⟩
  have hr:f.flatten.all (bo s.H.length)=true:=aof.2 fun x hx=>lX (oJ tj hx) _
  have lW:=hW.arr zy (H':=s.H) rfl (fun loc o h=>.inl ⟨h,id,fun _=>id⟩) (fun b o h=>h.elim id (fun h=>h.2.elim)) (fun b hb=>by
   rw[mH.size]
   have gm:(if b=w.heap.size then bC.hb s.H.length else gh.κ b)≠.none:=hb
   split at gm
   ·have:=hW.size;omega
   ·have:=hW.oL b gm;omega) hB hr
  refine⟨_,gh.bJ w.heap.size s.H.length,w.drew.alloc (.cells C' e),.inl (gq ho iE ft kX (by rw[hV];exact cZ)),?_⟩
  have:=Out.arr (lo:=s.H.length) (k:=0+f.length) (cap:=tU) (z:=i.size) hF hd st (fun b hb=>(kS hW mH).out b hb) rfl lW jG ⟨e,by rw[hρ];exact⟨C',(0,0),mH.new,by rw[Mk,Nat.zero_add]⟩⟩
  rw[hρ,Nat.zero_add] at this
  rw[Nat.zero_add]
  exact this
 split at he
 ·rename_i hx
  have mg:∃ p,CR gh s.H.length w p (a.eval x) (.slice [] true):=by
   cases yx with
   | tmp t0 =>
    obtain⟨rfl,ht⟩:=jz dR
    have O2:s.T t0=.slice [] true:=by
     simp only[aF.addr] at hx
     split at hx<;>first|cases hx|exact hx
    exact⟨_,BU hF ht O2⟩
   | bt v =>
    simp only[aF.addr] at hx
    subst hx
    cases x with
    | tmp k =>
     simp only[ax] at dR
     rcases apk (Nat.blt k nt) with hb|hb<;>rw[hb] at dR<;>simp at dR
    | const u =>
     simp only[ax,an0] at dR
     obtain⟨zz,hz,h⟩:=dR
     injection h with h
     subst h
     exact⟨.none,.inl (jB hz)⟩
    | global g=>simp[ax] at dR
    | func f=>simp[ax] at dR
   | aZ g=>simp[aF.addr] at hx
   | fn f=>simp[aF.addr] at hx
  obtain⟨_,mg⟩:=mg
  obtain⟨ao,hV⟩:=Bn mg
  exact fresh ao hV he
 ·rename_i hx
  exact fresh none (oh hW hF dR hx rfl).lN he
 ·rename_i l of n zz hx
  split at he
  ·rename_i ty cs hH
   obtain⟨h0,he⟩:=ae he
   simp only[an2,an7] at he
   obtain⟨rfl,rfl⟩:=he
   simp only[aod,fW,aov,ao2] at h0
   obtain⟨⟨⟨⟨⟨⟨rfl,rfl⟩,gC⟩,w6⟩,jF⟩,hh⟩,tj⟩:=h0
   obtain⟨news,hs,dk⟩:=sf (P:=P) hW hF yD hf hh hu
   obtain⟨bf,cap,ake,hzB,hV⟩:=VR.jJ (oh hW hF dR hx rfl)
   obtain⟨tyb,Cb,frb,A2,hCb⟩:=hzB (by have:=hT.pos;omega)
   obtain⟨hκ,hS,C,NL,hb,hle,cx⟩:=hW.boxes l ty cs hH
   rw[hb] at A2
   injection A2 with A2
   injection A2 with e1 e2 e3
   subst e1 e2 e3
   rw[Nat.zero_add] at hCb
   have uA:(C.toList.take (n*i.size)).length=n*i.size:=by simp;omega
   have hold:∀ {j:Nat} {x:AV},cs[j]?=some x->∃ v,C[j]?=some v/\v.oneCell'=true/\CR gh s.H.length w (.hs l j) v x:=by
    intro j x hj
    have h1:=(an9.1 hj).1
    have hv:C[j]?=some C[j]:=aop (by omega)
    obtain⟨k1,k2⟩:=cx j _ x hv hj
    exact⟨_,hv,k1,k2⟩
   have fY:∀ v∈C.toList.take (n*i.size),v.oneCell'=true:=by
    intro v hv
    obtain⟨j,hj⟩:=aoM hv
    have h1:j<n*i.size:=by rw[<- uA];exact (an9.1 hj).1
    rw[aoC,if_pos h1] at hj
    obtain⟨v',k1,k2,_⟩:=hold (an' (show j<cs.length by omega))
    rw[aoX,k1] at hj
    injection hj with hj
    subst hj
    exact k2
   have Pw:Src P i.size t (.slice (some ⟨gh.ρ l,0,none⟩) n cap) n (C.toList.take (n*i.size)) w:=.ofSlice w hT.ht ⟨gh.ρ l,0,none⟩ n cap _ uA (fun j u hj=>by
    rw[addr_add,Nat.zero_add,cell_of_row w _ j C NL _ hb]
    rw[aoC] at hj
    split at hj
    ·simpa using hj
    ·cases hj) fY
   have qk:news.length=f.length*i.size:=hs.newsLen
   have yF:f.flatten.length=f.length*i.size:=nx f (fun r hm=>by obtain⟨k,hk⟩:=aoM hm;exact dk.2.1 k r hk)
   have hrefs:(cs++f.flatten).all (bo s.H.length)=true:=by
    rw[List.all_append,aod]
    refine⟨aof.2 fun x hx=>?_,aof.2 fun x hx=>lX (oJ tj hx) _⟩
    exact F7 (aof.1 (hW.refs l ty cs hH) x hx) (by omega)
   have Yv:∀ {touch:bC->Prop},(∀ r,touch r->jd l r)->∀ (loc:Nat) (o:bZ),(s.H.set l .dead)[loc]?=some o->(s.H[loc]?=some o/\¬ touch (.hb loc)/\∀ j,¬ touch (.hs loc j))\/o=.dead:=by
    intro touch ht loc o h
    rw[api] at h
    split at h
    ·injection h with h;exact .inr h.symm
    ·rename_i dn
     refine .inl ⟨h,fun k=>?_,fun j k=>?_⟩
     ·rcases ht _ k with k|⟨_,k⟩
      ·injection k with k;exact dn k.symm
      ·cases k
     ·rcases ht _ k with k|⟨_,k⟩
      ·cases k
      ·injection k with k;exact dn k.symm
   by_cases hgr:cap<n+f.length
   ·
    obtain⟨tU,C',cZ,jG,Mk,su⟩:=grow (P:=P) (ty:=o.type) hT Pw.cellsD uA hs hgr jF w6
    have mH:fp w (w.drew.alloc (.cells C' e)) (.cells C' e):=.drew w _
    have zy:=ig hW mH (p:=.hb l) (by simp) (fun _=>False) s.H.length
    have st:=zy.renamed (n:=s.H.length) (b:=w.heap.size) (l:=l) (aoa _) (fun _ h=>h.elim)
    have hρ:((gh.alloc w.heap.size (.hb l) fun _=>False).rename l s.H.length w.heap.size).ρ s.H.length=w.heap.size:=by simp[Gh.rename]
    have aas:∀ b,(w.drew.alloc (.cells C' e)).heap.size<=b->(gh.alloc w.heap.size (.hb l) fun _=>False).κ b≠.outer:=fun b hb=>by
     have hb0:=mH.size ▸ hb
     show (if b=w.heap.size then bC.hb l else gh.κ b)≠_
     rw[if_neg (by omega)]
     exact hW.bY b (by omega)
    have hB:gW ((gh.alloc w.heap.size (.hb l) fun _=>False).rename l s.H.length w.heap.size) (s.H.length+1) (w.drew.alloc (.cells C' e)) (((gh.alloc w.heap.size (.hb l) fun _=>False).rename l s.H.length w.heap.size).ρ s.H.length) (.hb s.H.length) (fun j=>.hs s.H.length j) (cs++f.flatten):=by
     rw[hρ]
     refine⟨by simp[Gh.rename,Gh.alloc],?_,C',e,mH.new,?_,fun j v x hv hx=>?_⟩
     ·rintro o (ho|⟨_,ho⟩)
      ·have:=hW.nW _ o ho;omega
      ·exact ho
     ·rw[List.length_append,gC,yF,Mk,<- aoT]
      exact aot _ jG
     ·have hj:j<(C.toList.take (n*i.size)++news).toArray.size:=by
       have:=(an9.1 hx).1
       rw[List.length_append,gC,yF] at this
       simp only[apI,List.length_append,uA,qk];exact this
      rw[su j hj] at hv
      simp only[aoE,apg,uA] at hv
      rw[apg,gC] at hx
      split at hv
      ·rename_i h1
       rw[if_pos h1] at hx
       obtain⟨v',k1,k2,k3⟩:=hold hx
       rw[aoC,if_pos h1,aoX,k1] at hv
       injection hv with hv
       subst hv
       exact⟨k2,(k3.mono zy (aoa _) id).rename aas (aoa _) (ao' _)⟩
      ·rename_i h1
       rw[if_neg h1] at hx
       obtain⟨v',k1,k2⟩:=rM dk hx
       simp only[aoE] at k1
       rw[k1] at hv
       injection hv with hv
       subst hv
       exact⟨k2.fw,.inl (.plain _ _ (k2.mono st.S st.cell st.mp))⟩
    have lW:=hW.arr st (H':=s.H.set l .dead) (by simp) (Yv (fun _ h=>h)) (fun b o h=>h.elim id (fun h=>h.2.elim)) (fun b hb=>by
     rw[mH.size]
     have w6:(gh.alloc w.heap.size (.hb l) fun _=>False).κ b≠.none:=fun h=>hb (wO.2 h)
     have gm:(if b=w.heap.size then bC.hb l else gh.κ b)≠.none:=w6
     split at gm
     ·have:=hW.size;omega
     ·have:=hW.oL b gm;omega) hB hrefs
    refine⟨_,(gh.alloc w.heap.size (.hb l) fun _=>False).rename l s.H.length w.heap.size,w.drew.alloc (.cells C' e),.inl (gq ho iE ft kX (by rw[hV];exact cZ)),?_⟩
    have:=Out.arr (lo:=l) (k:=n+f.length) (cap:=tU) (z:=i.size) hF hd st (fun b hb=>by
     have w6:=pY.1 hb
     have gm:(if b=w.heap.size then bC.hb l else gh.κ b)=.outer:=w6
     split at gm
     ·cases gm
     ·exact gm) (by simp) lW jG ⟨e,by rw[hρ];exact⟨C',(0,0),mH.new,by rw[Mk,Nat.zero_add]⟩⟩
    rw[hρ] at this
    exact this
   ·
    have nF:n+f.length<=cap:=by omega
    have jt:n*i.size+news.length<=C.size:=by rw[qk,hCb,<- aoT];exact aot _ nF
    have cZ:=room (P:=P) (ty:=o.type) hT hs hb (ao9 _) nF jt
    have lG:n*i.size+news.toArray.size<=C.size:=by simpa using jt
    have lY:∀ o,gh.S (gh.ρ l) o->(fy C (n*i.size) news.toArray)[o]?=C[o]?:=fun o ho=>(hS o ho).elim
    have zy:=lR hW hb (dD lG) lY s.H.length
    rw[hκ] at zy
    have st:=zy.renamed (n:=s.H.length) (b:=gh.ρ l) (l:=l) (aoa _) (fun r h=>.inl h)
    have hρ:(gh.rename l s.H.length (gh.ρ l)).ρ s.H.length=gh.ρ l:=by simp[Gh.rename]
    have gO:(w.setRow (gh.ρ l) (fy C (n*i.size) news.toArray)).heap.size=w.heap.size:=by simp
    have vG:gh.ρ l<w.heap.size:=(aoi.1 hb).1
    have aas:∀ b,(w.setRow (gh.ρ l) (fy C (n*i.size) news.toArray)).heap.size<=b->gh.κ b≠.outer:=fun b hb=>hW.bY b (by rw[gO] at hb;exact hb)
    have hB:gW (gh.rename l s.H.length (gh.ρ l)) (s.H.length+1) (w.setRow (gh.ρ l) (fy C (n*i.size) news.toArray)) ((gh.rename l s.H.length (gh.ρ l)).ρ s.H.length) (.hb s.H.length) (fun j=>.hs s.H.length j) (cs++f.flatten):=by
     rw[hρ]
     refine⟨by simp[Gh.rename,hκ],hS,_,NL,setRow_heap w _ C _ NL _ hb,?_,fun j v x hv hx=>?_⟩
     ·rw[List.length_append,gC,yF,dD lG,hCb,<- aoT]
      exact aot _ nF
     ·rw[jM lG] at hv
      have sn:=(an9.1 hx).1
      rw[List.length_append,gC,yF] at sn
      rw[apg,gC] at hx
      simp only[apI] at hv
      split at hx
      ·rename_i h1
       rw[if_neg (by omega)] at hv
       obtain⟨v',k1,k2,k3⟩:=hold hx
       rw[k1] at hv
       injection hv with hv
       subst hv
       exact⟨k2,(k3.mono zy (aoa _) (by simp)).rename aas (aoa _) (ao' _)⟩
      ·rename_i h1
       rw[if_pos (by omega)] at hv
       obtain⟨v',k1,k2⟩:=rM dk hx
       rw[k1] at hv
       injection hv with hv
       subst hv
       exact⟨k2.fw,.inl (.plain _ _ (k2.mono st.S st.cell st.mp))⟩
    have lW:=hW.arr st (H':=s.H.set l .dead) (by simp) (Yv (fun _ h=>h)) (fun b o h=>h) (fun b hb=>by
     rw[gO]
     exact hW.oL b (fun h=>hb (wO.2 h))) hB hrefs
    refine⟨_,gh.rename l s.H.length (gh.ρ l),w.setRow (gh.ρ l) (fy C (n*i.size) news.toArray),.inl (gq ho iE ft kX (by rw[hV];exact cZ)),?_⟩
    have:=Out.arr (lo:=l) (k:=n+f.length) (cap:=cap) (z:=i.size) hF hd st (fun b hb=>pY.1 hb) (by simp) lW nF ⟨NL,by rw[hρ];exact⟨_,(0,0),setRow_heap w _ C _ NL _ hb,by rw[dD lG,hCb,Nat.zero_add]⟩⟩
    rw[hρ] at this
    exact this
  ·cases he
 ·cases he
theorem IU(hW:aX G base s.H gh w)(hF:FR L nt gh w a s){o:Oper}{c:Call}{x y:Operand}{t u e:TypeId}{sz bytes:Nat}{yx yy:aF}{z:AV}{s' : Option AS}
  (ho:o.op=.call c) (iE:c.callee=.builtin .append) (ft:c.args.toList=[x,y]) (kX:c.argTypes.toList=[t,u]) (hT:wa P t e sz bytes) (hu:(∃ e',P.underlying u=some (.slice e'))\/P.underlying u=some .string)
  (dR:ax nt x=some yx) (yD:ax nt y=some yy) (he:iD s sz bytes (yx.addr G s.T) (yy.eval G s.T)=some (z,s')) (hd:∀ k,o.dst=some k->k<nt) :
  ∃ v' aV w',tP P a o w v' w'/\Out G base nt L gh w a s o.dst z (s'.getD s) v' aV w':=by
 unfold iD at he
 split at he
 ·rename_i v hn
  simp only[an2,an7] at he
  obtain⟨rfl,rfl⟩:=he
  obtain⟨i,zv,hi,_,rfl,_⟩:=hT.hi
  have Pz:((∃ o,yy.eval G s.T=.slice [] o)\/yy.eval G s.T=.aj)->∃ news,Src P i.size u (a.eval y) 0 news w:=by
   rintro (⟨o,hY⟩|hY)
   ·obtain⟨news,k1,_⟩:=sf (P:=P) (sz:=i.size) (f:=[]) hW hF yD (by rw[hY];rfl) rfl hu
    exact⟨news,k1⟩
   ·rw[(cJ hW hF yD hY rfl).lN]
    refine⟨[],hu,fun _=>rfl,run_firstCells_none w _ 0 0 0,run_firstCells_none w.drew _ 0 0 0,by simp,fun _ h=>by cases h⟩
  have key:(∃ ao,a.eval x=.slice ao 0 0/\VR gh s.H.length w (a.eval x) v)/\((∃ o,yy.eval G s.T=.slice [] o)\/yy.eval G s.T=.aj):=by
   generalize hY:yy.eval G s.T=Y at hn
   generalize hX:yx.addr G s.T=X at hn
   unfold wL at hn
   split at hn
   ·have oK:∃ ao,a.eval x=.slice ao 0 0:=by
     have mg:∃ p,CR gh s.H.length w p (a.eval x) (.slice [] true):=by
      cases yx with
      | tmp t0 =>
       obtain⟨rfl,ht⟩:=jz dR
       have O2:s.T t0=.slice [] true:=by
        simp only[aF.addr] at hX
        split at hX<;>first|cases hX|exact hX
       exact⟨_,BU hF ht O2⟩
      | bt v =>
       simp only[aF.addr] at hX
       subst hX
       cases x with
       | tmp k =>
        simp only[ax] at dR
        rcases apk (Nat.blt k nt) with hb|hb<;>rw[hb] at dR<;>simp at dR
       | const u =>
        simp only[ax,an0] at dR
        obtain⟨zz,hz,h⟩:=dR
        injection h with h
        subst h
        exact⟨.none,.inl (jB hz)⟩
       | global g=>simp[ax] at dR
       | func f=>simp[ax] at dR
      | aZ g=>simp[aF.addr] at hX
      | fn f=>simp[aF.addr] at hX
     obtain⟨_,mg⟩:=mg
     exact Bn mg
    obtain⟨ao,tR⟩:=oK
    have Py:=oh hW hF dR hX rfl
    split at hn
    ·injection hn with hn;subst hn;exact⟨⟨ao,tR,Py⟩,.inl ⟨_,rfl⟩⟩
    ·injection hn with hn;subst hn;exact⟨⟨ao,tR,Py⟩,.inr rfl⟩
    ·cases hn
   ·have Py:=oh hW hF dR hX rfl
    split at hn
    ·injection hn with hn;subst hn;exact⟨⟨none,Py.lN,Py⟩,.inl ⟨_,rfl⟩⟩
    ·injection hn with hn;subst hn;exact⟨⟨none,Py.lN,Py⟩,.inr rfl⟩
    ·cases hn
   ·cases hn
  obtain⟨hxs,hyc⟩:=key
  have Pz:=Pz hyc
  obtain⟨ao,hV,hv⟩:=hxs
  obtain⟨news,hs⟩:=Pz
  have hnn:news=[]:=by have:=hs.newsLen;simp at this;exact this
  subst hnn
  refine⟨a.eval x,gh,w,.inl (gq ho iE ft kX ?_),Out.pure hW hF hd (.dC hv)⟩
  rw[hV]
  exact run_append_nothing w t u o.type e i hT.ht hi ao 0 0 (aoa _) _ hs
 ·exact FF hW hF ho iE ft kX hT hu dR yD he hd
theorem FI(hW:aX G base s.H gh w)(hF:FR L nt gh w a s){o:Oper}{t e:TypeId}{len sz:Nat}{parts:Array (Nat × Operand)}{z:List AV}{E:List (List AV)}{ps:List (Nat × aF)}
  (ho:o.op=.buildSlice t len parts) (hu:P.underlying t=some (.slice e)) (hs:dV P e=some sz) (hz:gy P e=some z) (hp:kJ nt parts.toList=some ps)
  (CF:len*sz<=16777216) (Ti:z.length=sz) (F9:0<sz) (tj:dP E=true)
  (he:cY sz (List.replicate len (z.map AV.drop)) (ps.map fun p=>(p.1,(p.2.eval G s.T).drop))=some E) (hd:∀ k,o.dst=some k->k<nt) :
  ∃ v' aV w',tP P a o w v' w'/\Out G base nt L gh w a s o.dst (.sref s.H.length 0 E.length sz) (s.gk ⟨s.H++[.box bV E.flatten],s.H.length⟩) v' aV w':=by
 obtain⟨C',cZ,dk,wE⟩:=wK (P:=P) hW hF hu hs hz hp CF Ti F9 he
 have mH:=fp.alloc w (.cells C' e)
 have zy:=gB hW mH
 have st:Step (jd s.H.length) s.H.length gh w (gh.bJ w.heap.size s.H.length) (w.alloc (.cells C' e)):=zy.mono (fun _ h=>h.elim)
 have hρ:(gh.bJ w.heap.size s.H.length).ρ s.H.length=w.heap.size:=by simp[Gh.bJ]
 have yF:E.flatten.length=E.length*sz:=nx E (fun r hm=>by obtain⟨k,hk⟩:=aoM hm;exact dk.2.1 k r hk)
 have hB:gW (gh.bJ w.heap.size s.H.length) (s.H.length+1) (w.alloc (.cells C' e)) ((gh.bJ w.heap.size s.H.length).ρ s.H.length) (.hb s.H.length) (fun j=>.hs s.H.length j) E.flatten:=by
  rw[hρ]
  refine⟨by simp[Gh.bJ,Gh.alloc],?_,C',e,mH.new,by rw[yF,dk.1];exact aoa _,fun j v x hv hx=>?_⟩
  ·rintro o (ho|⟨_,ho⟩)
   ·have:=hW.nW _ o ho;omega
   ·exact ho
  ·obtain⟨v',sE,hp⟩:=rM dk hx
   rw[sE] at hv
   injection hv with hv
   subst hv
   exact⟨hp.fw,.inl (.plain _ _ (hp.mono st.S st.cell st.mp))⟩
 have hr:E.flatten.all (bo s.H.length)=true:=aof.2 fun x hx=>lX (oJ tj hx) _
 have lW:=hW.arr zy (H':=s.H) rfl (fun loc o h=>.inl ⟨h,id,fun _=>id⟩) (fun b o h=>h.elim id (fun h=>h.2.elim)) (fun b hb=>by
  rw[mH.size]
  have gm:(if b=w.heap.size then bC.hb s.H.length else gh.κ b)≠.none:=hb
  split at gm
  ·have:=hW.size;omega
  ·have:=hW.oL b gm;omega) hB hr
 refine⟨.slice (some ⟨w.heap.size,0,none⟩) len len,gh.bJ w.heap.size s.H.length,w.alloc (.cells C' e),.inl ?_,?_⟩
 ·have:(parts.map fun x=>(x.1,a.eval x.2))=parts.map fun p=>(p.1,a.eval p.2):=rfl
  simp[execOp,ho,cZ]
 ·have:=Out.arr (lo:=s.H.length) (k:=E.length) (cap:=len) (z:=sz) hF hd st (fun b hb=>(kS hW mH).out b hb) rfl lW (apP wE) ⟨e,by rw[hρ];exact⟨_,(0,0),mH.new,by rw[dk.1,wE,Nat.zero_add]⟩⟩
  rw[hρ,<- wE] at this
  rw[<- wE]
  exact this
theorem OF(hW:aX G base s.H gh w)(hF:FR L nt gh w a s){o:Oper}{t e:TypeId}{i:TypeInfo}{zv:Value}{zero:List AV}{x y:Operand}{yx:aF}{z:AV}{s' : Option AS}
  (ho:o.op=.makeSlice t x y) (KZ:Dq x y=true) (ht:P.underlying t=some (.slice e)) (hi:P.info? e=some i) (hz:i.zero=some zv) (hzc:dS zv.cells.toList=some zero) (hzs:zv.cells.size=i.size) (F9:0<i.size)
  (dR:ax nt x=some yx) (he:rK s i.size i.bytes (zero.map AV.drop) (yx.eval G s.T)=some (z,s')) (hd:∀ k,o.dst=some k->k<nt) :
  ∃ v' aV w',tP P a o w v' w'/\Out G base nt L gh w a s o.dst z (s'.getD s) v' aV w':=by
 simp only[rK,an1] at he
 obtain⟨k,hk,he⟩:=he
 obtain⟨h0,he⟩:=ae he
 simp only[an2,an7] at he
 obtain⟨rfl,rfl⟩:=he
 simp only[aod,ao2] at h0
 obtain⟨w6,jF⟩:=h0
 obtain⟨kd,Mr⟩:=kG hW hF dR hk
 have hyx:a.eval y=a.eval x:=by
  cases x<;>cases y<;>simp only[Dq] at KZ<;>try (cases KZ;done)
  rw[apo KZ]
 have cZ:=run_make (P:=P) w t e i zv ht hi hz kd kd (k:Int) (k:Int) (by omega) (by omega) (by
  have:(i.bytes:Int)*k=((k*i.bytes:Nat):Int):=by rw[aqz];simp
  rw[this];omega) (by omega)
 have mH:fp w (w.alloc (.cells (madeCells zv.cells (k*i.size)) e)) (.cells (madeCells zv.cells (k*i.size)) e):=.alloc w _
 have zy:=gB hW mH
 have st:Step (jd s.H.length) s.H.length gh w (gh.bJ w.heap.size s.H.length) (w.alloc (.cells (madeCells zv.cells (k*i.size)) e)):=zy.mono (fun _ h=>h.elim)
 have hρ:(gh.bJ w.heap.size s.H.length).ρ s.H.length=w.heap.size:=by simp[Gh.bJ]
 obtain⟨Ti,PA⟩:=j8 (gh:=gh) (n:=s.H.length) (w:=w) hzc
 have aft:zero.length=i.size:=by rw[<- hzs];simpa using Ti.symm
 have YL:∀ r∈List.replicate k (zero.map AV.drop),r.length=i.size:=fun r hr=>by rw[aqy hr];simpa using aft
 have yF:(List.replicate k (zero.map AV.drop)).flatten.length=k*i.size:=by rw[nx _ YL];simp
 have tj:∀ x,x∈(List.replicate k (zero.map AV.drop)).flatten->x.plain=true:=by
  intro x hx
  obtain⟨r,hr,hx⟩:=ap'.1 hx
  rw[aqy hr] at hx
  obtain⟨y,hy,rfl⟩:=aoy.1 hx
  exact nh hzc y hy
 have hB:gW (gh.bJ w.heap.size s.H.length) (s.H.length+1) (w.alloc (.cells (madeCells zv.cells (k*i.size)) e)) ((gh.bJ w.heap.size s.H.length).ρ s.H.length) (.hb s.H.length) (fun j=>.hs s.H.length j) (List.replicate k (zero.map AV.drop)).flatten:=by
  rw[hρ]
  refine⟨by simp[Gh.bJ,Gh.alloc],?_,_,e,mH.new,by rw[yF,size_madeCells];exact aoa _,fun j v x hv hx=>?_⟩
  ·rintro o (ho|⟨_,ho⟩)
   ·have:=hW.nW _ o ho;omega
   ·exact ho
  ·obtain⟨m,q,r,h1,h2,rfl⟩:=xn _ j x YL hx
   have hr:r=zero.map AV.drop:=aqy (aoo h1)
   subst hr
   have hq:q<i.size:=by rw[<- aft];simpa using (an9.1 h2).1
   simp only[aor,an0] at h2
   obtain⟨y,hy,rfl⟩:=h2
   have sn:=(aoi.1 hv).1
   rw[size_madeCells] at sn
   simp only[madeCells,Array.getElem?_map,Array.getElem?_range,if_pos sn,aok,an2] at hv
   have aaJ:(m*i.size+q) % zv.cells.size=q:=by rw[hzs,aqz,Nat.mul_add_mod,Nat.mod_eq_of_lt hq]
   rw[aaJ] at hv
   have hqz:q<zv.cells.size:=by omega
   have hc:zv.cells[q]?=some zv.cells[q]:=aop hqz
   have Uo:v=zv.cells[q]:=by rw[<- hv];exact getElem!_pos zv.cells q hqz
   subst Uo
   obtain⟨k1,k2⟩:=PA q _ y (by rw[aoX];exact hc) hy
   exact⟨k2,.inl ((k1.dropped).mono st (ao' _))⟩
 have hr:(List.replicate k (zero.map AV.drop)).flatten.all (bo s.H.length)=true:=aof.2 fun x hx=>lX (tj x hx) _
 have lW:=hW.arr zy (H':=s.H) rfl (fun loc o h=>.inl ⟨h,id,fun _=>id⟩) (fun b o h=>h.elim id (fun h=>h.2.elim)) (fun b hb=>by
  rw[mH.size]
  have gm:(if b=w.heap.size then bC.hb s.H.length else gh.κ b)≠.none:=hb
  split at gm
  ·have:=hW.size;omega
  ·have:=hW.oL b gm;omega) hB hr
 refine⟨.slice (some ⟨w.heap.size,0,none⟩) k k,gh.bJ w.heap.size s.H.length,w.alloc (.cells (madeCells zv.cells (k*i.size)) e),.inl ?_,?_⟩
 ·have e1:(k:Int).toNat=k:=by simp
  rw[e1] at cZ
  simp only[execOp,ho,hyx,Mr]
  simp[cZ]
 ·have:=Out.arr (lo:=s.H.length) (k:=k) (cap:=k) (z:=i.size) hF hd st (fun b hb=>(kS hW mH).out b hb) rfl lW (aoa _) ⟨e,by rw[hρ];exact⟨_,(0,0),mH.new,by rw[size_madeCells,Nat.zero_add]⟩⟩
  rw[hρ] at this
  exact this
end
end
section
section
variable {P:Program}{G:Nat->List AV}{base nt:Nat}{L:List Nat}{gh lF:Gh}{w w' : World}{a:Act}{s:AS}{H:ah}
theorem TP(hW:aX G base s.H gh w)(hF:FR L nt gh w a s){o:Oper}{op:BinOp}{t u:TypeId}{x y:Operand}{ix:aF}{neg b:Bool}
  (ho:o.op=.binOp op t x y u) (hc:ax nt x=some ix) (hn:JW P op t y=some neg) (he:RM (ix.eval G s.T)=some b) :
  ∃ v,(execOp a.eval o).run P w=.ok (.value v) w/\mO gh s.H.length nt w s.T s.gen (fP a) v (.bool (neg != b)):=by
 unfold JW at hn
 split at hn
 ·rename_i e hu
  have hx:∃ ad n c,a.eval x=.slice ad n c/\ad.isNone=b:=by
   generalize hX:ix.eval G s.T=X at he
   unfold RM at he
   split at he
   ·injection he with he
    subst he
    have hv:=cJ hW hF hc hX rfl
    generalize a.eval x=V at hv
    cases hv with
    | plain _ _ h=>cases h;exact⟨_,_,_,rfl,rfl⟩
   ·injection he with he
    subst he
    rename_i r es own
    have hp:=(cJ hW hF hc hX rfl).iF
    generalize a.eval x=V at hp
    cases hp with
    | slice b of n cap sz _ f hn jG bN cx cL=>exact⟨_,_,_,rfl,rfl⟩
   ·cases he
  obtain⟨ad,n,c,hA,hb⟩:=hx
  have hg:(eqGuard op t x (.const (.slice none 0 0)) (.slice ad n c) (.slice none 0 0)).run P w=.ok () w:=fC (by intro c;simp) (.inl (by simp))
  split at hn
  ·injection hn with hn
   subst hn
   have hr:=Lib.run_eql_slice_nil w t e ad n c 0 0 hu
   refine⟨.bool ad.isNone,?_,.dC (.plain _ _ ?_)⟩
   ·simp only[execOp,ho,hA,show a.eval (.const (.slice none 0 0))=.slice none 0 0 from rfl,Sem.run_bind,hg,hr,Result.andThen_ok,Sem.run_pure]
   ·rw[hb];cases b<;>exact .bool _
  ·injection hn with hn
   subst hn
   have hr:=run_neq_slice_nil_any w t e ad n c 0 0 hu
   refine⟨.bool (!ad.isNone),?_,.dC (.plain _ _ ?_)⟩
   ·simp only[execOp,ho,hA,show a.eval (.const (.slice none 0 0))=.slice none 0 0 from rfl,Sem.run_bind,hg,hr,Result.andThen_ok,Sem.run_pure]
   ·rw[hb];cases b<;>exact .bool _
  ·cases hn
 ·cases hn
theorem TI(hW:aX G base s.H gh w)(hF:FR L nt gh w a s){o:Oper}{t:TypeId}{x:Operand}{y:aF}{cs:List AV}(ho:o.op=.box t x)(hc:ax nt x=some y)(gC:(y.eval G s.T).drop.cells=some cs)
  (hd:∀ k,o.dst=some k->k<nt) :
  ∃ v' aV w',tP P a o w v' w'/\Out G base nt L gh w a s o.dst (.ref s.H.length 0) (s.gk ⟨s.H++[.cS (cs.map AV.drop)],s.H.length⟩) v' aV w':=by
 have bN:=(po hW hF hc cs gC).dropped
 have hp:fp w (w.alloc (.cells (a.eval x).cells t)) (.cells (a.eval x).cells t):=.alloc w _
 have st:=gB hW hp
 have hρ:(gh.bJ w.heap.size s.H.length).ρ s.H.length=w.heap.size:=by simp[Gh.bJ]
 have hB:gW (gh.bJ w.heap.size s.H.length) (s.H.length+1) (w.alloc (.cells (a.eval x).cells t)) w.heap.size (.hb s.H.length) (fun j=>.hs s.H.length j) (cs.map AV.drop):=by
  refine⟨by simp[Gh.bJ,Gh.alloc],?_,_,t,hp.new,apP bN.1.symm,fun j v x hv hx=>?_⟩
  ·rintro o (ho|⟨_,ho⟩)
   ·have:=hW.nW _ o ho;omega
   ·exact ho
  ·obtain⟨h1,h2⟩:=bN.2 j v x hv hx
   exact⟨h2,.inl (h1.mono st (ao' _))⟩
 have hv:VR (gh.bJ w.heap.size s.H.length) (s.H++[bZ.cS (cs.map AV.drop)]).length (w.alloc (.cells (a.eval x).cells t)) (.pointer (some ⟨w.heap.size,0,none⟩)) (.ref s.H.length 0):=by
  have:=VR.ref (gh:=gh.bJ w.heap.size s.H.length) (w:=w.alloc (.cells (a.eval x).cells t)) (n:=(s.H++[bZ.cS (cs.map AV.drop)]).length) s.H.length 0 (by simp)
  rw[hρ] at this;exact this
 refine⟨_,_,_,.inl ?_,⟨hW.Hi hp (fun _ _ h=>by cases h) hB,hF.put st (fun i=>⟨id,id,fun _=>id⟩) (by simp) o.dst hd (.dC hv),kS hW hp⟩⟩
 simp[execOp,ho,Instr.box,newVar,newRow]
theorem sJ{o:Oper}{c:Call}{x y:Operand}{t u:TypeId}(ho:o.op=.call c)(iE:c.callee=.builtin .copy)(ft:c.args.toList=[x,y])(kX:c.argTypes.toList=[t,u]){v:Value}
  (cZ:(Builtin.copy_ #[t,u] o.type #[a.eval x,a.eval y]).run P w=.ok v w'):(execOp a.eval o).run P w=.ok (.value v) w':=by
 have e1:c.args=#[x,y]:=by apply aqm;simpa using ft
 have e2:c.argTypes=#[t,u]:=by apply aqm;simpa using kX
 unfold execOp
 simp only[ho,resolve,iE,e1,e2,invoke,builtin,Sem.run_bind,Sem.run_pure,Result.andThen_ok,aqr,aoh,aol,cZ]
theorem Ho{k j j' : Nat}(h:(List.range k)[j]?=some j'):j<k/\j'=j:=by
 rw[an9] at h
 obtain⟨h1,h2⟩:=h
 simp at h1 h2
 exact⟨h1,h2.symm⟩
theorem Oh{n:Nat}{V:Value}{f:List (List AV)}(h:PR gh.S w V (.slice f false))(hh:gG 1 f=true){k:Nat}(hk:k<=f.length) :
  ∃ (ad:Option Addr) (ln cp:Nat) (sw:List Value),V=.slice ad ln cp/\ln=f.length/\sw.length=k/\(0<k->∃ q,ad=some q/\∀ j v,sw[j]?=some v->w.cell? (q.add j)=some v)/\(∀ r∈f.take k,r.length=1) /\
   ∀ (j:Nat) (u:Value) (x:AV),sw[j]?=some u->((f.take k).flatten)[j]?=some x->u.oneCell'=true/\PR gh.S w u x:=by
 cases h with
 | dw =>
  simp only[an6,apH] at hk
  subst hk
  exact⟨none,0,0,[],rfl,rfl,rfl,fun h=>absurd h (by omega),fun r hm=>by simp at hm,fun j u x h=>by simp at h⟩
 | slice b of ln cap sz _ g hn jG bN cx cL =>
  have gO:f≠[]->sz=1:=fun dn=>yE hh bN dn
  have agr:∀ (i:Nat) (r:List AV),f[i]?=some r->r.length=1:=fun i r hi=>by
   rw[bN i r hi,gO (by rintro rfl;simp at hi)]
  have vat:∀ j,j<k->∃ r x,f[j]?=some r/\r[0]?=some x:=fun j hj=>by
   have hr:=an' (show j<f.length by omega)
   exact⟨_,_,hr,an' (by rw[agr _ _ hr];exact Nat.one_pos)⟩
  have dk:∀ r∈f.take k,r.length=1:=fun r hm=>by
   obtain⟨i,hi⟩:=aoM (apx hm);exact agr i r hi
  refine⟨some ⟨b,of,none⟩,ln,cap,(List.range k).map fun j=>g j 0,rfl,hn.symm,by simp,fun _=>⟨_,rfl,fun j v hv=>?_⟩,dk,fun j u x hu hx=>?_⟩
  ·simp only[aor,an0] at hv
   obtain⟨j',w7,rfl⟩:=hv
   obtain⟨bf,rfl⟩:=Ho w7
   obtain⟨r,x,h1,h2⟩:=vat _ bf
   obtain⟨_,k2,_⟩:=cx _ 0 r x h1 h2
   rw[gO (by rintro rfl;simp at h1),apT,aps] at k2
   rw[addr_add];exact k2
  ·simp only[aor,an0] at hu
   obtain⟨j',w7,rfl⟩:=hu
   obtain⟨bf,rfl⟩:=Ho w7
   obtain⟨i,q,r,e1,e2,e3⟩:=xn (f.take k) _ x dk hx
   have hq:q=0:=by
    have:=(an9.1 e2).1
    rw[dk r (aoo e1)] at this;omega
   subst hq
   rw[apT,aps] at e3
   subst e3
   have e1' : f[j']?=some r:=by
    rw[aoC,if_pos bf] at e1
    exact e1
   exact⟨(cx _ 0 r x e1' e2).2.2,cL _ 0 r x e1' e2⟩
theorem OB(hW:aX G base s.H gh w)(hF:FR L nt gh w a s){o:Oper}{c:Call}{x y:Operand}{t u e:TypeId}{yx yy:aF}{z:AV}{s' : Option AS}
  (ho:o.op=.call c) (iE:c.callee=.builtin .copy) (ft:c.args.toList=[x,y]) (kX:c.argTypes.toList=[t,u]) (hu:P.underlying t=some (.slice e)) (hs:dV P e=some 1)
  (dR:ax nt x=some yx) (yD:ax nt y=some yy) (he:rJ s (yx.addr G s.T) (yy.eval G s.T)=some (z,s')) (hd:∀ k,o.dst=some k->k<nt) :
  ∃ v' aV w',tP P a o w v' w'/\Out G base nt L gh w a s o.dst z (s'.getD s) v' aV w':=by
 have gO:(P.info? e).map (·.size)=some 1:=hs
 have hm:=arg_val hW hF dR
 unfold rJ at he
 split at he
 ·
  rename_i l o0 n zz f own hX hY
  rw[hX] at hm
  obtain⟨bf,cap,hk,_,hA⟩:=VR.jJ (hm:VR gh s.H.length w (a.eval x) (.sref l o0 n zz))
  have hp:=(cJ hW hF yD hY rfl).iF
  split at he
  ·rename_i cs hH
   obtain⟨h0,qi⟩:=ae he
   clear he
   simp only[an2,an7] at qi
   obtain⟨rfl,rfl⟩:=qi
   simp only[aod,fW,aov,ao2] at h0
   obtain⟨⟨⟨rfl,hh⟩,tj⟩,jt⟩:=h0
   obtain⟨hκ,hS,C,ty,hb,hC,gC⟩:=(hW.more l _ hH:gW gh s.H.length w (gh.ρ l) (.hb l) (fun j=>.hs l j) cs)
   have mV:Nat.min f.length n<=f.length:=Nat.min_le_left _ _
   have hkn:Nat.min f.length n<=n:=Nat.min_le_right _ _
   obtain⟨ad,ln,cp,sw,hV,hln,hvl,hq,YJ,cL⟩:=Oh (n:=0) hp hh mV
   generalize KQ:Nat.min f.length n=k at *
   have fY:∀ u∈sw,u.oneCell'=true:=by
    intro u hu
    obtain⟨j,hj⟩:=aoM hu
    have sn:j<k:=by rw[<- hvl];exact (an9.1 hj).1
    have yF:(f.take k).flatten.length=k:=by rw[nx _ YJ];simp;omega
    exact (cL j u _ hj (an' (by rw[yF];exact sn))).1
   have Pd:o0+sw.toArray.size<=C.size:=by simp;omega
   have cZ:(Builtin.copy_ #[t,u] o.type #[a.eval x,a.eval y]).run P w=.ok (.int .i64 (k:Int)) (w.setRow (gh.ρ l) (fy C o0 sw.toArray)):=by
    rw[hA,hV]
    by_cases vJ:k=0
    ·have hv0:sw=[]:=aoG.1 (by omega)
     have KV:fy C o0 (#[]:Array Value)=C:=by simp[fy]
     rw[hv0,KV,setRow_self w _ C ty (0,0) hb]
     have:=run_copy_none (P:=P) w t u o.type e (some ⟨gh.ρ l,o0,none⟩) ad n cap ln cp hu gO (by rw[hln,KQ];exact vJ)
     rw[this,vJ];rfl
    ·obtain⟨q,rfl,aiN⟩:=hq (by omega)
     have:=run_copy_row (P:=P) w t u o.type e (gh.ρ l) o0 n cap q ln cp C ty sw hu gO hb (by rw[hvl,hln,KQ]) aiN (by simpa using Pd) fY
     rw[this]
     simp[fy,hvl,goInt]
   have lY:∀ o,gh.S (gh.ρ l) o->(fy C o0 sw.toArray)[o]?=C[o]?:=fun o ho=>(hS o ho).elim
   have A':=dD Pd
   have st:=lR hW hb A' lY s.H.length
   have hE:=zm hW hb A' lY (by rw[hκ];simp) (by rw[hκ];simp) s.H.length
   rw[hκ] at st
   have dk:(f.take k).flatten.length=k:=by
    rw[nx _ YJ];simp;omega
   have hB:gW gh s.H.length (w.setRow (gh.ρ l) (fy C o0 sw.toArray)) (gh.ρ l) (.hb l) (fun j=>.hs l j) (putAt cs o0 (f.take k).flatten):=by
    refine⟨hκ,hS,_,ty,setRow_heap w _ C _ ty _ hb,by rw[A',pv (by rw[dk];omega)];exact hC,fun j u x A4 w8=>?_⟩
    rw[jM Pd] at A4
    rw[rX (by rw[dk];omega)] at w8
    simp only[apI,hvl] at A4
    rw[dk] at w8
    split at A4
    ·rename_i hc
     rw[if_pos hc] at w8
     obtain⟨k1,k2⟩:=cL _ u x (by simpa using A4) w8
     exact⟨k1,.inl (.plain _ _ (k2.mono st.S st.cell st.mp))⟩
    ·rename_i hc
     rw[if_neg hc] at w8
     obtain⟨k1,k2⟩:=gC j u x A4 w8
     exact⟨k1,k2.mono st (aoa _) (by simp)⟩
   have CC:aX G base (s.H.set l (.cS (putAt cs o0 (f.take k).flatten))) gh (w.setRow (gh.ρ l) (fy C o0 sw.toArray)) :=
    hW.xD st bf (by intro k hk;simp[hk]) (fun b o ho=>by simpa using hW.nW b o ho) (fun b hb=>by simpa using hW.oL b hb) (fun _ _ h=>by cases h) hB (fun _ _ _ h=>.inl h)
   refine⟨.int .i64 k,gh,_,.inl (sJ ho iE ft kX cZ),CC,?_,hE⟩
   exact hF.put (H':=s.H.set l (.cS (putAt cs o0 (f.take k).flatten))) (lo':=cond (Nat.blt l s.lo) l s.lo) st (fun i=>⟨by simp,by simp,by simp⟩) (by simp) o.dst hd (.dC (.plain _ _ (.int _ _)))
  ·cases he
 ·
  rename_i own f amY hX hY
  simp only[an2,an7] at he
  obtain⟨rfl,rfl⟩:=he
  rw[hX] at hm
  have h1:∃ ad cp,a.eval x=.slice ad 0 cp:=by
   have hp:=VR.iF (hm:VR gh s.H.length w (a.eval x) (.slice [] false))
   generalize a.eval x=V at hp
   cases hp with
   | dw=>exact⟨_,_,rfl⟩
   | slice b of n cap sz _ f hn _ _ _ _=>simp at hn;subst hn;exact⟨_,_,rfl⟩
  have h2:∃ ad n cp,a.eval y=.slice ad n cp:=by
   have hp:=(cJ hW hF yD hY rfl).iF
   generalize a.eval y=V at hp
   cases hp with
   | dw=>exact⟨_,_,_,rfl⟩
   | slice b of n cap sz _ f hn _ _ _ _=>exact⟨_,_,_,rfl⟩
  obtain⟨ad,cp,h1⟩:=h1
  obtain⟨ad',n',cp',h2⟩:=h2
  have cZ:=run_copy_none (P:=P) w t u o.type e ad ad' 0 cp n' cp' hu gO (Nat.min_zero _)
  rw[<- h1,<- h2] at cZ
  refine⟨.int .i64 0,gh,w,.inl (sJ ho iE ft kX cZ),?_⟩
  exact Out.pure hW hF hd (.dC (.plain _ _ (.int _ _)))
 ·cases he
end
end
section
theorem uc(ct:List Nat)(d:Option Nat)(g:aF)(ys:List aF):ua ct d g ys=.call g ys:=by
 unfold ua
 cases iX ct d<;>rfl
section
variable {P:Program}{G:Nat->List AV}{base nt:Nat}{L:List Nat}{gh:Gh}{w w' : World}{a:Act}{s:AS}{H:ah}
theorem wH{locals:List Nat}{d:Option Nat}(h:isLocal locals d=true):∃ k,d=some k/\k∈locals:=by
 cases d with
 | none=>cases h
 | some k=>exact⟨k,rfl,by simpa [isLocal] using h⟩
theorem tu{l:List Nat}{d:Option Nat}(h:iX l d=true):∃ k,d=some k/\k∈l:=by
 cases d with
 | none=>cases h
 | some k=>exact⟨k,rfl,by simpa [iX] using h⟩
theorem ML{k:lU}{V:Value}{e:List (List AV)}{z:AV}{t:TypeId}{ao:Option Addr}{cap:Nat}(hV:V=.slice ao e.length cap)(ht:match k with|.str=>P.underlying t=some .string|.sl=>∃ e,P.underlying t=some (.slice e)|.arr m=>∃ e,P.underlying t=some (.array m e))
  (he:iG k (.slice e false)=some z) (ty:TypeId) {n:Nat} : ∃ v,(Builtin.len_ #[t] ty #[V]).run P w=.ok v w/\VR gh n w v z:=by
 subst hV
 cases k<;>simp only[iG,an2,reduceCtorEq] at he<;>subst he
 ·obtain⟨e',ht⟩:=ht
  exact⟨.int .i64 e.length,by simp[Builtin.len_,run_underlying ht,goInt],.plain _ _ (.int _ _)⟩
 ·obtain⟨e',ht⟩:=ht
  exact⟨.int .i64 _,by simp[Builtin.len_,run_underlying ht,goInt],.plain _ _ (.int _ _)⟩
theorem Yo(hW:aX G base s.H gh w)(hF:FR L nt gh w a s){o:Oper}{c:Call}{x y:Operand}{ix iy:aF}{mx:Bool}{z:AV}(ho:o.op=.call c)(iE:c.callee=.builtin (cond mx .max .min))(ft:c.args.toList=[x,y])
  (hx:ax nt x=some ix) (hy:ax nt y=some iy) (he:RH mx (ix.eval G s.T) (iy.eval G s.T)=some z):∃ v,(execOp a.eval o).run P w=.ok (.value v) w/\mO gh s.H.length nt w s.T s.gen (fP a) v z:=by
 generalize hX:ix.eval G s.T=X at he
 generalize hY:iy.eval G s.T=Y at he
 unfold RH at he
 split at he
 ·obtain⟨h0,he⟩:=ae he
  injection he with he
  subst he
  have h1:=(cJ hW hF hx hX rfl).jl
  have h2:=(cJ hW hF hy hY rfl).jl
  have e1:c.args=#[x,y]:=by apply aqm;simpa using ft
  cases mx
  ·refine⟨_,?_,.dC (.plain _ _ (.int _ _))⟩
   unfold execOp
   simp only[ho,resolve,iE,e1,invoke,builtin,Sem.run_bind,Sem.run_pure,Result.andThen_ok,aqr,aoh,aol,an8,h1,h2,Builtin.min_,Builtin.min2,List.foldlM_cons,List.foldlM_nil]
  ·refine⟨_,?_,.dC (.plain _ _ (.int _ _))⟩
   unfold execOp
   simp only[ho,resolve,iE,e1,invoke,builtin,Sem.run_bind,Sem.run_pure,Result.andThen_ok,aqr,aoh,aol,cond_true,h1,h2,Builtin.max_,Builtin.max2,List.foldlM_cons,List.foldlM_nil]
 ·cases he
theorem V3{m:Nat}{V:Value}{t e:TypeId}(ht:P.underlying t=some (.array m e))(ty:TypeId){n:Nat} : ∃ v,(Builtin.len_ #[t] ty #[V]).run P w=.ok v w/\VR gh n w v (.int .i64 m) :=
 ⟨.int .i64 _,by simp[Builtin.len_,run_underlying ht,goInt],.plain _ _ (.int _ _)⟩
theorem IW(hW:aX G base s.H gh w)(hF:FR L nt gh w a s){o:Oper}{c:Call}{x:Operand}{t:TypeId}{y:aF}{k:lU}{z:AV}{s' : Option AS}{cf:dq}
  (ho:o.op=.call c) (iE:c.callee=.builtin .len) (ft:c.args.toList=[x]) (kX:c.argTypes.toList=[t]) (hc:ax nt x=some y)
  (ht:match k with|.str=>P.underlying t=some .string|.sl=>∃ e,P.underlying t=some (.slice e)|.arr m=>∃ e,P.underlying t=some (.array m e))
  (he:aE G cf s (.len k y)=some (z,s')):s'=none/\∃ v,(execOp a.eval o).run P w=.ok (.value v) w/\mO gh s.H.length nt w s.T s.gen (fP a) v z:=by
 simp only[aE] at he
 have fin:∀ {zz:AV},(∃ v,(Builtin.len_ #[t] o.type #[a.eval x]).run P w=.ok v w/\VR gh s.H.length w v zz)->∃ v,(execOp a.eval o).run P w=.ok (.value v) w/\mO gh s.H.length nt w s.T s.gen (fP a) v zz :=
  fun ⟨v,h1,h2⟩=>⟨v,Dn ho iE ft kX h1,.dC h2⟩
 split at he
 ·rename_i tt g hy
  split at he
  ·rename_i g' e hT
   obtain⟨h0,he⟩:=ae he
   have DG:g=g':=by simpa [fW] using h0
   simp only[an0,an7] at he
   obtain⟨z',hz,rfl,rfl⟩:=he
   refine⟨rfl,fin ?_⟩
   have hv:=arg_val hW hF hc
   rw[hy] at hv
   obtain⟨hb,_,hr⟩:=(hv:_/\_/\_)
   have qg:=hr (by rw[hT,<- DG];rfl)
   obtain⟨ad,cap,hV,_⟩:=nX hF hb hT
   exact ML (qg.trans hV) ht hz o.type
  ·cases he
 ·simp only[an0,an7] at he
  obtain⟨z',hz,rfl,rfl⟩:=he
  refine⟨rfl,fin ?_⟩
  cases k with
  | arr m =>
   obtain⟨e,ht⟩:=ht
   simp only[iG,an2] at hz
   subst hz
   exact V3 ht o.type
  | _ =>
   have ND:aG (y.addr G s.T)=true:=by
    generalize y.addr G s.T=Y at hz
    cases Y<;>first|rfl|(simp[iG] at hz)
   exact TL (oh hW hF hc rfl ND) ht hz o.type
theorem yn{cf:dq}(jH:fc P G cf)(hW:aX G base s.H gh w)(hF:FR L nt gh w a s){ct locals muts:List Nat}{o:Oper}{io:fQ}(bL:dc P ct locals muts nt o.dst o.op=some io)
  (wY:∀ x,x∈locals->x∈L) (xq:∀ x,x∈muts->x∈L) {z:AV} {s' : Option AS} (he:aE G cf s io=some (z,s')) (hd:∀ k,o.dst=some k->k<nt) (K:Act->World->Prop) (Q:Exit->Act->World->Prop)
  (hK:∀ v' aV w',Out G base nt L gh w a s o.dst z (s'.getD s) v' aV w'->K (a.put o.dst v') w'):o.wp P a w K Q:=by
 have fin:s'=none->(∃ v,(execOp a.eval o).run P w=.ok (.value v) w/\mO gh s.H.length nt w s.T s.gen (fP a) v z)->o.wp P a w K Q:=by
  rintro rfl ⟨v,h1,h2⟩
  exact tP.wp (.inl h1) (hK v gh w (Out.pure hW hF hd h2))
 have qn:(∃ v' aV w',tP P a o w v' w'/\Out G base nt L gh w a s o.dst z (s'.getD s) v' aV w')->o.wp P a w K Q:=by
  rintro ⟨v',aV,w',h1,h2⟩
  exact tP.wp h1 (hK v' aV w' h2)
 have aeZ:∀ x y,(o.op=.move x\/o.op=.assign x)->ax nt x=some y->io=.mov (iX ct o.dst) (iX muts o.dst) (cond (iX muts o.dst) (C3 y) y)->o.wp P a w K Q:=by
  intro x y ho hc uz
  subst uz
  simp only[aE] at he
  by_cases Mt:∃ v,y=.bt v/\iX muts o.dst=true
  ·obtain⟨v,rfl,hm⟩:=Mt
   rw[hm] at he
   simp only[cond_true,C3,mz,an2,an7,aF.eval] at he
   obtain⟨rfl,rfl⟩:=he
   refine fin rfl ⟨a.eval x,?_,.dC ?_⟩
   ·rcases ho with ho|ho<;>simp[execOp,ho]
   ·cases x with
    | tmp k =>
     simp only[ax] at hc
     rcases apk (Nat.blt k nt) with hb|hb<;>rw[hb] at hc<;>simp at hc
    | const u =>
     simp only[ax,an0] at hc
     obtain⟨zz,hz,h⟩:=hc
     injection h with h
     subst h
     exact Ca hz
    | global g=>simp[ax] at hc
    | func f=>simp[ax] at hc
  have Ba:cond (iX muts o.dst) (C3 y) y=y:=by
   cases hm:iX muts o.dst with
   | false=>rfl
   | true=>cases y<;>first|rfl|exact absurd ⟨_,rfl,hm⟩ Mt
  rw[Ba] at he
  cases s' with
  | none =>
   refine fin rfl ⟨a.eval x,?_,ZX hW hF hc he⟩
   rcases ho with ho|ho<;>simp[execOp,ho]
  | some s' =>
   refine qn (Cu hW hF ho hc he hd (fun h k hk=>?_))
   obtain⟨k',h1,h2⟩:=tu h
   rw[h1] at hk;injection hk with hk;subst hk
   exact xq _ h2
 cases dB:o.op with
 | move x =>
  rw[dB] at bL
  simp only[dc,an0] at bL
  obtain⟨y,hc,rfl⟩:=bL
  exact aeZ x y (.inl dB) hc rfl
 | assign x =>
  rw[dB] at bL
  simp only[dc,an0] at bL
  obtain⟨y,hc,rfl⟩:=bL
  exact aeZ x y (.inr dB) hc rfl
 | pick c x y =>
  rw[dB] at bL
  simp only[dc,an1,an0] at bL
  obtain⟨ic,hc,ix,hx,iy,hy,rfl⟩:=bL
  simp only[aE] at he
  split at he
  ·rename_i t ht
   simp only[an2,an7] at he
   obtain⟨rfl,rfl⟩:=he
   exact fin rfl (TQ hW hF dB hc hx hy ht)
  ·cases he
 | alloc t =>
  rw[dB] at bL
  simp only[dc,an1] at bL
  obtain⟨zz,hz,bL⟩:=bL
  cases hl:isLocal locals o.dst with
  | true =>
   rw[hl] at bL
   simp only[cond_true,an2] at bL
   subst bL
   simp only[aE,an2,an7] at he
   obtain⟨rfl,rfl⟩:=he
   obtain⟨k,hk,mV⟩:=wH hl
   exact qn (L0 hW hF dB hz (fun k' qN=>⟨hd k' qN,by rw[hk] at qN;injection qN with e;subst e;exact wY _ mV⟩))
  | false =>
   rw[hl] at bL
   simp only[an8,an2] at bL
   subst bL
   simp only[aE,an2,an7] at he
   obtain⟨rfl,rfl⟩:=he
   exact qn (LZ hW hF dB hz hd)
 | box t x =>
  rw[dB] at bL
  simp only[dc,an0] at bL
  obtain⟨y,hc,rfl⟩:=bL
  cases hl:isLocal locals o.dst with
  | true =>
   rw[hl] at he
   simp only[cond_true,aE,an0,an7] at he
   obtain⟨cs,gC,rfl,rfl⟩:=he
   obtain⟨k,hk,mV⟩:=wH hl
   exact qn (TH hW hF dB hc gC (fun k' qN=>⟨hd k' qN,by rw[hk] at qN;injection qN with e;subst e;exact wY _ mV⟩))
  | false =>
  rw[hl,an8] at he
  rcases apk (OR 500000 muts o.dst) with hm|hm
  ·rw[hm] at he
   simp only[cond_true,aE,an1] at he
   obtain⟨cs,gC,he⟩:=he
   obtain⟨h0,he⟩:=ae he
   simp only[an2,an7] at he
   obtain⟨rfl,rfl⟩:=he
   exact qn (TI hW hF dB hc gC hd)
  ·rw[hm] at he
   simp only[an8,aE,an1] at he
   obtain⟨cs,gC,he⟩:=he
   obtain⟨h0,he⟩:=ae he
   simp only[an2,an7] at he
   obtain⟨rfl,rfl⟩:=he
   exact qn (ZV hW hF dB hc gC h0 hd)
 | build t parts =>
  rw[dB] at bL
  simp only[dc,an1] at bL
  obtain⟨zz,hz,bL⟩:=bL
  split at bL
  ·rename_i fs hu
   obtain⟨h0,bL⟩:=ae bL
   simp only[an0] at bL
   obtain⟨ps,hp,rfl⟩:=bL
   simp only[aE,an0,an7] at he
   obtain⟨Z,hZ,rfl,rfl⟩:=he
   exact fin rfl (wW hW hF dB hz hu hp (Option.isSome_iff_exists.1 h0) hZ)
  ·rename_i n e hu
   simp only[an1,an0] at bL
   obtain⟨sz,hs,ps,hp,rfl⟩:=bL
   simp only[aE,an0,an7] at he
   obtain⟨Z,hZ,rfl,rfl⟩:=he
   exact fin rfl (yo hW hF dB hz hu hs hp hZ)
  ·cases bL
 | buildSlice t len parts =>
  rw[dB] at bL
  simp only[dc] at bL
  split at bL
  ·rename_i e hu
   simp only[an1] at bL
   obtain⟨sz,hs,zz,hz,ps,hp,bL⟩:=bL
   obtain⟨h0,bL⟩:=ae bL
   injection bL with bL
   subst bL
   simp only[aod,ao2,fW,aov,aoO] at h0
   cases hl:isLocal locals o.dst with
   | true =>
    rw[hl] at he
    simp only[cond_true,aE,an1] at he
    obtain⟨E,hE,he⟩:=he
    obtain⟨lL,he⟩:=ae he
    simp only[an2,an7] at he
    obtain⟨rfl,rfl⟩:=he
    exact qn (FI hW hF dB hu hs hz hp h0.1.1 h0.1.2 h0.2 lL hE hd)
   | false =>
   rw[hl] at he
   simp only[an8,aE,an1] at he
   obtain⟨E,hE,he⟩:=he
   obtain⟨lL,he⟩:=ae he
   simp only[an2,an7] at he
   obtain⟨rfl,rfl⟩:=he
   exact qn (IX hW hF dB hu hs hz hp lL (fun h=>apo h) h0.1.1 h0.1.2 h0.2 hE hd)
  ·cases bL
 | load t x =>
  rw[dB] at bL
  simp only[dc,an1,an0] at bL
  obtain⟨y,hc,g,hg,sz,hs,rfl⟩:=bL
  simp only[aE] at he
  cases s' with
  | none =>
   obtain⟨v,h1,h2⟩:=TM (P:=P) hW hF hc hg hs he
   exact fin rfl ⟨v,by simp[execOp,dB,h1],h2⟩
  | some s'=>exact qn (Ct hW hF dB hc hg hs he hd)
 | store t x y =>
  rw[dB] at bL
  simp only[dc,an1,an0] at bL
  obtain⟨ya,KO,yv,xr,sz,hs,rfl⟩:=bL
  simp only[aE,an0,an7] at he
  obtain⟨s1,he,rfl,rfl⟩:=he
  exact qn (OH hW hF dB KO xr hs he hd)
 | nilCheck x =>
  rw[dB] at bL
  simp only[dc,an0] at bL
  obtain⟨y,hc,rfl⟩:=bL
  simp only[aE] at he
  obtain⟨h0,he⟩:=ae he
  simp only[an2,an7] at he
  obtain⟨rfl,rfl⟩:=he
  exact fin rfl (FJ hW hF dB hc h0)
 | binOp op t x y u =>
  rw[dB] at bL
  simp only[dc,an1] at bL
  obtain⟨ix,hx,iy,hy,bL⟩:=bL
  split at bL
  ·rename_i neg hn
   injection bL with bL
   subst bL
   simp only[aE,an0,an7] at he
   obtain⟨b,hb,rfl,rfl⟩:=he
   exact fin rfl (TP hW hF dB hx hn hb)
  ·injection bL with bL
   subst bL
   simp only[aE,an0,an7] at he
   obtain⟨z',hz,rfl,rfl⟩:=he
   exact fin rfl (ZU hW hF dB hx hy hz)
 | unOp op t x =>
  rw[dB] at bL
  simp only[dc,an0] at bL
  obtain⟨y,hc,rfl⟩:=bL
  simp only[aE,an0,an7] at he
  obtain⟨z',hz,rfl,rfl⟩:=he
  exact fin rfl (ad8 hW hF dB hc hz)
 | convert st dt x =>
  rw[dB] at bL
  simp only[dc,an1] at bL
  obtain⟨y,hc,bL⟩:=bL
  split at bL
  ·rename_i k' k h1 h2
   injection bL with bL
   subst bL
   simp only[aE,an0,an7] at he
   obtain⟨z',hz,rfl,rfl⟩:=he
   exact fin rfl (OI hW hF dB hc h1 h2 hz)
  ·rename_i h1 h2
   injection bL with bL
   subst bL
   simp only[aE,an0,an7] at he
   obtain⟨z',hz,rfl,rfl⟩:=he
   exact fin rfl (IY hW hF dB hc h1 h2 hz)
  ·rename_i e h1 h2
   split at bL
   ·rename_i hE
    injection bL with bL
    subst bL
    simp only[aE,an0,an7] at he
    obtain⟨z',hz,rfl,rfl⟩:=he
    exact fin rfl (FG hW hF dB hc h1 hE h2 hz)
   ·cases bL
  ·cases bL
 | makeInterface t x =>
  rw[dB] at bL
  simp[dc] at bL
 | makeFunc f first captured =>
  rw[dB] at bL
  simp only[dc,an1,an0] at bL
  obtain⟨fs,h1,cs,h2,rfl⟩:=bL
  simp only[aE] at he
  obtain⟨h0,he⟩:=ae he
  simp only[an2,an7] at he
  obtain⟨rfl,rfl⟩:=he
  simp only[aod] at h0
  exact fin rfl (L3 hW hF dB h1 h2 h0.1 h0.2)
 | slice t x lo hi mx =>
  rw[dB] at bL
  simp only[dc,an1] at bL
  obtain⟨ix,hc,Mz,h1,HY,h2,Be,h3,bL⟩:=bL
  split at bL
  ·rename_i hu
   injection bL with bL
   subst bL
   simp only[aE,an0,an7] at he
   obtain⟨z',hz,rfl,rfl⟩:=he
   exact fin rfl (Cw hW hF dB hc h1 h2 h3 hu hz)
  ·rename_i e hu
   simp only[an0] at bL
   obtain⟨sz,hs,rfl⟩:=bL
   simp only[aE,an0,an7] at he
   obtain⟨z',hz,rfl,rfl⟩:=he
   exact fin rfl (FK hW hF dB hc h1 h2 h3 hu hs hz)
  ·rename_i n e hu
   simp only[an1] at bL
   obtain⟨sz,hs,bL⟩:=bL
   obtain⟨h0,bL⟩:=ae bL
   injection bL with bL
   subst bL
   simp only[aE,an0,an7] at he
   obtain⟨z',hz,rfl,rfl⟩:=he
   exact fin rfl (Cv hW hF dB hc h1 h2 h3 hu hs (by simpa [aoO] using h0) hz)
  ·cases bL
 | fieldAddr t x f =>
  rw[dB] at bL
  simp only[dc,an1] at bL
  obtain⟨ix,hc,bL⟩:=bL
  split at bL
  ·rename_i fs hu
   simp only[an1] at bL
   obtain⟨q,hq,sz,hs,bL⟩:=bL
   obtain⟨h0,bL⟩:=ae bL
   injection bL with bL
   subst bL
   simp only[aE] at he
   obtain⟨hl,he⟩:=ae he
   simp only[an0,an7] at he
   obtain⟨z',hz,rfl,rfl⟩:=he
   exact fin rfl (Cs hW hF dB hc hu hq hs (by simpa [aoO] using h0) hl hz)
  ·cases bL
 | field t x f =>
  rw[dB] at bL
  simp[dc] at bL
 | indexAddr t x i =>
  rw[dB] at bL
  simp only[dc,an1] at bL
  obtain⟨ix,hc,ii,hi,bL⟩:=bL
  split at bL
  ·rename_i e hu
   simp only[an0] at bL
   obtain⟨sz,hs,rfl⟩:=bL
   simp only[aE] at he
   split at he
   ·rename_i el own hy
    simp only[an1] at he
    obtain⟨k,hk,r,hr,he⟩:=he
    obtain⟨h0,he⟩:=ae he
    simp only[an2,an7] at he
    obtain⟨rfl,rfl⟩:=he
    exact fin rfl (TK hW hF dB hc hi hu hs hk hy hr (by simpa [fW] using h0))
   ·rename_i l of m hy
    simp only[an1] at he
    obtain⟨k,hk,he⟩:=he
    obtain⟨h0,he⟩:=ae he
    simp only[an2,an7] at he
    obtain⟨rfl,rfl⟩:=he
    exact fin rfl (L2 hW hF dB hc hi hu hs hk hy (by simpa [aoO] using h0))
   ·rename_i b g hy
    split at he
    ·rename_i g' el hT
     obtain⟨h0,he⟩:=ae he
     have DG:g=g':=by simpa [fW] using h0
     simp only[an1] at he
     obtain⟨k,hk,r,hr,he⟩:=he
     obtain⟨h0,he⟩:=ae he
     simp only[an2,an7] at he
     obtain⟨rfl,rfl⟩:=he
     exact fin rfl (OE hW hF dB hc hi hu hs hk hy (by rw[hT,DG]) hr (by simpa [fW] using h0))
    ·cases he
   ·cases he
  ·rename_i n e hu
   simp only[an0] at bL
   obtain⟨sz,hs,rfl⟩:=bL
   simp only[aE,an1] at he
   obtain⟨k,hk,he⟩:=he
   obtain⟨h0,he⟩:=ae he
   simp only[aod,aoO] at h0
   simp only[an0,an7] at he
   obtain⟨z',hz,rfl,rfl⟩:=he
   exact fin rfl (OD hW hF dB hc hi hu hs hk h0.1 h0.2 hz)
  ·cases bL
 | index t x i =>
  rw[dB] at bL
  simp only[dc,an1] at bL
  obtain⟨ix,hc,ii,hi,bL⟩:=bL
  split at bL
  ·rename_i hu
   injection bL with bL
   subst bL
   simp only[aE] at he
   split at he
   ·rename_i l hz
    simp only[an1,an0,an7] at he
    obtain⟨k,hk,b,hb,rfl,rfl⟩:=he
    exact fin rfl (FH hW hF dB hc hi hu hk hz hb)
   ·cases he
  ·rename_i n e hu
   simp only[an1,an0] at bL
   obtain⟨sz,hs,g,hg,rfl⟩:=bL
   simp only[aE,an1] at he
   obtain⟨k,hk,he⟩:=he
   obtain⟨h0,he⟩:=ae he
   split at he
   ·rename_i cs hz
    simp only[an0,an7] at he
    obtain⟨z',hl,rfl,rfl⟩:=he
    exact fin rfl (OC hW hF dB hc hi hu hs hg hk (by simpa [aoO] using h0) hz hl)
   ·cases he
  ·cases bL
 | extract x i =>
  rw[dB] at bL
  simp only[dc,an0] at bL
  obtain⟨y,hc,rfl⟩:=bL
  simp only[aE] at he
  split at he
  ·rename_i vs hz
   simp only[an0,an7] at he
   obtain⟨z',YP,rfl,rfl⟩:=he
   exact fin rfl (IV hW hF dB hc hz YP)
  ·cases he
 | call c =>
  rw[dB] at bL
  simp only[dc,tZ] at bL
  split at bL
  ·rename_i fx iE
   simp only[an1,an0] at bL
   obtain⟨yf,dR,ys,yD,Yx⟩:=bL
   rw[uc] at Yx
   subst Yx
   simp only[aE] at he
   split at he
   ·rename_i f fs cs aat
    obtain⟨h0,he⟩:=ae he
    simp only[an0,an7] at he
    obtain⟨⟨r,ch⟩,hr,rfl,rfl⟩:=he
    exact TJ jH hW hF dB iE dR yD aat h0 hr hd K Q hK
   ·cases he
  ·rename_i iE
   split at bL
   ·rename_i x t ft kX
    simp only[an1] at bL
    obtain⟨y,hc,bL⟩:=bL
    split at bL
    ·rename_i hu
     injection bL with bL
     subst bL
     obtain⟨h1,h2⟩:=IW (P:=P) hW hF dB iE ft kX hc (k:=.str) hu he
     exact fin h1 h2
    ·rename_i e hu
     injection bL with bL
     subst bL
     obtain⟨h1,h2⟩:=IW (P:=P) hW hF dB iE ft kX hc (k:=.sl) ⟨_,hu⟩ he
     exact fin h1 h2
    ·rename_i n e hu
     injection bL with bL
     subst bL
     obtain⟨h1,h2⟩:=IW (P:=P) hW hF dB iE ft kX hc (k:=.arr n) ⟨_,hu⟩ he
     exact fin h1 h2
    ·rename_i hu
     cases bL
    ·cases bL
   ·cases bL
  ·rename_i iE
   split at bL
   ·rename_i x y t u ft kX
    simp only[an1] at bL
    obtain⟨yx,dR,yy,yD,bL⟩:=bL
    have go:∀ e,P.underlying t=some (.slice e)->((∃ e',P.underlying u=some (.slice e'))\/P.underlying u=some .string) ->
      ((P.info? e).bind fun i=>cond (Nat.blt 0 i.size&&(i.zero.map fun z=>Nat.beq z.cells.size i.size).getD false) (some (cond (isLocal locals o.dst) (fQ.appendO i.size i.bytes yx yy) (fQ.append (Nat.beq e ij) (iX muts o.dst) i.size i.bytes yx yy))) none)=some io->o.wp P a w K Q:=by
     intro e ht hu bL
     simp only[an1] at bL
     obtain⟨i,hi,bL⟩:=bL
     obtain⟨h0,bL⟩:=ae bL
     injection bL with bL
     subst bL
     simp only[aod,aoO] at h0
     obtain⟨h0,h1⟩:=h0
     have hT:wa P t e i.size i.bytes:=by
      cases hz:i.zero with
      | none=>rw[hz] at h1;cases h1
      | some zv=>rw[hz] at h1;exact⟨ht,⟨i,zv,hi,hz,rfl,rfl,by simpa [fW] using h1⟩,h0⟩
     cases YH:isLocal locals o.dst with
     | true =>
      rw[YH] at he
      simp only[cond_true,aE] at he
      exact qn (IU hW hF dB iE ft kX hT hu dR yD he hd)
     | false =>
     rw[YH] at he
     simp only[an8,aE] at he
     refine qn (L1 hW hF dB iE ft kX hT (fun h=>apo h) hu dR yD he hd (fun h k hk=>?_))
     obtain⟨k',h1,h2⟩:=tu h
     rw[h1] at hk;injection hk with hk;subst hk
     exact xq _ h2
    split at bL
    ·rename_i e e' ht hu
     exact go e ht (.inl ⟨_,hu⟩) bL
    ·rename_i e ht hu
     exact go e ht (.inr hu) bL
    ·cases bL
   ·cases bL
  ·rename_i iE
   split at bL
   ·rename_i x y t u ft kX
    simp only[an1] at bL
    obtain⟨ix,hx,iy,hy,bL⟩:=bL
    split at bL
    ·rename_i e e' ht hu
     simp only[an1] at bL
     obtain⟨sz,hs,bL⟩:=bL
     obtain⟨h0,bL⟩:=ae bL
     injection bL with bL
     subst bL
     simp only[fW,aov] at h0
     subst h0
     simp only[aE] at he
     exact qn (OB hW hF dB iE ft kX ht hs hx hy he hd)
    ·cases bL
   ·cases bL
  ·rename_i iE
   split at bL
   ·rename_i x y ft
    simp only[an1,an0] at bL
    obtain⟨ix,hx,iy,hy,rfl⟩:=bL
    simp only[aE,an0,an7] at he
    obtain⟨z',hz,rfl,rfl⟩:=he
    exact fin rfl (Yo (mx:=true) hW hF dB iE ft hx hy hz)
   ·cases bL
  ·rename_i iE
   split at bL
   ·rename_i x y ft
    simp only[an1,an0] at bL
    obtain⟨ix,hx,iy,hy,rfl⟩:=bL
    simp only[aE,an0,an7] at he
    obtain⟨z',hz,rfl,rfl⟩:=he
    exact fin rfl (Yo (mx:=false) hW hF dB iE ft hx hy hz)
   ·cases bL
  ·cases bL
 | makeSlice t x y =>
  rw[dB] at bL
  simp only[dc,an1] at bL
  obtain⟨yx,dR,bL⟩:=bL
  obtain⟨KZ,bL⟩:=ae bL
  split at bL
  ·rename_i e ht
   simp only[an1] at bL
   obtain⟨i,hi,zv,hz,zero,hzc,bL⟩:=bL
   obtain⟨h0,bL⟩:=ae bL
   injection bL with bL
   subst bL
   simp only[aod,aoO,fW,aov] at h0
   simp only[aE] at he
   exact qn (OF hW hF dB KZ ht hi hz hzc h0.2 h0.1 dR he hd)
  ·cases bL
 | makeMap t r =>
  rw[dB] at bL
  cases r with
  | some r=>simp[dc] at bL
  | none =>
   simp only[dc,an0] at bL
   obtain⟨m,hm,rfl⟩:=bL
   simp only[aE,an2,an7] at he
   obtain⟨rfl,rfl⟩:=he
   exact qn (OG hW hF dB hd _ _ _)
 | lookup t x i ok =>
  rw[dB] at bL
  simp only[dc,an1,an0] at bL
  obtain⟨ya,KO,yb,hcb,m,hm,rfl⟩:=bL
  obtain⟨kt,et,z,hT⟩:=uM hm
  simp only[aE] at he
  obtain⟨h1,h2⟩:=TN hW hF hT dB KO hcb he
  exact fin h1 h2
 | mapUpdate t x i v =>
  rw[dB] at bL
  simp only[dc,an1,an0] at bL
  obtain⟨ya,KO,yb,hcb,yc,hcc,m,hm,rfl⟩:=bL
  obtain⟨kt,et,z,hT⟩:=uM hm
  simp only[aE,an0,an7] at he
  obtain⟨s1,he,rfl,rfl⟩:=he
  exact qn (KC hW hF hT (.inl dB) KO hcb hcc he hd)
 | insert t x i v =>
  rw[dB] at bL
  simp only[dc,an1,an0] at bL
  obtain⟨ya,KO,yb,hcb,yc,hcc,m,hm,rfl⟩:=bL
  obtain⟨kt,et,z,hT⟩:=uM hm
  simp only[aE,an0,an7] at he
  obtain⟨s1,he,rfl,rfl⟩:=he
  exact qn (KC hW hF hT (.inr dB) KO hcb hcc he hd)
 | range t x =>
  rw[dB] at bL
  simp only[dc] at bL
  obtain⟨h0,bL⟩:=ae bL
  simp only[an1,an0] at bL
  obtain⟨ya,KO,m,hm,rfl⟩:=bL
  obtain⟨kt,et,z,hT⟩:=uM hm
  obtain⟨k',h1,h2⟩:=tu h0
  exact qn (ZY hW hF dB KO hT.ht he (fun k hk=>⟨hd k hk,by rw[h1] at hk;injection hk with hk;subst hk;exact xq _ h2⟩))
 | next x b =>
  rw[dB] at bL
  cases b with
  | true=>simp[dc] at bL
  | false =>
   simp only[dc,an0] at bL
   obtain⟨ya,KO,rfl⟩:=bL
   simp[aE] at he
 | entry x =>
  rw[dB] at bL
  simp only[dc,an0] at bL
  obtain⟨ya,KO,rfl⟩:=bL
  obtain⟨h1,h2⟩:=ZW hW hF dB KO he
  exact fin h1 h2
 | _=>rw[dB] at bL;simp[dc] at bL
end
end
end Go.Abs
