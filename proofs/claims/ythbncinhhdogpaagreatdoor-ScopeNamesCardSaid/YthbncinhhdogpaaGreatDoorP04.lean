/-
  A part of the proof of ScopeNames: AbsMap3, AbsMap4, AbsMap5, AbsMap6, AbsArr, AbsCopy.
-/
import Derived.Maps.RangeRun
import Derived.Laws.MakeOwn
import Derived.Laws.IdiomCopy
import Derived.WalkSpells
import Derived.Test.YthbncinhhdogpaaGreatDoorP03
set_option linter.unusedSimpArgs false
set_option linter.unusedVariables false
set_option linter.defProp false
namespace Go.Abs
section
section
variable {P:Program}{G:Nat->List AV}{base nt:Nat}{L:List Nat}{gh:Gh}{w w' : World}{a:Act}{s:AS}{H:ah}
theorem find_spec{a:List UInt8} : ∀ (es:List (List AV)),(∀ r,r∈es->∃ b,mu r=some b)->∃ o,fw [.s] [.str a] es=some o /\
  ((o=none/\∀ r,r∈es->mu r≠some a)\/∃ i r,o=some i/\es[i]?=some r/\mu r=some a)
 | [],_=>⟨none,rfl,.inl ⟨rfl,fun r h=>by cases h⟩⟩
 | r :: es,h=>by
  obtain⟨b,hb⟩:=h r (ao9 ..)
  obtain⟨q,rfl⟩:∃ q,r=.str b :: q:=by
   unfold mu at hb
   split at hb
   ·injection hb with hb;subst hb;exact⟨_,rfl⟩
   ·cases hb
  obtain⟨o,ho,hs⟩:=find_spec (a:=a) es (fun r hr=>h r (apd _ hr))
  by_cases hab:a=b
  ·subst hab
   exact⟨some 0,by simp[fw,bI],.inr ⟨0,_,rfl,rfl,rfl⟩⟩
  ·have bB:(a==b)=false:=by simpa using hab
   refine⟨o.map (· + 1),by simp[fw,bI,bB,ho],?_⟩
   rcases hs with ⟨rfl,hs⟩|⟨i,r,rfl,h1,h2⟩
   ·refine .inl ⟨rfl,fun r hr=>?_⟩
    rcases ao8.1 hr with rfl|hr
    ·simp only[mu];intro h;injection h with h;exact hab h.symm
    ·exact hs r hr
   ·exact .inr ⟨i+1,r,rfl,by simpa using h1,h2⟩
theorem apart_spec:∀ {es:List (List AV)},sR es=true->(∀ r,r∈es->∃ b,mu r=some b)/\∀ r r',r∈es->r'∈es->mu r=mu r'->r=r'
 | [],_=>⟨fun r h=>(by cases h),fun r r' h=>(by cases h)⟩
 | q :: es,h=>by
  simp only[sR,Bool.and_eq_true] at h
  obtain⟨h1,h2⟩:=h
  obtain⟨i1,i2⟩:=apart_spec h2
  cases hq:mu q with
  | none=>rw[hq] at h1;cases h1
  | some a =>
   rw[hq] at h1
   simp only[aoV] at h1
   have bB:∀ r,r∈es->mu r≠some a:=by
    intro r hr hra
    have:=h1 r hr
    rw[hra] at this
    simp at this
   refine⟨fun r hr=>?_,fun r r' hr zg he=>?_⟩
   ·rcases ao8.1 hr with rfl|hr
    ·exact⟨a,hq⟩
    ·exact i1 r hr
   ·rcases ao8.1 hr with e1|k1<;>rcases ao8.1 zg with e2|k2
    ·rw[e1,e2]
    ·rw[e1] at he;exact absurd (he.symm.trans hq) (bB r' k2)
    ·rw[e2] at he;exact absurd (he.trans hq) (bB r k1)
    ·exact i2 r r' k1 k2 he
theorem L3{a:List UInt8}{es tX:List (List AV)}(hp:tX.Perm es)(ha:sR es=true){o:Option Nat}(hf:fw [.s] [.str a] es=some o)(ok va:Bool)(zero:List AV)(kz:Nat) :
  ∃ o',fw [.s] [.str a] tX=some o'/\oS ok va zero kz tX o'=oS ok va zero kz es o:=by
 obtain⟨h1,h2⟩:=apart_spec ha
 obtain⟨o1,e1,s1⟩:=find_spec (a:=a) es h1
 rw[hf] at e1
 injection e1 with e1
 subst e1
 obtain⟨o',e2,s2⟩:=find_spec (a:=a) tX (fun r hr=>h1 r (hp.mem_iff.1 hr))
 refine⟨o',e2,?_⟩
 rcases s1 with ⟨rfl,s1⟩|⟨i,r,rfl,k1,k2⟩
 ·rcases s2 with ⟨rfl,_⟩|⟨i',r',rfl,k1',k2'⟩
  ·rfl
  ·exact absurd k2' (s1 r' (hp.mem_iff.1 (ao0 k1')))
 ·rcases s2 with ⟨rfl,s2⟩|⟨i',r',rfl,k1',k2'⟩
  ·exact absurd k2 (s2 r (hp.mem_iff.2 (ao0 k1)))
  ·have:r'=r:=h2 r' r (hp.mem_iff.1 (ao0 k1')) (ao0 k1) (k2'.trans k2.symm)
   subst this
   simp only[oS,List.getD,k1,k1']
theorem Uc(hW:aK G base s.H gh w)(hF:FR L nt gh w a s){o:Oper}{t kt et:TypeId}{ks:List CK}{ka va:Bool}{vz:Nat}{zv:Value}{zero:List AV}(hT:Du P t kt et ks ka va vz zv zero){x i:Operand}{y yi:an}{ok:Bool}{z:AV}{s' : Option AS}
  (ho:o.op=.lookup t x i ok) (hc:ak nt x=some y) (hi:ak nt i=some yi) (he:sX s ok ks.length ka va ks zero (y.addr G s.T) (yi.eval G s.T)=some (z,s')) :
  s'=none/\∃ v,(execOp a.eval o).run P w=.ok (.value v) w/\lZ gh s.H.length nt w s.T s.gen (fj a) v z:=by
 simp only[sX,aoP] at he
 obtain⟨kc,pk,he⟩:=he
 obtain⟨h0,he⟩:=ab he
 simp only[Bool.and_eq_true,dR,apc,ap1] at h0
 obtain⟨hl,qU⟩:=h0
 have Co:al (yi.eval G s.T)=true:=by rw[<- gy];exact gz pk
 have hk:=bY hW hF hi rfl Co
 have fin:∀ {M:Value} {zz:AV},a.eval x=M->(∃ v,(Instr.lookup t M (a.eval i) ok).run P w=.ok v w/\VR gh s.H.length w v zz)->∃ v,(execOp a.eval o).run P w=.ok (.value v) w/\lZ gh s.H.length nt w s.T s.gen (fj a) v zz:=by
  rintro M zz rfl ⟨v,h1,h2⟩
  exact⟨v,by simp[execOp,ho,h1],.cF h2⟩
 have hm:=arg_val hW hF hc
 split at he
 ·rename_i hM
  simp only[aoQ,aoS] at he
  obtain⟨rfl,rfl⟩:=he
  rw[hM] at hm
  refine⟨rfl,fin (M:=.map none) ?_ (Dc hT hk pk hl qU ok)⟩
  generalize a.eval x=V at hm
  cases (hm:VR gh s.H.length w V .cI) with
  | plain _ _ h=>cases h;rfl
 ·rename_i lR lQ mC es hM
  obtain⟨h1,s9⟩:=ab he
  clear he
  simp only[aoO,aoS] at s9
  obtain⟨r,hf,rfl,rfl⟩:=s9
  simp only[Bool.and_eq_true,dR,apc,ap1] at h1
  obtain⟨⟨⟨⟨rfl,rfl⟩,rfl⟩,jS⟩,hsk⟩:=h1
  obtain⟨str,rfl,rfl⟩:∃ str,ks=[.s]/\kc=[.str str]:=by
   unfold Ws at hsk
   split at hsk
   ·exact⟨_,rfl,rfl⟩
   ·cases hsk
  refine⟨rfl,?_⟩
  rw[hM] at hm
  have hp:PR gh.S w (a.eval x) (.mF [CK.s].length ka va es):=by
   generalize a.eval x=V at hm
   cases (hm:VR gh s.H.length w V (.mF [CK.s].length ka va es)) with
   | plain _ _ h=>exact h
  generalize hV:a.eval x=V at hp
  cases hp with
  | mF b _ _ _ _ tX E ck f hS hb hI YU cr =>
   have hE:=hI.size
   have bE:=hI.row
   obtain⟨o',hf',nL⟩:=L3 YU jS hf ok va zero [CK.s].length
   rw[<- nL]
   have hR:Rows gh s.H.length w E [CK.s].length ka va tX:=by
    refine⟨hE,fun i e r h1 h2=>⟨f i,(bE i e r h1 h2).2.2.2.1,fun j x hj _=>cr i j r x h2 hj⟩,fun i e r h1 h2=>?_⟩
    obtain⟨k1,_,k2,_,k3⟩:=bE i e r h1 h2
    refine⟨k1,k2,_,k3,fun j x hj=>?_⟩
    rw[apq] at hj
    have:=cr i _ r x h2 hj
    exact⟨VR.dropped (.plain _ _ this),this.dX⟩
   exact fin hV (GZ hT hk pk hl qU hb hR hf' ok)
 ·simp only[aoP,aoO,aoS] at he
  obtain⟨es,cN,r,hf,rfl,rfl⟩:=he
  refine⟨rfl,?_⟩
  have key:∃ b E ck,a.eval x=.map (some b)/\w.heap[b]?=some (.map E ck)/\Rows gh s.H.length w E ks.length ka va es:=by
   generalize hY:y.addr G s.T=Y at hm cN
   have hp:∀ lR lQ mC tX,Y=.dM lR lQ mC tX->PR gh.S w (a.eval x) (.dM lR lQ mC tX):=by
    rintro _ _ _ _ rfl
    generalize a.eval x=V at hm
    cases (hm:VR gh s.H.length w V (.dM _ _ _ _)) with
    | plain _ _ h=>exact h
   unfold uy at cN
   split at cN
   ·obtain⟨h1,cN⟩:=ab cN
    injection cN with cN
    subst cN
    simp only[Bool.and_eq_true,dR,apc,ap1] at h1
    obtain⟨⟨rfl,rfl⟩,rfl⟩:=h1
    exact qd (b:=0) (hp _ _ _ _ rfl)
   ·obtain⟨aU,l5⟩:=VR.ny (hm:VR gh s.H.length w (a.eval x) (.mref _))
    split at cN
    ·rename_i hH
     obtain⟨h1,cN⟩:=ab cN
     injection cN with cN
     subst cN
     simp only[Bool.and_eq_true,dR,apc,ap1] at h1
     obtain⟨⟨rfl,rfl⟩,rfl⟩:=h1
     obtain⟨E,ck,hb,hR⟩:=qc (hW.more _ _ hH).1
     exact⟨_,E,ck,l5,hb,hR⟩
    ·rename_i hH
     obtain⟨h1,cN⟩:=ab cN
     injection cN with cN
     subst cN
     simp only[Bool.and_eq_true,dR,apc,ap1] at h1
     obtain⟨⟨rfl,rfl⟩,rfl⟩:=h1
     obtain⟨b,E,ck,hv,hb,hR⟩:=qd (b:=0) (n:=s.H.length) (hW.more _ _ hH:PR gh.S w _ _)
     exact⟨b,E,ck,l5.trans hv,hb,hR⟩
    ·cases cN
   ·cases cN
  obtain⟨b,E,ck,l5,hb,hR⟩:=key
  exact fin l5 (GZ hT hk pk hl qU hb hR hf ok)
theorem find_eq:∀ {ks:List CK} {kc:List AV} {es:List (List AV)} {i:Nat} {r:List AV},fw ks kc es=some (some i)->es[i]?=some r->bI ks kc r=some true
 | ks,kc,[],i,r,h,_=>by simp[fw] at h
 | ks,kc,q :: es,i,r,h,hr=>by
  simp only[fw,aoP] at h
  obtain⟨b,hb,h⟩:=h
  cases b with
  | true=>simp at h;subst h;simp at hr;subst hr;exact hb
  | false =>
   simp only[aoZ,aoO] at h
   obtain⟨o,ho,h⟩:=h
   cases o with
   | none=>simp at h
   | some j=>simp at h;subst h;exact find_eq ho (by simpa using hr)
theorem zY{n m:Nat}{c:CK}{u v:Value}{x y:AV}(hu:VR gh n w u x)(hv:PR gh.S w v y)(h:bI [c] [x] [y]=some true):Instr.sameBits m v u=true:=by
 cases c<;>cases x<;>try (cases h;done)
 all_goals (cases y<;>try (cases h;done))
 ·obtain rfl:=hu.jm
  cases hv
  simp[bI] at h
  cases m<;>simp[Instr.sameBits,h]
 ·obtain rfl:=hu.jE
  cases hv
  simp only[bI] at h
  obtain⟨h0,h⟩:=ab h
  simp at h h0
  cases m<;>simp[Instr.sameBits,h,h0]
 ·obtain⟨p,rfl,rfl⟩:=hu.jF
  cases hv with
  | str q _ hq =>
   simp[bI] at h
   have:q=p:=by
    cases p;cases q
    congr 1
    exact aqU (by rw[hq];simp at h ⊢;rw[h])
   subst this
   have hb:(q==q)=true:=show (q.data==q.data)=true by simp
   cases m<;>simp[Instr.sameBits,hb]
theorem Av:∀ {ks:List CK} {X Y:List AV},bI ks X Y=some true->∀ (j:Nat) (c:CK),ks[j]?=some c->∃ x y,X[j]?=some x/\Y[j]?=some y/\bI [c] [x] [y]=some true
 | [],X,Y,h,j,c,hj=>by simp at hj
 | c0 :: ks,X,Y,h,j,c,hj=>by
  have one:∀ (x y:AV) (X' Y' : List AV) (e:Bool),X=x :: X'->Y=y :: Y'->bI [c0] [x] [y]=some e->(bI ks X' Y').map (e&&·)=some true->∃ x y,X[j]?=some x/\Y[j]?=some y/\bI [c] [x] [y]=some true:=by
   rintro x y X' Y' e rfl rfl h1 h2
   simp only[aoO,Bool.and_eq_true] at h2
   obtain⟨b,hb,rfl,rfl⟩:=h2
   cases j with
   | zero=>simp at hj;subst hj;exact⟨x,y,rfl,rfl,h1⟩
   | succ j =>
    obtain⟨x',y',k1,k2,k3⟩:=Av hb j c (by simpa using hj)
    exact⟨x',y',by simpa using k1,by simpa using k2,k3⟩
  cases c0<;>cases X<;>try (cases h;done)
  all_goals (rename_i x X';cases x<;>try (cases h;done))
  all_goals (cases Y<;>try (cases h;done))
  all_goals (rename_i y Y';cases y<;>try (cases h;done))
  ·exact one _ _ _ _ _ rfl rfl (by simp[bI]) h
  ·simp only[bI] at h
   obtain⟨h0,h⟩:=ab h
   exact one _ _ _ _ _ rfl rfl (by simp only[bI,h0,cond_true];simp) h
  ·exact one _ _ _ _ _ rfl rfl (by simp[bI]) h
theorem Oe{kt:TypeId}{ks:List CK}{ka:Bool}(hK:Bn P kt ks ka){n:Nat}{kv:Value}{k:AV}{kc:List AV}(hk:VR gh n w kv k)(pk:k.cells=some kc)(hl:kc.length=ks.length)(qU:ka=k.isAgg)
  {v:Value} {r:List AV} (hv:JS gh.S w ks.length ka v r) (he:bI ks kc r=some true):Instr.sameBits 10000 v kv=true:=by
 obtain⟨f,rfl,hf⟩:=hv
 have Ps:=Av he
 cases ka with
 | false =>
  have h1:=hK.kz rfl
  obtain⟨c,rfl⟩:=ap8.1 h1
  have aaw:kc=[k]:=by
   cases k<;>first|(cases qU;done)|(injection pk with pk;exact pk.symm)|(cases pk;done)
  subst aaw
  obtain⟨x,y,k1,k2,k3⟩:=Ps 0 c rfl
  simp at k1
  subst k1
  exact zY hk (hf 0 y k2 (by simp)) k3
 | true =>
  obtain⟨C,rfl⟩:=uY hk qU
  have hC:Row gh n w C kc:=by
   rcases sk hk pk with ⟨C',e,_,hr⟩|⟨_,h1⟩
   ·injection e with e;subst e;exact hr
   ·simp[Value.oneCell'] at h1
  show Instr.sameBits (9999+1) (.agg ((List.range ks.length).map f).toArray) (.agg C)=true
  simp only[Instr.sameBits,Bool.and_eq_true,ap1,aoV]
  refine⟨by simp[hC.1,hl],fun p hp=>?_⟩
  obtain⟨j,hj⟩:=apw hp
  rw[aqs] at hj
  obtain⟨h1,h2⟩:=hj
  simp only[ao1,aoO] at h1
  obtain⟨i,hi,Hk⟩:=h1
  obtain⟨aU,je⟩:=aoR.1 hi
  simp at aU je
  subst je
  have hc:ks[j]?=some ks[j]:=aoT aU
  obtain⟨x,y,k1,k2,k3⟩:=Ps j _ hc
  have hu:=hC.2 j p.2 x (by simpa using h2) k1
  obtain⟨p1,p2⟩:=p
  simp only at Hk hu ⊢
  rw[<- Hk]
  exact zY hu (hf j y k2 aU) k3
theorem Bl{n:Nat}{v:Value}{x:AV}{cs:List AV}(h:VR gh n w v x)(hc:x.cells=some cs):v=qp x.isAgg cs.length (fun j=>v.cells.getD j undef)/\∀ (j:Nat) (y:AV),cs[j]?=some y->VR gh n w (v.cells.getD j undef) y/\(v.cells.getD j undef).oneCell'=true:=by
 have hr:=rL h hc
 refine⟨?_,fun j y hj=>?_⟩
 ·rcases sk h hc with ⟨C,rfl,rfl,bE⟩|⟨rfl,fL⟩
  ·simp only[qp,AV.isAgg,cond_true,Value.cells]
   congr 1
   refine Array.ext (by simp[bE.1]) (fun i h1 h2=>by simp[h1])
  ·have Dm:x.isAgg=false:=by
    cases x<;>first|rfl|skip
    obtain⟨C,rfl,_⟩:=h.jD
    simp[Value.oneCell'] at fL
   have hv:v.cells=#[v]:=by cases v<;>first|rfl|(simp[Value.oneCell'] at fL)
   simp[qp,Dm,hv]
 ·have aU:j<v.cells.size:=by rw[hr.1];exact (aoR.1 hj).1
  have hv:v.cells[j]?=some v.cells[j]:=ao2 aU
  obtain⟨h1,h2⟩:=hr.2 j _ y hv hj
  simp only[aqT,hv,Option.getD_some]
  exact⟨h1,h2⟩
end
end
section
section
variable {P:Program}{G:Nat->List AV}{base nt:Nat}{L:List Nat}{gh:Gh}{w w' : World}{a:Act}{s:AS}{H:ah}
theorem mU{agg:Bool}{n:Nat}{f g:Nat->Value}(h:∀ j,j<n->f j=g j)(hn:agg=false->0<n):qp agg n f=qp agg n g:=by
 cases agg with
 | true =>
  simp only[qp,cond_true]
  congr 2
  exact aph fun j hj=>h j (by simpa using hj)
 | false=>exact h 0 (hn rfl)
def mK(E:Array MapEntry)(ck:Nat)(o:Option Nat)(kv vv:Value):Array MapEntry × Nat :=
 match o with
 | none=>(E.push { key:=kv,val:=vv,born:=ck },ck+1)
 | some i=>(E.modify i fun e=>{ e with key:=kv,val:=vv },ck)
theorem SS{n:Nat}{t kt et:TypeId}{ks:List CK}{ka va:Bool}{vz:Nat}{zv:Value}{zero:List AV}(hT:Du P t kt et ks ka va vz zv zero){kv vv:Value}{k:AV}{kc:List AV}(hk:VR gh n w kv k)(pk:k.cells=some kc)(hl:kc.length=ks.length)(qU:ka=k.isAgg)
  {b:Nat} {E:Array MapEntry} {ck:Nat} {es:List (List AV)} (hb:w.heap[b]?=some (.map E ck)) (hR:Rows gh n w E ks.length ka va es) {o:Option Nat} (hf:fw ks kc es=some o) :
  (Instr.mapUpdate t (.map (some b)) kv vv).run P w=.ok () (tn w b (mK E ck o kv vv).1 (mK E ck o kv vv).2):=by
 have pN:=sd hT.key hk pk hl qU false
 have Hk:=uI hT.key hk pk hl qU (l:=E.toList) (by simpa using hR.size) (fun i e r h1 h2=>hR.key i e r (by simpa using h1) h2) hf
 cases o with
 | none =>
  have hs:=yW (P:=P) (w:=w) (E':=E.push { key:=kv,val:=vv,born:=ck }) (ck':=ck+1) hb
  simp[Instr.mapUpdate,run_underlying hT.ht,getObj,Sem.run,hb]
  simp[pN,Hk,mK]
  exact hs
 | some i =>
  have hi:=ua hf
  have hiE:i<E.size:=by rw[hR.size];exact hi
  have hE:E[i]?=some E[i]:=ao2 hiE
  have he:es[i]?=some es[i]:=aoT hi
  have afb:=Oe hT.key hk pk hl qU (hR.key i _ _ hE he) (find_eq hf he)
  have hs:=yW (P:=P) (w:=w) (E':=E.modify i fun e=>{ e with key:=kv,val:=vv }) (ck':=ck) hb
  simp[Instr.mapUpdate,run_underlying hT.ht,getObj,Sem.run,hb]
  simp only[Option.map_some] at Hk
  simp[pN,Hk,mK,hiE,Instr.keyThatStays,afb]
  exact hs
theorem adp{n l b kz:Nat}{ka va:Bool}{es:List (List AV)}{E:Array MapEntry}{ck:Nat}{f:Nat->Nat->Value}(hW:aK G base H gh w)(hκ:gh.κ b=.hb l)(hS:∀ o,¬ gh.S b o)(hb:w.heap[b]?=some (.map E ck))(hE:zU E ck kz ka va es f)
  (h1:∀ (i j:Nat) (r:List AV) (x:AV),es[i]?=some r->r[j]?=some x->j<kz->PR gh.S w (f i j) x)
  (h2:∀ (i j:Nat) (r:List AV) (x:AV),es[i]?=some r->r[j]?=some x->kz<=j->(f i j).oneCell'=true/\(va=true->VR gh n w (f i j) x)/\CR gh n w (.hs l i) (f i j) x)
  {kc vc:List AV} {fk fv:Nat->Value} (hkz:kc.length=kz) (YN:ka=false->kz=1) (US:va=false->vc.length=1) (hkk:∀ (j:Nat) (x:AV),kc[j]?=some x->PR gh.S w (fk j) x)
  {o:Option Nat} (ho:∀ i,o=some i->i<es.length) (hvv:∀ (j:Nat) (x:AV),vc[j]?=some x->(fv j).oneCell'=true/\(va=true->VR gh n w (fv j) x)/\CR gh n w (.hs l (o.getD es.length)) (fv j) x) :
  vH gh n (tn w b (mK E ck o (qp ka kz fk) (qp va vc.length fv)).1 (mK E ck o (qp ka kz fk) (qp va vc.length fv)).2) b (.hb l) (fun i=>.hs l i) kz ka va (tz es o (kc++vc)):=by
 have st:=Gg (E':=(mK E ck o (qp ka kz fk) (qp va vc.length fv)).1) (ck':=(mK E ck o (qp ka kz fk) (qp va vc.length fv)).2) hW hb hS n
 rw[hκ] at st
 let idx:=o.getD es.length
 let f' : Nat->Nat->Value:=fun i j=>if i=idx then (if j<kz then fk j else fv (j-kz)) else f i j
 have bE:∀ i r,(tz es o (kc++vc))[i]?=some r->(i=idx/\r=kc++vc)\/(i≠idx/\es[i]?=some r):=by
  intro i r hr
  cases o with
  | none =>
   simp only[tz] at hr
   by_cases aU:i<es.length
   ·rw[ao7 aU] at hr
    exact .inr ⟨by show i≠es.length;omega,hr⟩
   ·rw[ao5 (by omega)] at hr
    have hz:i=es.length:=by
     have:=(aoR.1 hr).1
     simp at this;omega
    subst hz
    simp at hr
    exact .inl ⟨rfl,hr.symm⟩
  | some i0 =>
   simp only[tz] at hr
   rw[apr] at hr
   split at hr
   ·rename_i e
    subst e
    split at hr
    ·injection hr with hr
     exact .inl ⟨rfl,hr.symm⟩
    ·cases hr
   ·rename_i e
    exact .inr ⟨ap3 e,hr⟩
 have Kq:kz<=(kc++vc).length/\(ka=false->kz=1)/\(va=false->(kc++vc).length=kz+1)/\qp ka kz fk=qp ka kz (f' idx)/\qp va vc.length fv=qp va ((kc++vc).length-kz) (fun j=>f' idx (kz+j)):=by
  rw[ao6,hkz]
  refine⟨by omega,YN,fun h=>by rw[US h],mU (fun j hj=>?_) (fun h=>by rw[YN h];omega),?_⟩
  ·simp only[f',if_pos rfl,if_pos hj]
  ·rw[Nat.add_sub_cancel_left]
   refine mU (fun j hj=>?_) (fun h=>by rw[US h];omega)
   have e:¬ kz+j<kz:=by omega
   simp only[f',if_pos rfl,if_neg e,Nat.add_sub_cancel_left]
 refine⟨hκ,hS,_,_,f',G1 hb,?_,fun i j r x hi hj hl=>?_,fun i j r x hi hj hl=>?_⟩
 ·cases o with
  | none =>
   refine⟨by simp[mK,tz,hE.size],by simp[mK,hE.clk],fun i e he=>?_,fun i e he=>?_,fun i j e e' he uS Mf=>?_,fun i e r he hr=>?_⟩
   ·simp only[mK] at he
    rw[aqv] at he
    split at he
    ·rename_i NJ;injection he with he;subst he;rw[NJ];exact hE.clk
    ·exact hE.at' i e he
   ·simp only[mK] at he ⊢
    rw[aqv] at he
    split at he
    ·injection he with he;subst he;simp
    ·have:=hE.born i e he;omega
   ·simp only[mK] at he uS
    rw[aqv] at he uS
    split at he<;>split at uS
    ·omega
    ·injection he with he;subst he
     have:=hE.born j e' uS
     simp only at Mf;omega
    ·injection uS with uS;subst uS
     have:=hE.born i e he
     simp only at Mf;omega
    ·exact hE.apart i j e e' he uS Mf
   ·simp only[mK] at he
    rw[aqv] at he
    rcases bE i r hr with ⟨hi,rfl⟩|⟨hi,hr⟩
    ·have jT:i=es.length:=hi
     rw[if_pos (by rw[hE.size];exact jT)] at he
     injection he with he
     subst he
     subst hi
     exact Kq
    ·have jT:i≠es.length:=hi
     rw[if_neg (by rw[hE.size];exact jT)] at he
     obtain⟨k1,k2,k3,k4,k5⟩:=hE.row i e r he hr
     refine⟨k1,k2,k3,?_,?_⟩
     ·rw[k4];refine mU (fun j _=>?_) (fun h=>by rw[k2 h];omega)
      simp only[f',if_neg hi]
     ·rw[k5];refine mU (fun j _=>?_) (fun h=>by rw[k3 h];omega)
      simp only[f',if_neg hi]
  | some i0 =>
   have fE:∀ {i:Nat} {e:MapEntry},(E.modify i0 fun e=>{ e with key:=qp ka kz fk,val:=qp va vc.length fv })[i]?=some e->∃ e0,E[i]?=some e0/\e=if i=i0 then { e0 with key:=qp ka kz fk,val:=qp va vc.length fv } else e0:=by
    intro i e he
    rw[Array.getElem?_modify] at he
    split at he
    ·rename_i Mj
     simp only[aoO] at he
     obtain⟨e0,h0,rfl⟩:=he
     exact⟨e0,h0,by rw[if_pos Mj.symm]⟩
    ·rename_i Mj
     exact⟨e,he,by rw[if_neg (ap3 Mj)]⟩
   have Kj:∀ {i:Nat} {e e0:MapEntry},(e=if i=i0 then { e0 with key:=qp ka kz fk,val:=qp va vc.length fv } else e0)->e.born=e0.born:=by
    intro i e e0 h
    rw[h];split<;>rfl
   refine⟨by simp[mK,tz,hE.size],by simp[mK,hE.clk],fun i e he=>?_,fun i e he=>?_,fun i j e e' he uS Mf=>?_,fun i e r he hr=>?_⟩
   ·obtain⟨e0,h0,h⟩:=fE he
    rw[Kj h]
    exact hE.at' i e0 h0
   ·obtain⟨e0,h0,h⟩:=fE he
    rw[Kj h]
    exact hE.born i e0 h0
   ·obtain⟨e0,h0,h⟩:=fE he
    obtain⟨e0',h0',h'⟩:=fE uS
    rw[Kj h,Kj h'] at Mf
    exact hE.apart i j e0 e0' h0 h0' Mf
   ·obtain⟨e0,h0,h⟩:=fE he
    rcases bE i r hr with ⟨hi,rfl⟩|⟨hi,hr⟩
    ·have jT:i=i0:=hi
     rw[if_pos jT] at h
     subst h
     subst hi
     exact Kq
    ·have jT:i≠i0:=hi
     rw[if_neg jT] at h
     subst h
     obtain⟨k1,k2,k3,k4,k5⟩:=hE.row i e r h0 hr
     refine⟨k1,k2,k3,?_,?_⟩
     ·rw[k4];refine mU (fun j _=>?_) (fun h=>by rw[k2 h];omega)
      simp only[f',if_neg hi]
     ·rw[k5];refine mU (fun j _=>?_) (fun h=>by rw[k3 h];omega)
      simp only[f',if_neg hi]
 ·rcases bE i r hi with ⟨rfl,rfl⟩|⟨bB,hr⟩
  ·rw[ao7 (by omega)] at hj
   simp only[f',if_pos rfl,if_pos hl]
   exact (hkk j x hj).mono st.S st.cell st.mp
  ·simp only[f',if_neg bB]
   exact (h1 i j r x hr hj hl).mono st.S st.cell st.mp
 ·rcases bE i r hi with ⟨rfl,rfl⟩|⟨bB,hr⟩
  ·rw[ao5 (by omega),hkz] at hj
   have e:¬ j<kz:=by omega
   simp only[f',if_pos rfl,if_neg e]
   obtain⟨k1,k2,k3⟩:=hvv (j-kz) x hj
   exact⟨k1,fun h=>(k2 h).mono st (aoU _),k3.mono st (aoU _) (by simp)⟩
  ·simp only[f',if_neg bB]
   obtain⟨k1,k2,k3⟩:=h2 i j r x hr hj hl
   exact⟨k1,fun h=>(k2 h).mono st (aoU _),k3.mono st (aoU _) (by simp)⟩
theorem qR{l:Nat}{x:AV}(h:x.plain=true):aV l x=true:=by
 cases x<;>first|exact h|(simp[AV.plain] at h;done)|(simp only[aV,AV.drop];exact h)|(simp[aV,AV.drop,AV.plain] at h ⊢;done)|skip
 rename_i f fs cs
 cases fs<;>cases cs<;>first|rfl|(simp[AV.plain] at h)
theorem J'(hW:aK G base s.H gh w)(hF:FR L nt gh w a s){o:Oper}{t kt et:TypeId}{ks:List CK}{ka va:Bool}{vz:Nat}{zv:Value}{zero:List AV}(hT:Du P t kt et ks ka va vz zv zero){xm xk xv:Operand}{ym yk yv:an}{s' : AS}
  (ho:o.op=.mapUpdate t xm xk xv\/o.op=.insert t xm xk xv) (hcm:ak nt xm=some ym) (hck:ak nt xk=some yk) (Pp:ak nt xv=some yv)
  (he:nj s ks.length ka va vz ks (ym.addr G s.T) (yk.eval G s.T) (yv.eval G s.T)=some s') (hd:∀ k,o.dst=some k->k<nt) :
  ∃ v' aH w',sm P a o w v' w'/\Out G base nt L gh w a s o.dst .undef (s'.bD yv) v' aH w':=by
 have hm:=arg_val hW hF hcm
 unfold nj at he
 generalize hY:ym.addr G s.T=Y at hm he
 cases Y<;>simp only at he<;>try (cases he;done)
 rename_i l
 obtain⟨aU,l5⟩:=VR.ny (hm:VR gh s.H.length w (a.eval xm) (.mref l))
 split at he
 ·rename_i lR lQ mC es hH
  simp only[aoP] at he
  obtain⟨kc,pk,vc,UU,II⟩:=he
  obtain⟨h0,s9⟩:=ab II
  clear II
  simp only[Bool.and_eq_true,dR,apc,ap1] at h0
  obtain⟨⟨⟨⟨⟨⟨⟨⟨hl,Y2⟩,rfl⟩,rfl⟩,rfl⟩,qU⟩,hva⟩,Y1⟩,YO⟩:=h0
  simp only[aoO] at s9
  obtain⟨oi,hf,rfl⟩:=s9
  have ai3:al (yk.eval G s.T)=true:=by rw[<- gy];exact gz pk
  have ai4:al (yv.eval G s.T)=true:=gz UU
  have hk0:=bY hW hF hck rfl ai3
  obtain⟨jP,oC,vT,Ay,K0,kD⟩:=oE hW hF Pp ai4 (.hs l (oi.getD es.length)) (by simp)
  have hρ:jP.ρ l=gh.ρ l:=K0.ρ l aU
  have hk:=hk0.mono K0 (aoU _)
  obtain⟨⟨hκ,hS,E,ck,f,hb,hE,h1,h2⟩,dq⟩:=oC.more l _ hH
  obtain⟨E2,TM,iO,hR⟩:=qc (oC.more l _ hH).1
  have hEE:E2=E/\TM=ck:=by
   rw[hb] at iO
   injection iO with iO
   injection iO with e1 e2
   exact⟨e1.symm,e2.symm⟩
  obtain⟨rfl,rfl⟩:=hEE
  obtain⟨Tt,UJ⟩:=Bl hk pk
  have gE:∃ fv:Nat->Value,a.eval xv=qp va vc.length fv/\∀ (j:Nat) (x:AV),(cond va (vc.map AV.drop) vc)[j]?=some x->(fv j).oneCell'=true/\(va=true->VR jP s.H.length w (fv j) x)/\CR jP s.H.length w (.hs l (oi.getD es.length)) (fv j) x:=by
   cases af4:va with
   | true =>
    have Dm:(yv.eval G s.T).isAgg=true:=by rw[<- hva,af4]
    have IU:VR jP s.H.length w (a.eval xv) (yv.eval G s.T):=by
     rcases kD with h|⟨e,h,_⟩
     ·exact h
     ·rw[h] at Dm;cases Dm
    obtain⟨US,UT⟩:=Bl IU UU
    rw[Dm] at US
    refine⟨_,US,fun j x hj=>?_⟩
    simp only[cond_true,ao1,aoO] at hj
    obtain⟨y,hy,rfl⟩:=hj
    obtain⟨m1,m2⟩:=UT j y hy
    exact⟨m2,fun _=>m1.dropped,.inl m1.dropped⟩
   | false =>
    have Dm:(yv.eval G s.T).isAgg=false:=by rw[<- hva,af4]
    have ajM:vc=[yv.eval G s.T]:=by
     generalize yv.eval G s.T=V at UU Dm
     cases V<;>first|(cases Dm;done)|(injection UU with UU;exact UU.symm)|(cases UU;done)
    refine⟨fun _=>a.eval xv,by simp[qp],fun j x hj=>?_⟩
    rw[ajM] at hj
    cases j with
    | succ j=>simp at hj
    | zero =>
     simp at hj
     subst hj
     refine⟨?_,(fun h=>by cases h),kD⟩
     rcases kD with h|⟨e,_,hp,_⟩
     ·exact h.dX (fun cs e=>by rw[e] at Dm;cases Dm) (fun cs e=>by rw[e] at UU;cases UU)
     ·exact hp.dX
  obtain⟨fv,hvv,UW⟩:=gE
  have Kn:(cond va (vc.map AV.drop) vc).length=vc.length:=by cases va<;>simp
  have ajO:va=false->(cond va (vc.map AV.drop) vc).length=1:=fun h=>by rw[Kn,Y2];exact hT.vz1 h
  have cz:=SS (vv:=a.eval xv) hT hk pk hl qU hb hR hf
  have ajh:a.eval xk=qp ka ks.length (fun j=>(a.eval xk).cells.getD j undef):=by rw[qU,<- hl];exact Tt
  have hMA:=adp (n:=s.H.length) (l:=l) (fk:=fun j=>(a.eval xk).cells.getD j undef) (fv:=fv) (vc:=cond va (vc.map AV.drop) vc) (o:=oi) oC hκ hS hb hE h1 h2 hl (fun h=>hT.key.kz h) ajO
   (fun j x hj=>(UJ j x hj).1.jX (aoV.1 YO x (ao0 hj))) (fun i hi=>by subst hi;exact ua hf) UW
  rw[Kn,<- ajh,<- hvv] at hMA
  have wx:=Gg (E':=(mK E2 TM oi (a.eval xk) (a.eval xv)).1) (ck':=(mK E2 TM oi (a.eval xk) (a.eval xv)).2) oC hb hS s.H.length
  rw[hκ] at wx
  have Ph:((tz es oi (kc++cond va (vc.map AV.drop) vc)).all fun r=>r.all (aV l))=true:=by
   have qt:(kc++cond va (vc.map AV.drop) vc).all (aV l)=true:=by
    rw[are,Bool.and_eq_true]
    refine⟨aoV.2 fun x hx=>qR (aoV.1 YO x hx),?_⟩
    cases va with
    | false=>exact Y1
    | true =>
     refine aoV.2 fun x hx=>?_
     obtain⟨y,hy,rfl⟩:=apu.1 hx
     exact ot (aoV.1 Y1 y hy)
   refine aoV.2 fun r hr=>?_
   cases oi with
   | none =>
    simp only[tz,aoX,ao3] at hr
    rcases hr with hr|rfl
    ·exact aoV.1 dq r hr
    ·exact qt
   | some i =>
    simp only[tz] at hr
    rcases aro hr with hr|rfl
    ·exact aoV.1 dq r hr
    ·exact qt
  have gA:(tn w (jP.ρ l) (mK E2 TM oi (a.eval xk) (a.eval xv)).1 (mK E2 TM oi (a.eval xk) (a.eval xv)).2).heap.size=w.heap.size:=by simp[tn]
  have Cn:=oC.uJ (o:=.map ks.length ka va (tz es oi (kc++cond va (vc.map AV.drop) vc))) wx aU (by intro k hk;simp[hk]) (fun b o ho=>by rw[gA];exact oC.mX b o ho) (fun b hb=>by rw[gA];exact oC.ow b hb) (fun _ _ h=>by cases h) ⟨hMA,Ph⟩ (fun _ _ _ h=>.inl h)
  have hS:=gk s yv
  have xW:Ext s.H.length jP w jP (tn w (jP.ρ l) (mK E2 TM oi (a.eval xk) (a.eval xv)).1 (mK E2 TM oi (a.eval xk) (a.eval xv)).2):=⟨wx.mono (fun r h=>by rw[h];simp[pg]),fun b hb=>hb⟩
  have IF:FR L nt jP _ a ((s.bD yv).fp ⟨s.H.set l (.map ks.length ka va (tz es oi (kc++cond va (vc.map AV.drop) vc))),l⟩):=vT.grown (by rw[hS.1];exact wx) (fun i=>⟨by simp,by simp,by simp⟩) (by rw[hS.1];simp)
  refine⟨undef,jP,tn w (jP.ρ l) (mK E2 TM oi (a.eval xk) (a.eval xv)).1 (mK E2 TM oi (a.eval xk) (a.eval xv)).2,.inr ⟨?_,rfl⟩,?_⟩
  rotate_left
  ·rw[vA]
   exact Out.skip (s1:=(s.bD yv).fp ⟨s.H.set l (.map ks.length ka va (tz es oi (kc++cond va (vc.map AV.drop) vc))),l⟩) Cn IF (Ay.trans xW (aoU _)) hd
  ·rcases ho with ho|ho<;>simp[execOp,ho,l5,<- hρ,cz]
 ·cases he
end
end
section
section
variable {P:Program}{G:Nat->List AV}{base nt:Nat}{L:List Nat}{gh:Gh}{w w' : World}{a:Act}{s:AS}{H:ah}
theorem H7{l b kz i:Nat}{ka:Bool}{es:List (List AV)}{n:Nat}(hW:aK G base H gh w)(hM:vH gh n w b (.hb l) (fun i=>.hs l i) kz ka false es){r:List AV}{v:AV}(hi:es[i]?=some r)(hv:r[kz]?=some v)(p:ba)(hp:p≠.outer)(m:Nat) :
  ∃ aH u E ck,(∀ b o,aH.S b o->gh.S b o)/\Step (fun o=>o=.hs l i) m gh w aH w/\Ext m gh w aH w/\(∀ b o,aH.S b o->b<w.heap.size)/\(∀ b,aH.κ b≠.none->base<=b/\b<w.heap.size) /\
   vH aH n w b (.hb l) (fun i=>.hs l i) kz ka false (es.set i (bP kz r))/\w.heap[b]?=some (.map E ck)/\(E[i]?).map (·.val)=some u/\u.oneCell'=true/\CR aH n w p u v:=by
 have dA:=fun b hb=>hW.bG (gh:=gh) b hb
 obtain⟨hκ,hS,E,ck,f,hb,hE,h1,h2⟩:=hM
 have Mm:i<es.length:=(aoR.1 hi).1
 have hiE:i<E.size:=by rw[hE.size];exact Mm
 have YG:E[i]?=some E[i]:=ao2 hiE
 obtain⟨r1,r2,r3,r4,r5⟩:=hE.row i _ r YG hi
 have PI:=r3 rfl
 have gE:E[i].val=f i kz:=by rw[r5];simp[qp]
 obtain⟨c1,_,c2⟩:=h2 i kz r v hi hv (aoU _)
 have bE:∀ {k:Nat} {q:List AV},(es.set i (bP kz r))[k]?=some q->(k=i/\q=bP kz r)\/(k≠i/\es[k]?=some q):=by
  intro k q hq
  rw[apr] at hq
  split at hq
  ·rename_i e
   subst e
   injection hq with hq;exact .inl ⟨rfl,hq.symm⟩
  ·rename_i e;exact .inr ⟨ap3 e,hq⟩
 have hlen:(bP kz r).length=r.length:=by simp[bP]
 have YF:zU E ck kz ka false (es.set i (bP kz r)) f:=by
  refine⟨by simp[hE.size],hE.clk,hE.at',hE.born,hE.apart,fun k e q he hq=>?_⟩
  rcases bE hq with ⟨rfl,rfl⟩|⟨_,hq⟩
  ·have:=hE.row k e r he hi
   rw[hlen];exact this
  ·exact hE.row k e q he hq
 have cell:∀ {k j:Nat} {q:List AV} {x:AV},(es.set i (bP kz r))[k]?=some q->q[j]?=some x->∃ q0 x0,es[k]?=some q0/\q0[j]?=some x0/\((k=i/\j=kz/\x=x0.drop)\/(¬ (k=i/\j=kz)/\x=x0)):=by
  intro k j q x hq hx
  rcases bE hq with ⟨rfl,rfl⟩|⟨bB,hq⟩
  ·rw[pU] at hx
   split at hx
   ·rename_i e
    simp only[aoO] at hx
    obtain⟨x0,qY,rfl⟩:=hx
    exact⟨r,x0,hi,qY,.inl ⟨rfl,e,rfl⟩⟩
   ·rename_i e;exact⟨r,x,hi,hx,.inr ⟨fun h=>e h.2,rfl⟩⟩
  ·exact⟨q,x,hq,hx,.inr ⟨fun h=>bB h.1,rfl⟩⟩
 have keys:∀ {aH:Gh},(∀ b o,gh.S b o->aH.S b o)->∀ (k j:Nat) (q:List AV) (x:AV),(es.set i (bP kz r))[k]?=some q->q[j]?=some x->j<kz->PR aH.S w (f k j) x:=by
  intro aH hSS k j q x hq hx hj
  obtain⟨q0,x0,k1,k2,⟨_,e,_⟩|⟨_,rfl⟩⟩:=cell hq hx
  ·omega
  ·exact (h1 k j q0 x k1 k2 hj).mono hSS (fun _ _ _=>rfl) (fun _ _ _ _ h=>h)
 rcases c2 with IU|⟨e,rfl,Dl,b',cap,C',kC,lo,jT,sz,Y2,hk,he,fP,IE,zg,hl,hh,hS'⟩
 ·refine⟨gh,E[i].val,E,ck,fun _ _ h=>h,Step.refl _ _ _ _ dA,Ext.refl _ _ _ dA,hW.mX,hW.ow,⟨hκ,hS,E,ck,f,hb,YF,keys (fun _ _ h=>h),fun k j q x hq hx hj=>?_⟩,hb,by rw[YG];rfl,by rw[gE];exact c1,by rw[gE];exact .inl IU⟩
  obtain⟨q0,x0,k1,k2,⟨rfl,rfl,rfl⟩|⟨_,rfl⟩⟩:=cell hq hx
  ·obtain⟨m1,_,m3⟩:=h2 k j q0 x0 k1 k2 hj
   exact⟨m1,(fun h=>by cases h),.inl m3.dropped⟩
  ·exact h2 k j q0 x k1 k2 hj
 ·have aU:b' < w.heap.size:=(aoY.1 fP).1
  have st:=iU hW aU p m
  rw[hk] at st
  have stn:=iU hW aU p n
  rw[hk] at stn
  have bB:b≠b':=by rintro rfl;rw[hκ] at hk;cases hk
  have hn:gh.κ b'≠.none:=by rw[hk];simp
  refine⟨gh.ma b' p,E[i].val,E,ck,fun _ _ h=>h,st,qQ hW aU hp hn (by rw[hk];simp) m,hW.mX,?_,⟨by simp[Gh.ma,bB,hκ],hS,E,ck,f,hb,YF,keys (fun _ _ h=>h),fun k j q x hq hx hj=>?_⟩,hb,by rw[YG];rfl,by rw[gE];exact c1,
   by rw[gE];exact .inr ⟨e,rfl,Dl,b',cap,C',kC,lo,jT,sz,Y2,by simp[Gh.ma],he,fP,IE,zg,hl,hh,hS'⟩⟩
  ·intro b1 ze
   have iO:(if b1=b' then p else gh.κ b1)≠.none:=ze
   split at iO
   ·rename_i e;rw[e];exact hW.ow b' hn
   ·exact hW.ow b1 iO
  ·obtain⟨q0,x0,k1,k2,⟨rfl,rfl,rfl⟩|⟨ajs,rfl⟩⟩:=cell hq hx
   ·obtain⟨m1,_,m3⟩:=h2 k j q0 x0 k1 k2 hj
    exact⟨m1,(fun h=>by cases h),.inl ((m3.dropped).mono stn (aoU _))⟩
   ·obtain⟨m1,m2,m3⟩:=h2 k j q0 x k1 k2 hj
    refine⟨m1,(fun h=>by cases h),m3.mono stn (aoU _) (fun e=>?_)⟩
    injection e with _ e
    subst e
    have Mr:q0=r:=by rw[hi] at k1;injection k1 with k1;exact k1.symm
    subst Mr
    have:=(aoR.1 k2).1
    exact ajs ⟨rfl,by omega⟩
theorem uH{o:Oper}{c:Call}{x:Operand}{t:TypeId}(ho:o.op=.call c)(gf:c.callee=.builtin .len)(dy:c.args.toList=[x])(jl:c.argTypes.toList=[t]){v:Value}
  (cz:(Builtin.len_ #[t] o.type #[a.eval x]).run P w=.ok v w'):(execOp a.eval o).run P w=.ok (.value v) w':=by
 have e1:c.args=#[x]:=by apply aqU;simpa using dy
 have e2:c.argTypes=#[t]:=by apply aqU;simpa using jl
 unfold execOp
 simp only[ho,resolve,gf,e1,e2,invoke,builtin,Sem.run_bind,Sem.run_pure,Result.andThen_ok,aqX,apm,apz,cz]
theorem run_len_map{t kt et:TypeId}{o:Oper}{c:Call}{x:Operand}(ho:o.op=.call c)(gf:c.callee=.builtin .len)(dy:c.args.toList=[x])(jl:c.argTypes.toList=[t])(ht:P.underlying t=some (.map kt et)){v:Value}{n:Nat}
  (h:(v=.map none/\n=0)\/∃ b E ck,v=.map (some b)/\w.heap[b]?=some (.map E ck)/\E.size=n) (l5:a.eval x=v):(execOp a.eval o).run P w=.ok (.value (.int .i64 n)) w:=by
 refine uH ho gf dy jl ?_
 rw[l5]
 rcases h with ⟨rfl,rfl⟩|⟨b,E,ck,rfl,hb,rfl⟩
 ·simp[Builtin.len_,run_underlying ht,goInt]
 ·simp[Builtin.len_,run_underlying ht,goInt,getObj,Sem.run,hb]
theorem CC(hW:aK G base s.H gh w)(hF:FR L nt gh w a s){x:Operand}{y:an}(hc:ak nt x=some y):(y.addr G s.T=.cI->a.eval x=.map none) /\
  (∀ kz ka va es,y.addr G s.T=.dM kz ka va es->PR gh.S w (a.eval x) (.dM kz ka va es))/\∀ l,y.addr G s.T=.mref l->l<s.H.length/\a.eval x=.map (some (gh.ρ l)):=by
 have hm:=arg_val hW hF hc
 refine⟨fun h=>?_,fun kz ka va es h=>?_,fun l h=>?_⟩
 ·rw[h] at hm
  generalize a.eval x=V at hm
  cases (hm:VR gh s.H.length w V .cI) with
  | plain _ _ h=>cases h;rfl
 ·rw[h] at hm
  generalize a.eval x=V at hm
  cases (hm:VR gh s.H.length w V (.dM _ _ _ _)) with
  | plain _ _ h=>exact h
 ·rw[h] at hm
  exact VR.ny hm
theorem Pe(hW:aK G base s.H gh w)(hF:FR L nt gh w a s){x:Operand}{y:an}(hc:ak nt x=some y){kz:Nat}{ka va:Bool}{es:List (List AV)}(h:y.addr G s.T=.mF kz ka va es):PR gh.S w (a.eval x) (.mF kz ka va es):=by
 have hm:=arg_val hW hF hc
 rw[h] at hm
 generalize a.eval x=V at hm
 cases (hm:VR gh s.H.length w V (.mF _ _ _ _)) with
 | plain _ _ h=>exact h
theorem Ud(hW:aK G base s.H gh w)(hF:FR L nt gh w a s){o:Oper}{c:Call}{x:Operand}{t kt et:TypeId}{y:an}{z:AV}{s' : Option AS}{cf:cu}
  (ho:o.op=.call c) (gf:c.callee=.builtin .len) (dy:c.args.toList=[x]) (jl:c.argTypes.toList=[t]) (hc:ak nt x=some y) (ht:P.underlying t=some (.map kt et))
  (he:aq G cf s (.MQ y)=some (z,s')):s'=none/\∃ v,(execOp a.eval o).run P w=.ok (.value v) w/\lZ gh s.H.length nt w s.T s.gen (fj a) v z:=by
 obtain⟨m1,m2,m3⟩:=CC hW hF hc
 simp only[aq] at he
 have fin:∀ {v:Value} {n:Nat},((v=.map none/\n=0)\/∃ b E ck,v=.map (some b)/\w.heap[b]?=some (.map E ck)/\E.size=n)->a.eval x=v->∃ u,(execOp a.eval o).run P w=.ok (.value u) w/\lZ gh s.H.length nt w s.T s.gen (fj a) u (.int .i64 n) :=
  fun h l5=>⟨_,run_len_map ho gf dy jl ht h l5,.cF (.plain _ _ (.int _ _))⟩
 split at he
 ·rename_i hY
  simp only[aoQ,aoS] at he
  obtain⟨rfl,rfl⟩:=he
  exact⟨rfl,fin (n:=0) (.inl ⟨rfl,rfl⟩) (m1 hY)⟩
 ·rename_i hY
  simp only[aoQ,aoS] at he
  obtain⟨rfl,rfl⟩:=he
  obtain⟨b,E,ck,hv,hb,hR⟩:=qd (b:=0) (n:=0) (m2 _ _ _ _ hY)
  exact⟨rfl,fin (.inr ⟨b,E,ck,rfl,hb,hR.size⟩) hv⟩
 ·rename_i l hY
  obtain⟨aU,l5⟩:=m3 l hY
  split at he
  ·rename_i hH
   simp only[aoQ,aoS] at he
   obtain⟨rfl,rfl⟩:=he
   obtain⟨E,ck,hb,hR⟩:=qc (hW.more _ _ hH).1
   exact⟨rfl,fin (.inr ⟨_,E,ck,rfl,hb,hR.size⟩) l5⟩
  ·rename_i hH
   simp only[aoQ,aoS] at he
   obtain⟨rfl,rfl⟩:=he
   obtain⟨b,E,ck,hv,hb,hR⟩:=qd (b:=0) (n:=0) (hW.more _ _ hH:PR gh.S w _ _)
   exact⟨rfl,fin (.inr ⟨b,E,ck,rfl,hb,hR.size⟩) (l5.trans hv)⟩
  ·cases he
 ·cases he
theorem OZ(hW:aK G base s.H gh w)(hF:FR L nt gh w a s){o:Oper}{t kt et:TypeId}{ks:List CK}{ka:Bool}{vz:Nat}{zv:Value}{zero:List AV}(hT:Du P t kt et ks ka false vz zv zero){x i:Operand}{y yi:an}{z:AV}{s' : Option AS}
  (ho:o.op=.lookup t x i false) (hc:ak nt x=some y) (hi:ak nt i=some yi) (he:rO s ks.length ka ks zero (y.addr G s.T) (yi.eval G s.T)=some (z,s')) (hd:∀ k,o.dst=some k->k<nt) :
  ∃ v' aH w',sm P a o w v' w'/\Out G base nt L gh w a s o.dst z (s'.getD s) v' aH w':=by
 obtain⟨_,_,m3⟩:=CC hW hF hc
 unfold rO at he
 split at he
 ·rename_i l hY
  obtain⟨aU,l5⟩:=m3 l hY
  split at he
  ·rename_i lR lQ es hH
   simp only[aoP] at he
   obtain⟨kc,pk,II⟩:=he
   obtain⟨h0,s9⟩:=ab II
   clear II
   simp only[Bool.and_eq_true,dR,apc,ap1] at h0
   obtain⟨⟨⟨hl,rfl⟩,rfl⟩,qU⟩:=h0
   simp only[aoP] at s9
   obtain⟨oi,hf,YK⟩:=s9
   have Co:al (yi.eval G s.T)=true:=by rw[<- gy];exact gz pk
   have hk:=bY hW hF hi rfl Co
   have hMA:=(hW.more l _ hH).1
   have dq:=(hW.more l _ hH).2
   obtain⟨E,ck,hb,hR⟩:=qc hMA
   have pN:=sd hT.key hk pk hl qU E.isEmpty
   have Hk:=uI hT.key hk pk hl qU (l:=E.toList) (by simpa using hR.size) (fun i e r h1 h2=>hR.key i e r (by simpa using h1) h2) hf
   cases oi with
   | none =>
    simp only[aoQ,aoS] at YK
    obtain⟨rfl,rfl⟩:=YK
    obtain⟨i0,NJ,hz0⟩:=hT.hz
    have hzr:(zeroValue et).run P w=.ok zv w:=by simp[zeroValue,typeInfo,NJ,hz0]
    have Dm:=hT.agg
    have h1:zero.length=1:=by rw[hT.len];exact hT.vz1 rfl
    obtain⟨x0,qY⟩:=ap8.1 h1
    obtain⟨_,hv⟩:=iT (gh:=gh) (n:=s.H.length) (w:=w) hT.cells
    have Y5:zv.cells=#[zv]:=by cases zv<;>first|rfl|(simp[Ld] at Dm)
    have IU:VR gh s.H.length w zv (zero.headD .undef):=by
     rw[qY] at hv ⊢
     exact (hv 0 zv x0 (by rw[Y5];rfl) rfl).1
    refine⟨zv,gh,w,.inl ?_,Out.pure hW hF hd (.cF IU)⟩
    simp[execOp,ho,l5,Instr.lookup,run_underlying hT.ht,getObj,Sem.run,hb]
    simp[pN,Hk,hzr]
   | some j =>
    simp only[aoO,aoS] at YK
    obtain⟨v,hv,rfl,rfl⟩:=YK
    have UI:=ua hf
    have hej:es[j]?=some es[j]:=aoT UI
    have ju:es.getD j []=es[j]:=by simp[List.getD,hej]
    rw[ju] at hv ⊢
    obtain⟨aH,u,E',ck',hSS,st,hE,qy,iV,hM',fP,hu,fL,kD⟩:=H7 hW hMA hej hv (Np o.dst) (mM _) s.H.length
    have hEE:E'=E:=by
     rw[hb] at fP;injection fP with fP;injection fP with e1 _;exact e1.symm
    subst hEE
    have hρ:aH.ρ l=gh.ρ l:=st.ρ l aU
    have Ph:((es.set j (bP ks.length es[j])).all fun r=>r.all (aV l))=true:=by
     refine aoV.2 fun r hr=>?_
     rcases aro hr with hr|rfl
     ·exact aoV.1 dq r hr
     ·exact uO (aoV.1 dq _ (aqy UI))
    have kR:aK G base (s.H.set l (.map ks.length ka false (es.set j (bP ks.length es[j])))) aH w :=
     hW.uJ st aU (by intro k hk;exact⟨by simp,fun j' e=>by injection e with e _;exact hk e⟩) qy iV (fun _ _ h=>by cases h) (by rw[hρ];exact⟨hM',Ph⟩) (fun b o _ h=>.inl (hSS b o h))
    have zB:FR L nt aH w a (s.fp ⟨s.H.set l (.map ks.length ka false (es.set j (bP ks.length es[j]))),l⟩):=hF.grown st (fun i=>⟨by simp,by simp,by simp⟩) (by simp)
    have hjE:E'[j]?=some (E'[j]'(by rw[hR.size];exact UI)):=ao2 _
    have Mi:(E'.toList.getD j default).val=u:=by
     have h1:E'.toList[j]?=some (E'[j]'(by rw[hR.size];exact UI)):=by rw[aps];exact hjE
     rw[hjE] at hu
     injection hu with hu
     simp only[List.getD,h1,Option.getD_some]
     exact hu
    refine⟨u,aH,w,.inl ?_,Out.of (s1:=s.fp ⟨s.H.set l (.map ks.length ka false (es.set j (bP ks.length es[j]))),l⟩) (gen':=s.gen) kR zB hE (aoU _) hd (.inl (iN kD.al)) (fun k hk=>?_)⟩
    ·simp only[Option.map_some,Mi] at Hk
     simp[execOp,ho,l5,Instr.lookup,run_underlying hT.ht,getObj,Sem.run,hb]
     simp[pN,Hk]
    ·rw[hk] at kD
     have:(s.fp ⟨s.H.set l (.map ks.length ka false (es.set j (bP ks.length es[j]))),l⟩).H.length=s.H.length:=by simp[AS.fp]
     rw[this]
     exact lx kD.al kD
  ·cases he
 ·cases he
end
end
end Go.Abs
namespace Go.Abs
open Go.ChangeMaps (setBlock)
section
section
variable {P:Program}{G:Nat->List AV}{base nt:Nat}{L:List Nat}{gh:Gh}{w w' : World}{a:Act}{s:AS}{H:ah}
theorem GM{α:Type}{key:α->Nat} : ∀ (l:List α) (x:α),x∈l->(∀ (i j:Nat) (a b:α),l[i]?=some a->l[j]?=some b->key a=key b->i=j)->l.Perm (x :: l.filter fun y=>decide (key y≠key x))
 | [],x,h,_=>by cases h
 | y :: l,x,h,hd=>by
  have IH:∀ (i j:Nat) (a b:α),l[i]?=some a->l[j]?=some b->key a=key b->i=j:=fun i j a b h1 h2 h3=>by
   have:=hd (i+1) (j+1) a b (by simpa using h1) (by simpa using h2) h3
   omega
  by_cases Ku:key y=key x
  ·have dq:l.filter (fun z=>decide (key z≠key x))=l:=by
    refine List.filter_eq_self.2 fun z hz=>?_
    obtain⟨j,hj⟩:=apw hz
    simp only[apc]
    intro e
    have:=hd 0 (j+1) y z rfl (by simpa using hj) (Ku.trans e.symm)
    omega
   have hxe:x=y:=by
    rcases ao8.1 h with h|h
    ·exact h
    ·obtain⟨j,hj⟩:=apw h
     have:=hd 0 (j+1) y x rfl (by simpa using hj) Ku
     omega
   subst hxe
   rw[aqx,if_neg (by simp),dq]
  ·have hxl:x∈l:=by
    rcases ao8.1 h with h|h
    ·subst h;exact absurd rfl Ku
    ·exact h
   have ih:=GM l x hxl IH
   rw[aqx,if_pos (by simpa using Ku)]
   exact (List.Perm.cons y ih).trans (List.Perm.swap x y _)
theorem zN(hW:aK G base H gh w){b:Nat}{o:Obj}{w1:World}(hw1:w1=w\/w1=w.drew)(aU:b<w.heap.size)(hS:∀ o,¬ gh.S b o)(hnc:∀ C ty fr,w.heap[b]?≠some (.cells C ty fr))(n:Nat):Step (fun r=>r=gh.κ b) n gh w gh (setBlock w1 b o):=by
 have AA:(setBlock w1 b o).heap=w.heap.setIfInBounds b o:=by rcases hw1 with rfl|rfl<;>rfl
 have Cp:∀ b',b'≠b->(setBlock w1 b o).heap[b']?=w.heap[b']?:=fun b' h=>by rw[AA];simp[ap3 h]
 have bB:∀ b' o,gh.S b' o->b'≠b:=fun b' o h=>by rintro rfl;exact hS o h
 refine⟨fun _ _ h=>h,fun b' o h=>cell_of_heap (Cp b' (bB b' o h)),by rw[AA];simp,?_,?_,?_,fun b' fP hn=>?_,fun b' fP=>?_,fun _ _=>rfl,fun b' ty m hm=>?_,fun b' E1 c1 hs hm=>?_⟩
 ·rcases hw1 with rfl|rfl<;>rfl
 ·rcases hw1 with rfl|rfl<;>rfl
 ·rcases hw1 with rfl|rfl<;>rfl
 ·have zC:b'≠b:=by rintro rfl;exact hn rfl
  exact⟨.inl (Cp b' zC),rfl,fun _ h=>h⟩
 ·have:w.heap.size<=b':=by first|exact fP|(rw[AA] at fP;simpa using fP)
  exact hW.bG b' this
 ·obtain⟨C,fr,h1,h2⟩:=hm
  have zC:b'≠b:=by rintro rfl;exact hnc C ty fr h1
  exact⟨C,fr,by rw[Cp b' zC];exact h1,h2⟩
 ·rw[Cp b' (bB b' 0 hs)];exact hm
theorem sA{x:AV}(h:x.plain=true):x.drop=x:=by
 cases x<;>try rfl
 rename_i e own
 cases own
 ·rfl
 ·simp[AV.plain] at h
def Gh.Is(gh:Gh)(b:Nat):Gh:={ gh with S:=fun b' o=>gh.S b' o\/(b'=b/\o=0) }
theorem Jh(hW:aK G base s.H gh w)(hF:FR L nt gh w a s){l kz:Nat}{ka va:Bool}{es:List (List AV)}(hH:s.H[l]?=some (.map kz ka va es))(mf:(es.all fun r=>r.all AV.plain)=true) :
  ∃ jP,aK G base (s.H.set l (.dM kz ka va es)) jP w/\FR L nt jP w a (s.fp ⟨s.H.set l (.dM kz ka va es),l⟩)/\Ext s.H.length gh w jP w/\jP.ρ l=gh.ρ l/\PR jP.S w (.map (some (gh.ρ l))) (.dM kz ka va es):=by
 have aU:l<s.H.length:=(aoR.1 hH).1
 obtain⟨⟨hκ,hS,E,ck,f,hb,hE,h1,h2⟩,_⟩:=hW.more l _ hH
 have UB:gh.ρ l<w.heap.size:=(aoY.1 hb).1
 have st:∀ n,Step (fun r=>r=.hb l) n gh w (gh.Is (gh.ρ l)) w:=fun n=>by
  refine⟨fun b o h=>.inl h,fun _ _ _=>rfl,aoU _,rfl,rfl,rfl,fun b hb hn=>⟨.inl rfl,rfl,fun o ho=>?_⟩,fun b hb=>hW.bG b hb,fun _ _=>rfl,fun _ _ _ h=>h,fun _ _ _ _ h=>h⟩
  rcases ho with ho|⟨rfl,_⟩
  ·exact ho
  ·exact absurd hκ hn
 have hP:PR (gh.Is (gh.ρ l)).S w (.map (some (gh.ρ l))) (.dM kz ka va es):=by
  refine .dM (gh.ρ l) kz ka va es E ck f (.inr ⟨rfl,rfl⟩) hb hE (fun i j r x hi hj=>?_)
  have hx:=aoV.1 (aoV.1 mf r (ao0 hi)) x (ao0 hj)
  have hp:PR gh.S w (f i j) x:=by
   by_cases aU:j<kz
   ·exact h1 i j r x hi hj aU
   ·have:=((h2 i j r x hi hj (by omega)).2.2).dropped
    rw[sA hx] at this
    exact this.jX hx
  exact hp.mono (st 0).S (st 0).cell (st 0).mp
 refine⟨gh.Is (gh.ρ l),?_,?_,⟨(st _).mono (fun r h=>by rw[h];exact⟨by simp,by simp⟩),fun b hb=>hb⟩,rfl,hP⟩
 ·refine hW.uJ (st _) aU (by intro k hk;simp[hk]) (fun b o ho=>?_) hW.ow (fun _ _ h=>by cases h) hP (fun b o m ho=>?_)
  ·rcases ho with ho|⟨rfl,_⟩
   ·exact hW.mX b o ho
   ·exact UB
  ·rcases ho with ho|⟨rfl,rfl⟩
   ·exact .inl ho
   ·exact .inr (fun hc=>by simp[World.cell?,hb] at hc)
 ·exact hF.grown (st _) (fun i=>⟨by simp,by simp,by simp⟩) (by simp)
theorem GX(hW:aK G base s.H gh w)(hF:FR L nt gh w a s){o:Oper}{kz:Nat}{ka va:Bool}(hd:∀ k,o.dst=some k->k<nt/\k∈L) :
  ∀ (m:Option Nat) (since:Nat) (es:List (List AV)),(execOp a.eval o).run P w=.ok (.value (.pointer (some ⟨w.heap.size,0,none⟩))) (w.alloc (.mapIter m since #[] since)) ->
   ((m=none/\es=[])\/∃ m0 E ck f,m=some m0/\gh.S m0 0/\w.heap[m0]?=some (.map E ck)/\since=ck/\∃ tX:List (List AV),uW E ck kz ka va tX f/\es.Perm tX/\(∀ (i j:Nat) (r:List AV) (x:AV),tX[i]?=some r->r[j]?=some x->PR gh.S w (f i j) x)) ->
   ∃ v' aH w',sm P a o w v' w'/\Out G base nt L gh w a s o.dst (.iter s.gen kz ka va [] es) { s with gen:=s.gen+1 } v' aH w':=by
  intro m since es cz hm
  have hp:=dJ.alloc w (.mapIter m since #[] since)
  have bB:=tH o.dst
  have st:=gT hW hp bB (fun _=>False) s.H.length
  have zB:FR L nt (gh.alloc w.heap.size (Hf o.dst) fun _=>False) (w.alloc (.mapIter m since #[] since)) a s:=hF.grown (H':=s.H) (lo':=s.lo) st (fun i=>⟨id,id,fun _=>id⟩) (aoU _)
  have kR:=hW.alloc hp bB (fun _=>False) (fun _ _ h=>h.elim)
  refine⟨.pointer (some ⟨w.heap.size,0,none⟩),_,_,.inl cz,kR,zB.Sx (gen':=s.gen+1) (apH _) (fun b hb=>kR.bG b hb) o.dst (fun k hk=>(hd k hk).1) (.inr ⟨⟨s.gen,aoU _,rfl⟩,fun k hk=>(hd k hk).2⟩) ?_,mO hW hp bB _ _⟩
  intro k hk
  refine⟨aqH _,w.heap.size,rfl,?_⟩
  rw[hk] at st ⊢
  refine⟨by simp[Gh.alloc,Hf],?_,m,since,#[],since,hp.new,?_⟩
  ·rintro o (ho|⟨_,ho⟩)
   ·have:=hW.mX _ o ho;omega
   ·exact ho
  ·rcases hm with ⟨rfl,rfl⟩|⟨m0,E,ck,f,rfl,h1,h2,rfl,tX,h3,YU,h4⟩
   ·exact .inl ⟨rfl,rfl,rfl,rfl⟩
   ·refine .inr ⟨m0,E,tX,since,f,rfl,st.S _ _ h1,st.mp _ _ _ h1 h2,h3,rfl,rfl,fun i j r x hi hj=>(h4 i j r x hi hj).mono st.S st.cell st.mp,.inl ⟨rfl,rfl⟩,?_⟩
    have:((E.toList.zip tX).filter fun p=>!(#[]:Array Nat).contains p.1.born)=E.toList.zip tX:=List.filter_eq_self.2 fun p _=>by simp
    rw[this]
    have hz:(E.toList.zip tX).map (·.2)=tX:=List.map_snd_zip (by have:=h3.size;simp;omega)
    rw[hz]
    exact YU
theorem ZW(hW:aK G base s.H gh w)(hF:FR L nt gh w a s){o:Oper}{t kt et:TypeId}{x:Operand}{y:an}{kz:Nat}{ka va:Bool}{z:AV}{s' : Option AS}{cf:cu}(ho:o.op=.range t x)(hc:ak nt x=some y)(ht:P.underlying t=some (.map kt et))
  (he:aq G cf s (.rng kz ka va y)=some (z,s')) (hd:∀ k,o.dst=some k->k<nt/\k∈L) :
  ∃ v' aH w',sm P a o w v' w'/\Out G base nt L gh w a s o.dst z (s'.getD s) v' aH w':=by
 obtain⟨m1,m2,m3⟩:=CC hW hF hc
 have key:=GX (P:=P) hW hF (o:=o) (kz:=kz) (ka:=ka) (va:=va) hd
 simp only[aq] at he
 split at he
 ·rename_i hY
  simp only[aoQ,aoS] at he
  obtain⟨rfl,rfl⟩:=he
  refine key none 0 [] ?_ (.inl ⟨rfl,rfl⟩)
  simp[execOp,ho,m1 hY,Instr.range,run_underlying ht,newObj,Sem.run]
 ·rename_i hY
  obtain⟨h0,s9⟩:=ab he
  clear he
  simp only[Bool.and_eq_true,dR,apc,ap1] at h0
  obtain⟨⟨rfl,rfl⟩,rfl⟩:=h0
  simp only[aoQ,aoS] at s9
  obtain⟨rfl,rfl⟩:=s9
  have hp:=m2 _ _ _ _ hY
  generalize hA:a.eval x=V at hp
  cases hp with
  | dM b _ _ _ _ E ck f hS hb hE cr =>
   refine key (some b) ck _ ?_ (.inr ⟨b,E,ck,f,rfl,hS,hb,rfl,_,hE.iter,List.Perm.refl _,cr⟩)
   simp[execOp,ho,hA,Instr.range,run_underlying ht,newObj,getObj,Sem.run,hb]
 ·rename_i hY
  obtain⟨h0,s9⟩:=ab he
  clear he
  simp only[Bool.and_eq_true,dR,apc,ap1] at h0
  obtain⟨⟨rfl,rfl⟩,rfl⟩:=h0
  simp only[aoQ,aoS] at s9
  obtain⟨rfl,rfl⟩:=s9
  have hp:=Pe hW hF hc hY
  generalize hA:a.eval x=V at hp
  cases hp with
  | mF b _ _ _ _ tX E ck f hS hb hE YU cr =>
   refine key (some b) ck _ ?_ (.inr ⟨b,E,ck,f,rfl,hS,hb,rfl,_,hE,YU.symm,cr⟩)
   simp[execOp,ho,hA,Instr.range,run_underlying ht,newObj,getObj,Sem.run,hb]
 ·rename_i l hY
  split at he
  ·rename_i lR lQ mC es hH
   obtain⟨h0,s9⟩:=ab he
   clear he
   simp only[Bool.and_eq_true,dR,apc,ap1] at h0
   obtain⟨⟨⟨rfl,rfl⟩,rfl⟩,mf⟩:=h0
   simp only[aoQ,aoS] at s9
   obtain⟨rfl,rfl⟩:=s9
   obtain⟨aU,l5⟩:=m3 l hY
   obtain⟨jP,oC,vT,Ay,hρ,hP⟩:=Jh hW hF hH mf
   generalize hV:Value.map (some (gh.ρ l))=V at hP
   cases hP with
   | dM b _ _ _ _ E ck f hS hb hE cr =>
    injection hV with hV
    injection hV with hV
    subst hV
    obtain⟨v',aH,w',k1,k2⟩:=GX (P:=P) (s:=s.fp ⟨s.H.set l (.dM kz ka va es),l⟩) oC vT (o:=o) hd (some (gh.ρ l)) ck es (by
     simp[execOp,ho,l5,Instr.range,run_underlying ht,newObj,getObj,Sem.run,hb]) (.inr ⟨_,E,ck,f,rfl,hS,hb,rfl,_,hE.iter,List.Perm.refl _,cr⟩)
    exact⟨v',aH,w',k1,k2.W,k2.F,Ay.trans k2.E (by simp[AS.fp])⟩
  ·cases he
 ·cases he
theorem FA:∀ (l:List MapEntry) (e:MapEntry),e∈l->(∀ x∈l,x.born=e.born->x=e)->l.find? (fun x=>x.born==e.born)=some e
 | [],e,h,_=>by cases h
 | x :: l,e,h,hu=>by
  rw[List.find?_cons]
  by_cases hx:x.born=e.born
  ·have:=hu x (by simp) hx
   subst this
   simp
  ·have hb:(x.born==e.born)=false:=by simpa using hx
   rw[hb]
   rcases ao8.1 h with h|h
   ·subst h;exact absurd rfl hx
   ·exact FA l e h (fun y hy=>hu y (by simp[hy]))
theorem J8{n:Nat}{va:Bool}{m:Nat}{g:Nat->Value}{cs:List AV}(hm:cs.length=m)(h1:va=false->m=1)(h:∀ (j:Nat) (x:AV),cs[j]?=some x->PR gh.S w (g j) x):VR gh n w (qp va m g) (om va cs) :=
 Sb hm h1 (fun j x hj=>⟨VR.dropped (.plain _ _ (h j x hj)),(h j x hj).dX⟩)
theorem Fi{n ck kz i:Nat}{ka va:Bool}{E:Array MapEntry}{es:List (List AV)}{f:Nat->Nat->Value}(hE:uW E ck kz ka va es f)(cr:∀ (i j:Nat) (r:List AV) (x:AV),es[i]?=some r->r[j]?=some x->PR gh.S w (f i j) x)
  {e:MapEntry} {r:List AV} (he:E[i]?=some e) (hr:es[i]?=some r):VR gh n w e.key (om ka (r.take kz))/\VR gh n w e.val (om va (r.drop kz)):=by
 obtain⟨k1,k2,k3,k4,k5⟩:=hE.row i e r he hr
 rw[k4,k5]
 refine⟨J8 (by simp;omega) k2 (fun j x hj=>?_),J8 (by simp) (fun h=>by rw[k3 h];omega) (fun j x hj=>?_)⟩
 ·rw[apa] at hj
  split at hj
  ·exact cr i j r x hr hj
  ·cases hj
 ·rw[apq] at hj
  exact cr i (kz+j) r x hr hj
theorem KZ(hF:FR L nt gh w a s){t g kz:Nat}{ka va:Bool}{cur:List AV}{todo:List (List AV)}(ht:t<nt)(hT:s.T t=.iter g kz ka va cur todo):g<s.gen/\∃ b,fj a t=.pointer (some ⟨b,0,none⟩)/\uV gh w b (.bx t) kz ka va cur todo:=by
 have h:=hF.slot t ht
 rw[hT] at h
 exact h
theorem ZU(hW:aK G base s.H gh w)(hF:FR L nt gh w a s){o:Oper}{it:Operand}{y:an}{z:AV}{s' : Option AS}{cf:cu}(ho:o.op=.entry it)(hc:ak nt it=some y)(he:aq G cf s (.T5 y)=some (z,s')) :
  s'=none/\∃ v,(execOp a.eval o).run P w=.ok (.value v) w/\lZ gh s.H.length nt w s.T s.gen (fj a) v z:=by
 cases y with
 | tmp t =>
  obtain⟨rfl,ht⟩:=gK hc
  simp only[aq] at he
  split at he
  ·rename_i g kz ka va cur todo hT
   obtain⟨h0,he⟩:=ab he
   simp only[Bool.and_eq_true,Nat.ble_eq,apB,aqD] at h0
   simp only[aoQ,aoS] at he
   obtain⟨rfl,rfl⟩:=he
   obtain⟨_,b,hb,_,_,m,since,seen,last,hit,hm⟩:=KZ hF ht hT
   refine⟨rfl,?_⟩
   rcases hm with ⟨_,_,_,Po⟩|⟨m0,E,es,ck,f,rfl,hS,NF,hE,rfl,rfl,cr,Po,_⟩
   ·exact absurd Po h0.2
   ·rcases Po with ⟨_,Po⟩|⟨st,i,e,ko,YG,hbe,aiV⟩
    ·exact absurd Po h0.2
    ·obtain⟨v1,v2⟩:=Fi (n:=s.H.length) hE cr YG aiV
     have Py:e∈E.toList:=by
      have:E.toList[i]?=some e:=by rw[aps];exact YG
      exact ao0 this
     have afo:E.find? (fun x=>x.born==e.born)=some e:=by
      rw[<- Array.find?_toList]
      refine FA _ e Py (fun x hx hxb=>?_)
      obtain⟨j,hj⟩:=apw hx
      rw[aps] at hj
      have:=hE.apart j i x e hj YG hxb
      subst this
      rw[YG] at hj;injection hj with hj;exact hj.symm
     have l5:a.eval (.tmp t)=.pointer (some ⟨b,0,none⟩):=hb
     refine⟨.tuple #[e.key,e.val],?_,.cF (.tuple _ _ rfl (fun j u x hu hx=>?_))⟩
     ·subst hbe
      simp[execOp,ho,l5,Instr.entry,getObj,Sem.run,hit]
      simp[ko,NF,Sem.run,afo]
     ·match j with
      | 0=>injection hu with hu;injection hx with hx;subst hu hx;exact v1
      | 1=>injection hu with hu;injection hx with hx;subst hu hx;exact v2
      | j+2=>simp at hx
  ·cases he
 | _=>simp only[aq] at he;cases he
theorem MJ{E:Array MapEntry}{es:List (List AV)}{seen:Array Nat}{ck kz i:Nat}{ka va:Bool}{f:Nat->Nat->Value}(hE:uW E ck kz ka va es f){e:MapEntry}{r:List AV}(he:E[i]?=some e)(hr:es[i]?=some r)(hs:seen.contains e.born=false) :
  (((E.toList.zip es).filter fun p=>!seen.contains p.1.born).map (·.2)).Perm (r :: ((E.toList.zip es).filter fun p=>!(seen.push e.born).contains p.1.born).map (·.2)):=by
 have hz:(E.toList.zip es)[i]?=some (e,r):=by rw[aqs];exact⟨by rw[aps];exact he,hr⟩
 have h1:=GM (key:=fun p:MapEntry × List AV=>p.1.born) (E.toList.zip es) (e,r) (ao0 hz) (fun j k p q hj hk hpq=>by
  rw[aqs,aps] at hj hk
  exact hE.apart j k p.1 q.1 hj.1 hk.1 hpq)
 have h2:=h1.filter (fun p=>!seen.contains p.1.born)
 rw[aqx,if_pos (by show (!seen.contains e.born)=true;rw[hs];rfl),List.filter_filter] at h2
 have h3:=h2.map (·.2)
 rw[apm] at h3
 refine h3.trans (List.Perm.of_eq ?_)
 congr 2
 refine List.filter_congr fun p _=>?_
 by_cases hp:p.1.born=e.born
 ·simp[hp]
 ·simp[hp]
theorem Ue(hW:aK G base s.H gh w)(hF:FR L nt gh w a s){o:Oper}{it:Operand}{t g kz:Nat}{ka va:Bool}{cur:List AV}{todo:List (List AV)}(ho:o.op=.next it false)(hc:ak nt it=some (.tmp t))(hT:s.T t=.iter g kz ka va cur todo)(hL:t∈L)
  (hd:∀ k,o.dst=some k->k<nt) (K:Act->World->Prop) (Q:Exit->Act->World->Prop)
  (hK0:todo=[]->∀ v' aH w',Out G base nt L gh w a s o.dst (.tuple [.bool false]) s v' aH w'->K (a.put o.dst v') w')
  (Hh:∀ r rest,todo.Perm (r :: rest)->∀ v' aH w',Out G base nt L gh w a s o.dst (.tuple [.bool true,om ka (r.take kz),om va (r.drop kz)]) (s.br t (.iter g kz ka va r rest)) v' aH w'->K (a.put o.dst v') w'):o.wp P a w K Q:=by
 obtain⟨rfl,ht⟩:=gK hc
 obtain⟨hg,b,hb,hκ,hS,m,since,seen,last,hit,hm⟩:=KZ hF ht hT
 have l5:a.eval (.tmp t)=.pointer (some ⟨b,0,none⟩):=hb
 have Pq:∀ {n:Nat},VR gh n w (.tuple #[.bool false]) (.tuple [.bool false]):=fun {n}=>.tuple _ _ rfl (fun j u x hu hx=>by
  match j with
  | 0=>injection hu with hu;injection hx with hx;subst hu hx;exact .plain _ _ (.bool _)
  | j+1=>simp at hx)
 rcases hm with ⟨rfl,rfl,_,_⟩|⟨m0,E,es,ck,f,rfl,hSm,NF,hE,rfl,rfl,cr,_,AK⟩
 ·refine sm.wp (.inl ?_) (hK0 rfl (.tuple #[.bool false]) gh w (Out.pure hW hF hd (.cF Pq)))
  simp[execOp,ho,l5,Instr.next,getObj,Sem.run,hit]
 ·rcases run_next_at (P:=P) w o.type b m0 last last seen E last hit NF (fun x hx=>by
   obtain⟨j,hj⟩:=apw hx
   rw[aps] at hj
   exact hE.born j x hj) (aoU _) with ⟨hz,cz⟩|⟨e,hem,w1,hw1,cz⟩
  ·have Mp:todo=[]:=by
    have hl:((E.toList.zip es).filter fun p=>!seen.contains p.1.born)=[]:=by
     refine List.filter_eq_nil_iff.2 fun p hp bB=>?_
     have hpe:p.1∈E.toList:=(List.of_mem_zip (a:=p.1) (b:=p.2) hp).1
     have:p.1∈(leftOf E seen).toList:=by
      unfold leftOf
      simp only[Array.toList_filter,apK]
      exact⟨hpe,bB⟩
     have h0:(leftOf E seen).toList=[]:=List.eq_nil_of_length_eq_zero (by simpa using hz)
     rw[h0] at this
     cases this
    rw[hl] at AK
    exact AK.eq_nil
   refine sm.wp (.inl ?_) (hK0 Mp (.tuple #[.bool false]) gh w (Out.pure hW hF hd (.cF Pq)))
   simp[execOp,ho,l5,cz]
  ·unfold leftOf at hem
   simp only[Array.toList_filter,apK] at hem
   obtain⟨heE,NL⟩:=hem
   obtain⟨i,hi⟩:=apw heE
   rw[aps] at hi
   have Mm:i<es.length:=by rw[<- hE.size];exact (aoY.1 hi).1
   have hr:es[i]?=some es[i]:=aoT Mm
   have ajt:seen.contains e.born=false:=by simpa using NL
   have Kt:=MJ hE hi hr ajt
   have Pk:b<w.heap.size:=(aoY.1 hit).1
   have st:=zN (o:=.mapIter (some m0) last (seen.push e.born) last) hW hw1 Pk hS (fun C ty fr h=>by rw[hit] at h;cases h) s.H.length
   rw[hκ] at st
   have AA:(setBlock w1 b (.mapIter (some m0) last (seen.push e.born) last)).heap=w.heap.setIfInBounds b (.mapIter (some m0) last (seen.push e.born) last):=by rcases hw1 with rfl|rfl<;>rfl
   have gA:(setBlock w1 b (.mapIter (some m0) last (seen.push e.born) last)).heap.size=w.heap.size:=by rw[AA];simp
   have kR:aK G base s.H gh (setBlock w1 b (.mapIter (some m0) last (seen.push e.born) last)):=hW.step st (fun l=>⟨by simp,by simp⟩) (fun b o h=>by rw[gA];exact hW.mX b o h) (fun b h=>by rw[gA];exact hW.ow b h) (fun _ _ _ h=>.inl h)
   have YF:Ext s.H.length gh w gh (setBlock w1 b (.mapIter (some m0) last (seen.push e.born) last)):=⟨st.mono (fun r h=>by rw[h];simp[pg]),fun _ h=>h⟩
   have hIt:uV gh (setBlock w1 b (.mapIter (some m0) last (seen.push e.born) last)) b (.bx t) kz ka va es[i] (((E.toList.zip es).filter fun p=>!(seen.push e.born).contains p.1.born).map (·.2)):=by
    refine⟨hκ,hS,some m0,last,seen.push e.born,last,by rw[AA];simp[Pk],.inr ⟨m0,E,es,last,f,rfl,hSm,st.mp _ _ _ hSm NF,hE,rfl,rfl,fun i j r x h1 h2=>(cr i j r x h1 h2).mono st.S st.cell st.mp,.inr ⟨e.born,i,e,by simp,hi,rfl,hr⟩,List.Perm.refl _⟩⟩
   have zB:FR L nt gh (setBlock w1 b (.mapIter (some m0) last (seen.push e.born) last)) a (s.br t (.iter g kz ka va es[i] (((E.toList.zip es).filter fun p=>!(seen.push e.born).contains p.1.born).map (·.2)))) :=
    hF.br (H':=s.H) (lo':=s.lo) st (aoU _) (fun i hi=>⟨by simpa using hi,by simp,by simp⟩) (.inl ⟨ht,by rw[hT];rfl⟩) (fun _=>⟨hg,b,hb,hIt⟩)
   obtain⟨v1,v2⟩:=Fi (n:=s.H.length) hE cr hi hr
   have hv:VR gh s.H.length (setBlock w1 b (.mapIter (some m0) last (seen.push e.born) last)) (.tuple #[.bool true,e.key,e.val]) (.tuple [.bool true,om ka (es[i].take kz),om va (es[i].drop kz)]):=by
    refine .tuple _ _ rfl (fun j u x hu hx=>?_)
    match j with
    | 0=>injection hu with hu;injection hx with hx;subst hu hx;exact .plain _ _ (.bool _)
    | 1=>injection hu with hu;injection hx with hx;subst hu hx;exact v1.mono st (aoU _)
    | 2=>injection hu with hu;injection hx with hx;subst hu hx;exact v2.mono st (aoU _)
    | j+3=>simp at hx
   have hO:Out G base nt L gh w a s o.dst (.tuple [.bool true,om ka (es[i].take kz),om va (es[i].drop kz)]) (s.br t (.iter g kz ka va es[i] (((E.toList.zip es).filter fun p=>!(seen.push e.born).contains p.1.born).map (·.2)))) (.tuple #[.bool true,e.key,e.val]) gh (setBlock w1 b (.mapIter (some m0) last (seen.push e.born) last)) :=
    Out.of (s1:=s.br t (.iter g kz ka va es[i] (((E.toList.zip es).filter fun p=>!(seen.push e.born).contains p.1.born).map (·.2)))) (gen':=s.gen) kR zB YF (aoU _) hd (.inl rfl) (fun k hk=>lx rfl (.inl hv))
   refine sm.wp (.inl ?_) (Hh es[i] _ (AK.trans Kt) (.tuple #[.bool true,e.key,e.val]) gh _ hO)
   simp[execOp,ho,l5,cz]
end
end
end Go.Abs
namespace Go.Abs
section
section
variable {P:Program}{G:Nat->List AV}{base nt:Nat}{L:List Nat}{gh jP:Gh}{w w' : World}{a:Act}{s:AS}{H:ah}
theorem wU{α:Type}{sz:Nat} : ∀ (e:List (List α)) (idx:Nat) (x:α),(∀ r∈e,r.length=sz)->e.flatten[idx]?=some x->∃ i j r,e[i]?=some r/\r[j]?=some x/\idx=i*sz+j
 | [],_,_,_,h=>by simp at h
 | r :: e,idx,x,hr,h=>by
  rw[apJ] at h
  by_cases hl:idx<r.length
  ·rw[ao7 hl] at h;exact⟨0,idx,r,rfl,h,by simp⟩
  ·rw[ao5 (by omega)] at h
   obtain⟨i,j,r',h1,h2,h3⟩:=wU e _ x (fun r h=>hr r (by simp[h])) h
   have:=hr r (by simp)
   exact⟨i+1,j,r',by simpa using h1,h2,by rw[apy];omega⟩
theorem nr{α:Type}{sz:Nat} : ∀ (e:List (List α)),(∀ r∈e,r.length=sz)->e.flatten.length=e.length*sz
 | [],_=>by simp
 | r :: e,hr=>by
  have:=hr r (by simp)
  have ih:=nr e (fun r h=>hr r (by simp[h]))
  simp only[apJ,ao6,List.length_cons,apy];omega
theorem ue{l m:Nat}{x:AV}(h:gH l x=true)(hl:l<=m):gH m x=true:=by
 cases x<;>first|exact h|(simp only[gH,Nat.ble_eq] at h ⊢;omega)
theorem vV{l m:Nat}{x:AV}(h:kJ l x=true)(hl:l<=m):kJ m x=true:=by
 unfold kJ at h ⊢
 split
 ·exact aoV.2 fun y hy=>ue (aoV.1 h y hy) hl
 ·rename_i hn
  split at h
  ·exact absurd rfl (hn _)
  ·exact ue h hl
theorem FP{l m:Nat}{x:AV}(h:aV l x=true)(hl:l<=m):aV m x=true:=by
 cases x
 case func f fs cs =>
  simp only[aV,Bool.and_eq_true,aoV] at h ⊢
  exact⟨fun y hy=>vV (h.1 y hy) hl,fun y hy=>vV (h.2 y hy) hl⟩
 all_goals first|exact h|(simp only[aV,Nat.ble_eq] at h ⊢;omega)
theorem aK.arr(hW:aK G base H gh w){aH:Gh}{touch:ba->Prop}(st:Step touch H.length gh w aH w'){H' : ah}(hlen:H'.length=H.length)
  (hold:∀ (loc:Nat) (o:cj),H'[loc]?=some o->(H[loc]?=some o/\¬ touch (.hb loc)/\∀ j,¬ touch (.hs loc j))\/o=.dead)
  (hs:∀ b o,aH.S b o->gh.S b o) (hk:∀ b,aH.κ b≠.none->base<=b/\b<w'.heap.size) {cs:List AV}
  (hB:gF aH (H.length+1) w' (aH.ρ H.length) (.hb H.length) (fun j=>.hs H.length j) cs) (hr:cs.all (aV H.length)=true):aK G base (H'++[.box aJ cs]) aH w':=by
 have last:∀ {loc:Nat} {o:cj},(H'++[cj.box aJ cs])[loc]?=some o->(loc<H.length/\H'[loc]?=some o)\/(loc=H.length/\o=.box aJ cs):=by
  intro loc o hl
  by_cases aU:loc<H'.length
  ·rw[ao7 aU] at hl;exact .inl ⟨by omega,hl⟩
  ·rw[ao5 (by omega)] at hl
   have hz:loc=H'.length:=by
    have:=(aoR.1 hl).1
    simp at this;omega
   subst hz
   simp at hl
   exact .inr ⟨hlen,hl.symm⟩
 have pO:(H'++[cj.box aJ cs]).length=H.length+1:=by simp[hlen]
 refine⟨apV hW.size st.size,fun b o ho=>aqk (hW.mX b o (hs b o ho)) st.size,hk,fun g j x hx=>?_,fun loc ty ds hl=>?_,fun loc ty ds hl=>?_,fun g hg=>(hW.wL g hg).imp fun ty h=>st.len g ty _ h,hW.j4 st (fun b o m h=>.inl (hs b o h)),fun loc o hl=>?_,fun loc ty ds hl hf=>?_⟩
 ·obtain⟨v,h1,h2,h3⟩:=hW.aN g j x hx
  exact⟨v,(st.cell g j h3).trans h1,h2.mono st.S st.cell st.mp,st.S g j h3⟩
 ·rw[pO]
  rcases last hl with ⟨aU,hl⟩|⟨rfl,ho⟩
  ·rcases hold loc _ hl with ⟨h0,h1,h2⟩|h0
   ·rw[st.ρ loc aU];exact (hW.boxes loc ty ds h0).mono st (apH _) h1 h2
   ·cases h0
  ·injection ho with e1 e2
   subst e1 e2
   exact hB
 ·rcases last hl with ⟨aU,hl⟩|⟨rfl,ho⟩
  ·rcases hold loc _ hl with ⟨h0,_⟩|h0
   ·exact hW.refs loc ty ds h0
   ·cases h0
  ·injection ho with e1 e2
   subst e1 e2
   exact hr
 ·rw[pO]
  rcases last hl with ⟨aU,hl⟩|⟨rfl,rfl⟩
  ·rcases hold loc _ hl with ⟨h0,h1,h2⟩|rfl
   ·rw[st.ρ loc aU];exact (hW.more loc o h0).mono st (apH _) h1 h2
   ·trivial
  ·trivial
 ·rcases last hl with ⟨aU,hl⟩|⟨rfl,ho⟩
  ·rcases hold loc _ hl with ⟨h0,_⟩|h0
   ·rw[st.ρ loc aU];exact st.len _ _ _ (hW.types loc ty ds h0 hf)
   ·cases h0
  ·injection ho with e1 e2
   exact absurd e1 hf
def Gh.rename(gh:Gh)(l n b:Nat):Gh where
 S:=gh.S
 κ:=fun x=>match gh.κ x with
  | .hb i=>if i=l then .hb n else .hb i
  | .hs i j=>if i=l then .hs n j else .hs i j
  | k=>k
 ρ:=fun i=>if i=n then b else gh.ρ i
theorem SM{l n b x:Nat}(h:gh.κ x≠.hb l/\∀ j,gh.κ x≠.hs l j):(gh.rename l n b).κ x=gh.κ x:=by
 simp only[Gh.rename]
 generalize gh.κ x=k at h
 cases k with
 | hb i=>simp only;rw[if_neg (fun e=>h.1 (by rw[e]))]
 | hs i j=>simp only;rw[if_neg (fun e=>h.2 j (by rw[e]))]
 | _=>rfl
theorem wo{l n b x:Nat} : (gh.rename l n b).κ x=.none↔gh.κ x=.none:=by
 simp only[Gh.rename]
 generalize gh.κ x=k
 cases k with
 | hb i=>simp only;split<;>simp
 | hs i j=>simp only;split<;>simp
 | _=>simp
theorem qb{l n b x:Nat} : (gh.rename l n b).κ x=.outer↔gh.κ x=.outer:=by
 simp only[Gh.rename]
 generalize gh.κ x=k
 cases k with
 | hb i=>simp only;split<;>simp
 | hs i j=>simp only;split<;>simp
 | _=>simp
def iS(l:Nat)(r:ba):Prop:=r=.hb l\/∃ j,r=.hs l j
theorem Step.renamed{touch:ba->Prop}{m l n b:Nat}(st:Step touch m gh w jP w')(hn:m<=n)(ht:∀ r,touch r->iS l r):Step (iS l) m gh w (jP.rename l n b) w':=by
 refine⟨st.S,st.cell,st.size,st.os,st.tape,st.output,fun x hx jg=>?_,fun x hx=>?_,fun loc hl=>?_,st.len,st.mp⟩
 ·obtain⟨k1,k2,k3⟩:=st.zi x hx (fun h=>jg (ht _ h))
  refine⟨k1,?_,k3⟩
  rw[SM (by rw[k2];exact⟨fun h=>jg (.inl h),fun j h=>jg (.inr ⟨j,h⟩)⟩),k2]
 ·intro h
  exact st.fresh x hx (qb.1 h)
 ·show (if loc=n then _ else _)=_
  rw[if_neg (by omega)]
  exact st.ρ loc hl
theorem CR.rename{m m' l n b j:Nat}{v:Value}{x:AV}(h:CR gh m w (.hs l j) v x)(hf:∀ b,w.heap.size<=b->gh.κ b≠.outer)(hm:m<=n)(YS:m<=m'):CR (gh.rename l n b) m' w (.hs n j) v x:=by
 have st:Step (iS l) m gh w (gh.rename l n b) w:=Step.renamed (touch:=fun _=>False) (Step.refl _ _ _ _ hf) hm (fun _ h=>h.elim)
 rcases h with h|⟨e,rfl,h1,b',cap,C,ty,lo,hi,sz,hv,hk,he,hb,hC,hr,hl,hh,hS⟩
 ·exact .inl (h.mono st YS)
 ·exact .inr ⟨e,rfl,h1,b',cap,C,ty,lo,hi,sz,hv,by simp[Gh.rename,hk],he,hb,hC,hr,hl,hh,hS⟩
theorem y9(l:Nat)(i:Nat):¬ iS l (.bx i)/\¬ iS l (.sl i)/\∀ j,¬ iS l (.sc i j):=by
 refine⟨?_,?_,fun j=>?_⟩<;>(rintro (h|⟨_,h⟩)<;>cases h)
theorem Dk(l:Nat)(r:ba)(h:iS l r):pg r:=by
 rcases h with rfl|⟨j,rfl⟩<;>exact⟨by simp,by simp⟩
theorem Out.arr(hF:FR L nt gh w a s){d:Option Nat}(hd:∀ k,d=some k->k<nt){aH:Gh}{l:Nat}(st:Step (iS l) s.H.length gh w aH w')(ho:∀ b,aH.κ b=.outer->gh.κ b=.outer){H' : ah}{lo k cap z:Nat}(hlen:H'.length=s.H.length){cs:List AV}
  (hW:aK G base (H'++[.box aJ cs]) aH w') (hk:k<=cap) (hz:∃ ty,pq w' (aH.ρ s.H.length) ty (0+cap*z)) :
  Out G base nt L gh w a s d (.sref s.H.length 0 k z) (s.fp ⟨H'++[.box aJ cs],lo⟩) (.slice (some ⟨aH.ρ s.H.length,0,none⟩) k cap) aH w':=by
 have hv:VR aH (H'++[cj.box aJ cs]).length w' (.slice (some ⟨aH.ρ s.H.length,0,none⟩) k cap) (.sref s.H.length 0 k z):=.sref _ 0 k cap z (by simp[hlen]) hk (fun _=>hz)
 exact⟨hW,hF.put st (y9 l) (by simp[hlen]) d hd (.cF hv),⟨st.mono (Dk l),ho⟩⟩
theorem rQ{sz:Nat}{A:Array Value}{E:List (List AV)}{S:Nat->Nat->Prop}(h:ik S w sz A E){j:Nat}{x:AV}(hx:E.flatten[j]?=some x):∃ v,A[j]?=some v/\PR S w v x:=by
 obtain⟨i,k,r,h1,h2,rfl⟩:=wU E j x (fun r hm=>by obtain⟨i,hi⟩:=apw hm;exact h.2.1 i r hi) hx
 exact h.2.2 i k r x h1 h2
theorem A2{n:Nat}{p:ba}{V:Value}(h:CR gh n w p V (.slice [] true)):∃ ao,V=.slice ao 0 0:=by
 rcases h with h|⟨e',heq,_,b,cap,C,ty,lo,hi,ja,gE,hk,bB,_⟩
 ·cases h with
  | plain _ _ h=>cases h
  | full ao k _ h hz =>
   cases h with
   | cT=>exact⟨none,rfl⟩
   | slice b o _ _ ja _ _ hn=>simp at hn;subst hn;exact⟨_,rfl⟩
 ·injection heq with h1;subst h1;exact absurd rfl bB
theorem Yc{t e:TypeId}{sz:Nat}(ht:P.underlying t=some (.slice e))(ao:Option Addr):Src P sz t (.slice ao 0 0) 0 [] w:=by
 refine⟨.inl ⟨_,ht⟩,fun _=>rfl,?_,?_,by simp,fun _ h=>by cases h⟩
 ·cases ao with
  | none=>exact run_firstCells_none w _ 0 0 0
  | some ad=>exact run_firstCells_some w _ 0 ad 0 0 [] (by simp) (fun j v h=>by simp at h)
 ·cases ao with
  | none=>exact run_firstCells_none w.drew _ 0 0 0
  | some ad=>exact run_firstCells_some w.drew _ 0 ad 0 0 [] (by simp) (fun j v h=>by simp at h)
theorem oA{f:List (List AV)}(h:cC f=true){x:AV}(hx:x∈f.flatten):x.plain=true:=by
 obtain⟨r,hr,hx⟩:=aqY.1 hx
 exact aoV.1 (aoV.1 h r hr) x hx
theorem lB{x:AV}(h:x.plain=true)(n:Nat):aV n x=true:=qR h
theorem Fl(hW:aK G base s.H gh w)(hF:FR L nt gh w a s){o:Oper}{c:Call}{x y:Operand}{t u e:TypeId}{sz bytes:Nat}{yx yy:an}{z:AV}{s' : Option AS}
  (ho:o.op=.call c) (gf:c.callee=.builtin .append) (dy:c.args.toList=[x,y]) (jl:c.argTypes.toList=[t,u]) (hT:vG P t e sz bytes) (hu:(∃ e',P.underlying u=some (.slice e'))\/P.underlying u=some .string)
  (mz:ak nt x=some yx) (vU:ak nt y=some yy) (he:gU s sz bytes (yx.addr G s.T) (yy.eval G s.T)=some (z,s')) (hd:∀ k,o.dst=some k->k<nt) :
  ∃ v' aH w',sm P a o w v' w'/\Out G base nt L gh w a s o.dst z (s'.getD s) v' aH w':=by
 have dA:=fun b hb=>hW.bG (gh:=gh) b hb
 simp only[gU,aoP] at he
 obtain⟨f,hf,he⟩:=he
 obtain⟨i,zv,hi,_,rfl,_⟩:=hT.hi
 have fresh:∀ ao,a.eval x=.slice ao 0 0->cond (!f.isEmpty&&cw i.size bytes [] f&&cC f) (some (AV.sref s.H.length 0 f.length i.size,some (s.fp ⟨s.H++[.box aJ f.flatten],s.H.length⟩))) none=some (z,s') ->
   ∃ v' aH w',sm P a o w v' w'/\Out G base nt L gh w a s o.dst z (s'.getD s) v' aH w':=by
  intro ao hV he
  obtain⟨h0,he⟩:=ab he
  simp only[aoQ,aoS] at he
  obtain⟨rfl,rfl⟩:=he
  simp only[Bool.and_eq_true,cw,Nat.ble_eq,List.length_nil,Nat.zero_add,apB,aqD] at h0
  obtain⟨⟨bB,⟨⟨ze,iO⟩,_⟩,hh⟩,mf⟩:=h0
  obtain⟨news,hs,cN⟩:=sh (P:=P) hW hF vU hf hh hu
  have akQ:0<f.length:=apF.2 bB
  obtain⟨tL,C',cz,jC,IE,FU⟩:=grow (P:=P) (ty:=o.type) (ao:=ao) (sLen:=0) (sCap:=0) hT (Yc (w:=w) hT.ht ao).cellsD (by simp) hs (by omega) (by omega) (by simpa using ze)
  have jQ:dJ w (w.drew.alloc (.cells C' e)) (.cells C' e):=.drew w _
  have y5:=fF hW jQ
  have st:Step (iS s.H.length) s.H.length gh w (gh.bd w.heap.size s.H.length) (w.drew.alloc (.cells C' e)):=y5.mono (fun _ h=>h.elim)
  have hρ:(gh.bd w.heap.size s.H.length).ρ s.H.length=w.heap.size:=by simp[Gh.bd]
  have afp:f.flatten.length<=C'.size:=by
   have h1:f.flatten.length=f.length*i.size:=nr f (fun r hm=>by obtain⟨k,hk⟩:=apw hm;exact cN.2.1 k r hk)
   rw[h1,IE]
   exact apl _ (by omega)
  have hB:gF (gh.bd w.heap.size s.H.length) (s.H.length+1) (w.drew.alloc (.cells C' e)) ((gh.bd w.heap.size s.H.length).ρ s.H.length) (.hb s.H.length) (fun j=>.hs s.H.length j) f.flatten:=by
   rw[hρ]
   refine⟨by simp[Gh.bd,Gh.alloc],?_,C',e,jQ.new,afp,fun j v x hv hx=>?_⟩
   ·rintro o (ho|⟨_,ho⟩)
    ·have:=hW.mX _ o ho;omega
    ·exact ho
   ·obtain⟨v',tE,hp⟩:=rQ cN hx
    have aU:=(aoY.1 tE).1
    rw[FU j (by simpa using aU)] at hv
    simp only[apv] at hv
    rw[tE] at hv
    injection hv with hv
    subst hv
    exact⟨hp.dX,.inl (.plain _ _ (hp.mono st.S st.cell st.mp))⟩
  have hr:f.flatten.all (aV s.H.length)=true:=aoV.2 fun x hx=>lB (oA mf hx) _
  have kR:=hW.arr y5 (H':=s.H) rfl (fun loc o h=>.inl ⟨h,id,fun _=>id⟩) (fun b o h=>h.elim id (fun h=>h.2.elim)) (fun b hb=>by
   rw[jQ.size]
   have fP:(if b=w.heap.size then ba.hb s.H.length else gh.κ b)≠.none:=hb
   split at fP
   ·have:=hW.size;omega
   ·have:=hW.ow b fP;omega) hB hr
  refine⟨_,gh.bd w.heap.size s.H.length,w.drew.alloc (.cells C' e),.inl (fS ho gf dy jl (by rw[hV];exact cz)),?_⟩
  have:=Out.arr (lo:=s.H.length) (k:=0+f.length) (cap:=tL) (z:=i.size) hF hd st (fun b hb=>(jq hW jQ).out b hb) rfl kR jC ⟨e,by rw[hρ];exact⟨C',(0,0),jQ.new,by rw[IE,Nat.zero_add]⟩⟩
  rw[hρ,Nat.zero_add] at this
  rw[Nat.zero_add]
  exact this
 split at he
 ·rename_i hx
  have kD:∃ p,CR gh s.H.length w p (a.eval x) (.slice [] true):=by
   cases yx with
   | tmp t0 =>
    obtain⟨rfl,ht⟩:=gK mz
    have FL:s.T t0=.slice [] true:=by
     simp only[an.addr] at hx
     split at hx<;>first|cases hx|exact hx
    exact⟨_,Bw hF ht FL⟩
   | cg v =>
    simp only[an.addr] at hx
    subst hx
    cases x with
    | tmp k =>
     simp only[ak] at mz
     rcases apE (Nat.blt k nt) with hb|hb<;>rw[hb] at mz<;>simp at mz
    | const u =>
     simp only[ak,aoO] at mz
     obtain⟨zz,hz,h⟩:=mz
     injection h with h
     subst h
     exact⟨.none,.inl (iD hz)⟩
    | global g=>simp[ak] at mz
    | func f=>simp[ak] at mz
   | aN g=>simp[an.addr] at hx
   | fn f=>simp[an.addr] at hx
  obtain⟨_,kD⟩:=kD
  obtain⟨ao,hV⟩:=A2 kD
  exact fresh ao hV he
 ·rename_i hx
  exact fresh none (mD hW hF mz hx rfl).kq he
 ·rename_i l of n zz hx
  split at he
  ·rename_i ty cs hH
   obtain⟨h0,he⟩:=ab he
   simp only[aoQ,aoS] at he
   obtain⟨rfl,rfl⟩:=he
   simp only[Bool.and_eq_true,dR,apc,Nat.ble_eq] at h0
   obtain⟨⟨⟨⟨⟨⟨rfl,rfl⟩,fi⟩,ze⟩,iO⟩,hh⟩,mf⟩:=h0
   obtain⟨news,hs,cN⟩:=sh (P:=P) hW hF vU hf hh hu
   obtain⟨aU,cap,ak1,hzB,hV⟩:=VR.jn (mD hW hF mz hx rfl)
   obtain⟨tyb,Cb,frb,Mf,hCb⟩:=hzB (by have:=hT.pos;omega)
   obtain⟨hκ,hS,C,NT,hb,hle,cL⟩:=hW.boxes l ty cs hH
   rw[hb] at Mf
   injection Mf with Mf
   injection Mf with e1 e2 e3
   subst e1 e2 e3
   rw[Nat.zero_add] at hCb
   have ug:(C.toList.take (n*i.size)).length=n*i.size:=by simp;omega
   have hold:∀ {j:Nat} {x:AV},cs[j]?=some x->∃ v,C[j]?=some v/\v.oneCell'=true/\CR gh s.H.length w (.hs l j) v x:=by
    intro j x hj
    have h1:=(aoR.1 hj).1
    have hv:C[j]?=some C[j]:=ao2 (by omega)
    obtain⟨k1,k2⟩:=cL j _ x hv hj
    exact⟨_,hv,k1,k2⟩
   have fL:∀ v∈C.toList.take (n*i.size),v.oneCell'=true:=by
    intro v hv
    obtain⟨j,hj⟩:=apw hv
    have h1:j<n*i.size:=by rw[<- ug];exact (aoR.1 hj).1
    rw[apa,if_pos h1] at hj
    obtain⟨v',k1,k2,_⟩:=hold (aoT (show j<cs.length by omega))
    rw[aps,k1] at hj
    injection hj with hj
    subst hj
    exact k2
   have PJ:Src P i.size t (.slice (some ⟨gh.ρ l,0,none⟩) n cap) n (C.toList.take (n*i.size)) w:=.ofSlice w hT.ht ⟨gh.ρ l,0,none⟩ n cap _ ug (fun j u hj=>by
    rw[gv,Nat.zero_add,cell_of_row w _ j C NT _ hb]
    rw[apa] at hj
    split at hj
    ·simpa using hj
    ·cases hj) fL
   have IS:news.length=f.length*i.size:=hs.newsLen
   have qw:f.flatten.length=f.length*i.size:=nr f (fun r hm=>by obtain⟨k,hk⟩:=apw hm;exact cN.2.1 k r hk)
   have hrefs:(cs++f.flatten).all (aV s.H.length)=true:=by
    rw[are,Bool.and_eq_true]
    refine⟨aoV.2 fun x hx=>?_,aoV.2 fun x hx=>lB (oA mf hx) _⟩
    exact FP (aoV.1 (hW.refs l ty cs hH) x hx) (by omega)
   have YJ:∀ {touch:ba->Prop},(∀ r,touch r->iS l r)->∀ (loc:Nat) (o:cj),(s.H.set l .dead)[loc]?=some o->(s.H[loc]?=some o/\¬ touch (.hb loc)/\∀ j,¬ touch (.hs loc j))\/o=.dead:=by
    intro touch ht loc o h
    rw[apr] at h
    split at h
    ·injection h with h;exact .inr h.symm
    ·rename_i bB
     refine .inl ⟨h,fun k=>?_,fun j k=>?_⟩
     ·rcases ht _ k with k|⟨_,k⟩
      ·injection k with k;exact bB k.symm
      ·cases k
     ·rcases ht _ k with k|⟨_,k⟩
      ·cases k
      ·injection k with k;exact bB k.symm
   by_cases hgr:cap<n+f.length
   ·
    obtain⟨tL,C',cz,jC,IE,FU⟩:=grow (P:=P) (ty:=o.type) hT PJ.cellsD ug hs hgr iO ze
    have jQ:dJ w (w.drew.alloc (.cells C' e)) (.cells C' e):=.drew w _
    have y5:=gT hW jQ (p:=.hb l) (by simp) (fun _=>False) s.H.length
    have st:=y5.renamed (n:=s.H.length) (b:=w.heap.size) (l:=l) (aoU _) (fun _ h=>h.elim)
    have hρ:((gh.alloc w.heap.size (.hb l) fun _=>False).rename l s.H.length w.heap.size).ρ s.H.length=w.heap.size:=by simp[Gh.rename]
    have aas:∀ b,(w.drew.alloc (.cells C' e)).heap.size<=b->(gh.alloc w.heap.size (.hb l) fun _=>False).κ b≠.outer:=fun b hb=>by
     have hb0:=jQ.size ▸ hb
     show (if b=w.heap.size then ba.hb l else gh.κ b)≠_
     rw[if_neg (by omega)]
     exact hW.bG b (by omega)
    have hB:gF ((gh.alloc w.heap.size (.hb l) fun _=>False).rename l s.H.length w.heap.size) (s.H.length+1) (w.drew.alloc (.cells C' e)) (((gh.alloc w.heap.size (.hb l) fun _=>False).rename l s.H.length w.heap.size).ρ s.H.length) (.hb s.H.length) (fun j=>.hs s.H.length j) (cs++f.flatten):=by
     rw[hρ]
     refine⟨by simp[Gh.rename,Gh.alloc],?_,C',e,jQ.new,?_,fun j v x hv hx=>?_⟩
     ·rintro o (ho|⟨_,ho⟩)
      ·have:=hW.mX _ o ho;omega
      ·exact ho
     ·rw[ao6,fi,qw,IE,<- apy]
      exact apl _ jC
     ·have hj:j<(C.toList.take (n*i.size)++news).toArray.size:=by
       have:=(aoR.1 hx).1
       rw[ao6,fi,qw] at this
       simp only[aqg,ao6,ug,IS];exact this
      rw[FU j hj] at hv
      simp only[ape,apU,ug] at hv
      rw[apU,fi] at hx
      split at hv
      ·rename_i h1
       rw[if_pos h1] at hx
       obtain⟨v',k1,k2,k3⟩:=hold hx
       rw[apa,if_pos h1,aps,k1] at hv
       injection hv with hv
       subst hv
       exact⟨k2,(k3.mono y5 (aoU _) id).rename aas (aoU _) (apH _)⟩
      ·rename_i h1
       rw[if_neg h1] at hx
       obtain⟨v',k1,k2⟩:=rQ cN hx
       simp only[ape] at k1
       rw[k1] at hv
       injection hv with hv
       subst hv
       exact⟨k2.dX,.inl (.plain _ _ (k2.mono st.S st.cell st.mp))⟩
    have kR:=hW.arr st (H':=s.H.set l .dead) (by simp) (YJ (fun _ h=>h)) (fun b o h=>h.elim id (fun h=>h.2.elim)) (fun b hb=>by
     rw[jQ.size]
     have ze:(gh.alloc w.heap.size (.hb l) fun _=>False).κ b≠.none:=fun h=>hb (wo.2 h)
     have fP:(if b=w.heap.size then ba.hb l else gh.κ b)≠.none:=ze
     split at fP
     ·have:=hW.size;omega
     ·have:=hW.ow b fP;omega) hB hrefs
    refine⟨_,(gh.alloc w.heap.size (.hb l) fun _=>False).rename l s.H.length w.heap.size,w.drew.alloc (.cells C' e),.inl (fS ho gf dy jl (by rw[hV];exact cz)),?_⟩
    have:=Out.arr (lo:=l) (k:=n+f.length) (cap:=tL) (z:=i.size) hF hd st (fun b hb=>by
     have ze:=qb.1 hb
     have fP:(if b=w.heap.size then ba.hb l else gh.κ b)=.outer:=ze
     split at fP
     ·cases fP
     ·exact fP) (by simp) kR jC ⟨e,by rw[hρ];exact⟨C',(0,0),jQ.new,by rw[IE,Nat.zero_add]⟩⟩
    rw[hρ] at this
    exact this
   ·
    have nw:n+f.length<=cap:=by omega
    have jd:n*i.size+news.length<=C.size:=by rw[IS,hCb,<- apy];exact apl _ nw
    have cz:=room (P:=P) (ty:=o.type) hT hs hb (apZ _) nw jd
    have kW:n*i.size+news.toArray.size<=C.size:=by simpa using jd
    have jg:∀ o,gh.S (gh.ρ l) o->(fa C (n*i.size) news.toArray)[o]?=C[o]?:=fun o ho=>(hS o ho).elim
    have y5:=mW hW hb (cV kW) jg s.H.length
    rw[hκ] at y5
    have st:=y5.renamed (n:=s.H.length) (b:=gh.ρ l) (l:=l) (aoU _) (fun r h=>.inl h)
    have hρ:(gh.rename l s.H.length (gh.ρ l)).ρ s.H.length=gh.ρ l:=by simp[Gh.rename]
    have gA:(w.setRow (gh.ρ l) (fa C (n*i.size) news.toArray)).heap.size=w.heap.size:=by simp
    have Pk:gh.ρ l<w.heap.size:=(aoY.1 hb).1
    have aas:∀ b,(w.setRow (gh.ρ l) (fa C (n*i.size) news.toArray)).heap.size<=b->gh.κ b≠.outer:=fun b hb=>hW.bG b (by rw[gA] at hb;exact hb)
    have hB:gF (gh.rename l s.H.length (gh.ρ l)) (s.H.length+1) (w.setRow (gh.ρ l) (fa C (n*i.size) news.toArray)) ((gh.rename l s.H.length (gh.ρ l)).ρ s.H.length) (.hb s.H.length) (fun j=>.hs s.H.length j) (cs++f.flatten):=by
     rw[hρ]
     refine⟨by simp[Gh.rename,hκ],hS,_,NT,setRow_heap w _ C _ NT _ hb,?_,fun j v x hv hx=>?_⟩
     ·rw[ao6,fi,qw,cV kW,hCb,<- apy]
      exact apl _ nw
     ·rw[jr kW] at hv
      have Dr:=(aoR.1 hx).1
      rw[ao6,fi,qw] at Dr
      rw[apU,fi] at hx
      simp only[aqg] at hv
      split at hx
      ·rename_i h1
       rw[if_neg (by omega)] at hv
       obtain⟨v',k1,k2,k3⟩:=hold hx
       rw[k1] at hv
       injection hv with hv
       subst hv
       exact⟨k2,(k3.mono y5 (aoU _) (by simp)).rename aas (aoU _) (apH _)⟩
      ·rename_i h1
       rw[if_pos (by omega)] at hv
       obtain⟨v',k1,k2⟩:=rQ cN hx
       rw[k1] at hv
       injection hv with hv
       subst hv
       exact⟨k2.dX,.inl (.plain _ _ (k2.mono st.S st.cell st.mp))⟩
    have kR:=hW.arr st (H':=s.H.set l .dead) (by simp) (YJ (fun _ h=>h)) (fun b o h=>h) (fun b hb=>by
     rw[gA]
     exact hW.ow b (fun h=>hb (wo.2 h))) hB hrefs
    refine⟨_,gh.rename l s.H.length (gh.ρ l),w.setRow (gh.ρ l) (fa C (n*i.size) news.toArray),.inl (fS ho gf dy jl (by rw[hV];exact cz)),?_⟩
    have:=Out.arr (lo:=l) (k:=n+f.length) (cap:=cap) (z:=i.size) hF hd st (fun b hb=>qb.1 hb) (by simp) kR nw ⟨NT,by rw[hρ];exact⟨_,(0,0),setRow_heap w _ C _ NT _ hb,by rw[cV kW,hCb,Nat.zero_add]⟩⟩
    rw[hρ] at this
    exact this
  ·cases he
 ·cases he
theorem Ie(hW:aK G base s.H gh w)(hF:FR L nt gh w a s){o:Oper}{c:Call}{x y:Operand}{t u e:TypeId}{sz bytes:Nat}{yx yy:an}{z:AV}{s' : Option AS}
  (ho:o.op=.call c) (gf:c.callee=.builtin .append) (dy:c.args.toList=[x,y]) (jl:c.argTypes.toList=[t,u]) (hT:vG P t e sz bytes) (hu:(∃ e',P.underlying u=some (.slice e'))\/P.underlying u=some .string)
  (mz:ak nt x=some yx) (vU:ak nt y=some yy) (he:il s sz bytes (yx.addr G s.T) (yy.eval G s.T)=some (z,s')) (hd:∀ k,o.dst=some k->k<nt) :
  ∃ v' aH w',sm P a o w v' w'/\Out G base nt L gh w a s o.dst z (s'.getD s) v' aH w':=by
 unfold il at he
 split at he
 ·rename_i v hn
  simp only[aoQ,aoS] at he
  obtain⟨rfl,rfl⟩:=he
  obtain⟨i,zv,hi,_,rfl,_⟩:=hT.hi
  have Mu:((∃ o,yy.eval G s.T=.slice [] o)\/yy.eval G s.T=.ae)->∃ news,Src P i.size u (a.eval y) 0 news w:=by
   rintro (⟨o,hY⟩|hY)
   ·obtain⟨news,k1,_⟩:=sh (P:=P) (sz:=i.size) (f:=[]) hW hF vU (by rw[hY];rfl) rfl hu
    exact⟨news,k1⟩
   ·rw[(bY hW hF vU hY rfl).kq]
    refine⟨[],hu,fun _=>rfl,run_firstCells_none w _ 0 0 0,run_firstCells_none w.drew _ 0 0 0,by simp,fun _ h=>by cases h⟩
  have key:(∃ ao,a.eval x=.slice ao 0 0/\VR gh s.H.length w (a.eval x) v)/\((∃ o,yy.eval G s.T=.slice [] o)\/yy.eval G s.T=.ae):=by
   generalize hY:yy.eval G s.T=Y at hn
   generalize hX:yx.addr G s.T=X at hn
   unfold Gq at hn
   split at hn
   ·have nM:∃ ao,a.eval x=.slice ao 0 0:=by
     have kD:∃ p,CR gh s.H.length w p (a.eval x) (.slice [] true):=by
      cases yx with
      | tmp t0 =>
       obtain⟨rfl,ht⟩:=gK mz
       have FL:s.T t0=.slice [] true:=by
        simp only[an.addr] at hX
        split at hX<;>first|cases hX|exact hX
       exact⟨_,Bw hF ht FL⟩
      | cg v =>
       simp only[an.addr] at hX
       subst hX
       cases x with
       | tmp k =>
        simp only[ak] at mz
        rcases apE (Nat.blt k nt) with hb|hb<;>rw[hb] at mz<;>simp at mz
       | const u =>
        simp only[ak,aoO] at mz
        obtain⟨zz,hz,h⟩:=mz
        injection h with h
        subst h
        exact⟨.none,.inl (iD hz)⟩
       | global g=>simp[ak] at mz
       | func f=>simp[ak] at mz
      | aN g=>simp[an.addr] at hX
      | fn f=>simp[an.addr] at hX
     obtain⟨_,kD⟩:=kD
     exact A2 kD
    obtain⟨ao,hao⟩:=nM
    have IU:=mD hW hF mz hX rfl
    split at hn
    ·injection hn with hn;subst hn;exact⟨⟨ao,hao,IU⟩,.inl ⟨_,rfl⟩⟩
    ·injection hn with hn;subst hn;exact⟨⟨ao,hao,IU⟩,.inr rfl⟩
    ·cases hn
   ·have IU:=mD hW hF mz hX rfl
    split at hn
    ·injection hn with hn;subst hn;exact⟨⟨none,IU.kq,IU⟩,.inl ⟨_,rfl⟩⟩
    ·injection hn with hn;subst hn;exact⟨⟨none,IU.kq,IU⟩,.inr rfl⟩
    ·cases hn
   ·cases hn
  obtain⟨hxs,hyc⟩:=key
  have Mu:=Mu hyc
  obtain⟨ao,hV,hv⟩:=hxs
  obtain⟨news,hs⟩:=Mu
  have hnn:news=[]:=by have:=hs.newsLen;simp at this;exact this
  subst hnn
  refine⟨a.eval x,gh,w,.inl (fS ho gf dy jl ?_),Out.pure hW hF hd (.cF hv)⟩
  rw[hV]
  exact run_append_nothing w t u o.type e i hT.ht hi ao 0 0 (aoU _) _ hs
 ·exact Fl hW hF ho gf dy jl hT hu mz vU he hd
theorem Fp(hW:aK G base s.H gh w)(hF:FR L nt gh w a s){o:Oper}{t e:TypeId}{len sz:Nat}{parts:Array (Nat × Operand)}{z:List AV}{E:List (List AV)}{ps:List (Nat × an)}
  (ho:o.op=.buildSlice t len parts) (hu:P.underlying t=some (.slice e)) (hs:de P e=some sz) (hz:la P e=some z) (hp:ki nt parts.toList=some ps)
  (Cq:len*sz<=16777216) (UY:z.length=sz) (zE:0<sz) (mf:cC E=true)
  (he:cA sz (List.replicate len (z.map AV.drop)) (ps.map fun p=>(p.1,(p.2.eval G s.T).drop))=some E) (hd:∀ k,o.dst=some k->k<nt) :
  ∃ v' aH w',sm P a o w v' w'/\Out G base nt L gh w a s o.dst (.sref s.H.length 0 E.length sz) (s.fp ⟨s.H++[.box aJ E.flatten],s.H.length⟩) v' aH w':=by
 obtain⟨C',cz,cN,vW⟩:=we (P:=P) hW hF hu hs hz hp Cq UY zE he
 have jQ:=dJ.alloc w (.cells C' e)
 have y5:=fF hW jQ
 have st:Step (iS s.H.length) s.H.length gh w (gh.bd w.heap.size s.H.length) (w.alloc (.cells C' e)):=y5.mono (fun _ h=>h.elim)
 have hρ:(gh.bd w.heap.size s.H.length).ρ s.H.length=w.heap.size:=by simp[Gh.bd]
 have qw:E.flatten.length=E.length*sz:=nr E (fun r hm=>by obtain⟨k,hk⟩:=apw hm;exact cN.2.1 k r hk)
 have hB:gF (gh.bd w.heap.size s.H.length) (s.H.length+1) (w.alloc (.cells C' e)) ((gh.bd w.heap.size s.H.length).ρ s.H.length) (.hb s.H.length) (fun j=>.hs s.H.length j) E.flatten:=by
  rw[hρ]
  refine⟨by simp[Gh.bd,Gh.alloc],?_,C',e,jQ.new,by rw[qw,cN.1];exact aoU _,fun j v x hv hx=>?_⟩
  ·rintro o (ho|⟨_,ho⟩)
   ·have:=hW.mX _ o ho;omega
   ·exact ho
  ·obtain⟨v',tE,hp⟩:=rQ cN hx
   rw[tE] at hv
   injection hv with hv
   subst hv
   exact⟨hp.dX,.inl (.plain _ _ (hp.mono st.S st.cell st.mp))⟩
 have hr:E.flatten.all (aV s.H.length)=true:=aoV.2 fun x hx=>lB (oA mf hx) _
 have kR:=hW.arr y5 (H':=s.H) rfl (fun loc o h=>.inl ⟨h,id,fun _=>id⟩) (fun b o h=>h.elim id (fun h=>h.2.elim)) (fun b hb=>by
  rw[jQ.size]
  have fP:(if b=w.heap.size then ba.hb s.H.length else gh.κ b)≠.none:=hb
  split at fP
  ·have:=hW.size;omega
  ·have:=hW.ow b fP;omega) hB hr
 refine⟨.slice (some ⟨w.heap.size,0,none⟩) len len,gh.bd w.heap.size s.H.length,w.alloc (.cells C' e),.inl ?_,?_⟩
 ·have:(parts.map fun x=>(x.1,a.eval x.2))=parts.map fun p=>(p.1,a.eval p.2):=rfl
  simp[execOp,ho,cz]
 ·have:=Out.arr (lo:=s.H.length) (k:=E.length) (cap:=len) (z:=sz) hF hd st (fun b hb=>(jq hW jQ).out b hb) rfl kR (ap0 vW) ⟨e,by rw[hρ];exact⟨_,(0,0),jQ.new,by rw[cN.1,vW,Nat.zero_add]⟩⟩
  rw[hρ,<- vW] at this
  rw[<- vW]
  exact this
theorem O0(hW:aK G base s.H gh w)(hF:FR L nt gh w a s){o:Oper}{t e:TypeId}{i:TypeInfo}{zv:Value}{zero:List AV}{x y:Operand}{yx:an}{z:AV}{s' : Option AS}
  (ho:o.op=.makeSlice t x y) (Ku:De x y=true) (ht:P.underlying t=some (.slice e)) (hi:P.info? e=some i) (hz:i.zero=some zv) (Y5:dk zv.cells.toList=some zero) (hzs:zv.cells.size=i.size) (zE:0<i.size)
  (mz:ak nt x=some yx) (he:pG s i.size i.bytes (zero.map AV.drop) (yx.eval G s.T)=some (z,s')) (hd:∀ k,o.dst=some k->k<nt) :
  ∃ v' aH w',sm P a o w v' w'/\Out G base nt L gh w a s o.dst z (s'.getD s) v' aH w':=by
 simp only[pG,aoP] at he
 obtain⟨k,hk,he⟩:=he
 obtain⟨h0,he⟩:=ab he
 simp only[aoQ,aoS] at he
 obtain⟨rfl,rfl⟩:=he
 simp only[Bool.and_eq_true,Nat.ble_eq] at h0
 obtain⟨ze,iO⟩:=h0
 obtain⟨kd,Ml⟩:=ke hW hF mz hk
 have hyx:a.eval y=a.eval x:=by
  cases x<;>cases y<;>simp only[De] at Ku<;>try (cases Ku;done)
  rw[apQ Ku]
 have cz:=run_make (P:=P) w t e i zv ht hi hz kd kd (k:Int) (k:Int) (by omega) (by omega) (by
  have:(i.bytes:Int)*k=((k*i.bytes:Nat):Int):=by rw[aq6];simp
  rw[this];omega) (by omega)
 have jQ:dJ w (w.alloc (.cells (madeCells zv.cells (k*i.size)) e)) (.cells (madeCells zv.cells (k*i.size)) e):=.alloc w _
 have y5:=fF hW jQ
 have st:Step (iS s.H.length) s.H.length gh w (gh.bd w.heap.size s.H.length) (w.alloc (.cells (madeCells zv.cells (k*i.size)) e)):=y5.mono (fun _ h=>h.elim)
 have hρ:(gh.bd w.heap.size s.H.length).ρ s.H.length=w.heap.size:=by simp[Gh.bd]
 obtain⟨UY,Mv⟩:=iT (gh:=gh) (n:=s.H.length) (w:=w) Y5
 have aga:zero.length=i.size:=by rw[<- hzs];simpa using UY.symm
 have YZ:∀ r∈List.replicate k (zero.map AV.drop),r.length=i.size:=fun r hr=>by rw[aq4 hr];simpa using aga
 have qw:(List.replicate k (zero.map AV.drop)).flatten.length=k*i.size:=by rw[nr _ YZ];simp
 have mf:∀ x,x∈(List.replicate k (zero.map AV.drop)).flatten->x.plain=true:=by
  intro x hx
  obtain⟨r,hr,hx⟩:=aqY.1 hx
  rw[aq4 hr] at hx
  obtain⟨y,hy,rfl⟩:=apu.1 hx
  exact ng Y5 y hy
 have hB:gF (gh.bd w.heap.size s.H.length) (s.H.length+1) (w.alloc (.cells (madeCells zv.cells (k*i.size)) e)) ((gh.bd w.heap.size s.H.length).ρ s.H.length) (.hb s.H.length) (fun j=>.hs s.H.length j) (List.replicate k (zero.map AV.drop)).flatten:=by
  rw[hρ]
  refine⟨by simp[Gh.bd,Gh.alloc],?_,_,e,jQ.new,by rw[qw,size_madeCells];exact aoU _,fun j v x hv hx=>?_⟩
  ·rintro o (ho|⟨_,ho⟩)
   ·have:=hW.mX _ o ho;omega
   ·exact ho
  ·obtain⟨m,q,r,h1,h2,rfl⟩:=wU _ j x YZ hx
   have hr:r=zero.map AV.drop:=aq4 (ao0 h1)
   subst hr
   have hq:q<i.size:=by rw[<- aga];simpa using (aoR.1 h2).1
   simp only[ao1,aoO] at h2
   obtain⟨y,hy,rfl⟩:=h2
   have Dr:=(aoY.1 hv).1
   rw[size_madeCells] at Dr
   simp only[madeCells,arj,Array.getElem?_range,if_pos Dr,Option.map_some,aoQ] at hv
   have IQ:(m*i.size+q) % zv.cells.size=q:=by rw[hzs,aq6,Nat.mul_add_mod,Nat.mod_eq_of_lt hq]
   rw[IQ] at hv
   have hqz:q<zv.cells.size:=by omega
   have hc:zv.cells[q]?=some zv.cells[q]:=ao2 hqz
   have UT:v=zv.cells[q]:=by rw[<- hv];exact getElem!_pos zv.cells q hqz
   subst UT
   obtain⟨k1,k2⟩:=Mv q _ y (by rw[aps];exact hc) hy
   exact⟨k2,.inl ((k1.dropped).mono st (apH _))⟩
 have hr:(List.replicate k (zero.map AV.drop)).flatten.all (aV s.H.length)=true:=aoV.2 fun x hx=>lB (mf x hx) _
 have kR:=hW.arr y5 (H':=s.H) rfl (fun loc o h=>.inl ⟨h,id,fun _=>id⟩) (fun b o h=>h.elim id (fun h=>h.2.elim)) (fun b hb=>by
  rw[jQ.size]
  have fP:(if b=w.heap.size then ba.hb s.H.length else gh.κ b)≠.none:=hb
  split at fP
  ·have:=hW.size;omega
  ·have:=hW.ow b fP;omega) hB hr
 refine⟨.slice (some ⟨w.heap.size,0,none⟩) k k,gh.bd w.heap.size s.H.length,w.alloc (.cells (madeCells zv.cells (k*i.size)) e),.inl ?_,?_⟩
 ·have e1:(k:Int).toNat=k:=by simp
  rw[e1] at cz
  simp only[execOp,ho,hyx,Ml]
  simp[cz]
 ·have:=Out.arr (lo:=s.H.length) (k:=k) (cap:=k) (z:=i.size) hF hd st (fun b hb=>(jq hW jQ).out b hb) rfl kR (aoU _) ⟨e,by rw[hρ];exact⟨_,(0,0),jQ.new,by rw[size_madeCells,Nat.zero_add]⟩⟩
  rw[hρ] at this
  exact this
end
end
section
section
variable {P:Program}{G:Nat->List AV}{base nt:Nat}{L:List Nat}{gh jP:Gh}{w w' : World}{a:Act}{s:AS}{H:ah}
theorem Uf(hW:aK G base s.H gh w)(hF:FR L nt gh w a s){o:Oper}{op:BinOp}{t u:TypeId}{x y:Operand}{ix:an}{neg b:Bool}
  (ho:o.op=.binOp op t x y u) (hc:ak nt x=some ix) (hn:Jp P op t y=some neg) (he:yF (ix.eval G s.T)=some b) :
  ∃ v,(execOp a.eval o).run P w=.ok (.value v) w/\lZ gh s.H.length nt w s.T s.gen (fj a) v (.bool (neg != b)):=by
 unfold Jp at hn
 split at hn
 ·rename_i e hu
  have hx:∃ ad n c,a.eval x=.slice ad n c/\ad.isNone=b:=by
   generalize hX:ix.eval G s.T=X at he
   unfold yF at he
   split at he
   ·injection he with he
    subst he
    have hv:=bY hW hF hc hX rfl
    generalize a.eval x=V at hv
    cases hv with
    | plain _ _ h=>cases h;exact⟨_,_,_,rfl,rfl⟩
   ·injection he with he
    subst he
    rename_i r es own
    have hp:=(bY hW hF hc hX rfl).iw
    generalize a.eval x=V at hp
    cases hp with
    | slice b of n cap sz _ f hn jC bE cL cr=>exact⟨_,_,_,rfl,rfl⟩
   ·cases he
  obtain⟨ad,n,c,hA,hb⟩:=hx
  have hg:(eqGuard op t x (.const (.slice none 0 0)) (.slice ad n c) (.slice none 0 0)).run P w=.ok () w:=fg (by intro c;simp) (.inl (by simp))
  split at hn
  ·injection hn with hn
   subst hn
   have hr:=Lib.run_eql_slice_nil w t e ad n c 0 0 hu
   refine⟨.bool ad.isNone,?_,.cF (.plain _ _ ?_)⟩
   ·simp only[execOp,ho,hA,show a.eval (.const (.slice none 0 0))=.slice none 0 0 from rfl,Sem.run_bind,hg,hr,Result.andThen_ok,Sem.run_pure]
   ·rw[hb];cases b<;>exact .bool _
  ·injection hn with hn
   subst hn
   have hr:=run_neq_slice_nil_any w t e ad n c 0 0 hu
   refine⟨.bool (!ad.isNone),?_,.cF (.plain _ _ ?_)⟩
   ·simp only[execOp,ho,hA,show a.eval (.const (.slice none 0 0))=.slice none 0 0 from rfl,Sem.run_bind,hg,hr,Result.andThen_ok,Sem.run_pure]
   ·rw[hb];cases b<;>exact .bool _
  ·cases hn
 ·cases hn
theorem T7(hW:aK G base s.H gh w)(hF:FR L nt gh w a s){o:Oper}{t:TypeId}{x:Operand}{y:an}{cs:List AV}(ho:o.op=.box t x)(hc:ak nt x=some y)(fi:(y.eval G s.T).drop.cells=some cs)
  (hd:∀ k,o.dst=some k->k<nt) :
  ∃ v' aH w',sm P a o w v' w'/\Out G base nt L gh w a s o.dst (.ref s.H.length 0) (s.fp ⟨s.H++[.ca (cs.map AV.drop)],s.H.length⟩) v' aH w':=by
 have bE:=(oY hW hF hc cs fi).dropped
 have hp:dJ w (w.alloc (.cells (a.eval x).cells t)) (.cells (a.eval x).cells t):=.alloc w _
 have st:=fF hW hp
 have hρ:(gh.bd w.heap.size s.H.length).ρ s.H.length=w.heap.size:=by simp[Gh.bd]
 have hB:gF (gh.bd w.heap.size s.H.length) (s.H.length+1) (w.alloc (.cells (a.eval x).cells t)) w.heap.size (.hb s.H.length) (fun j=>.hs s.H.length j) (cs.map AV.drop):=by
  refine⟨by simp[Gh.bd,Gh.alloc],?_,_,t,hp.new,ap0 bE.1.symm,fun j v x hv hx=>?_⟩
  ·rintro o (ho|⟨_,ho⟩)
   ·have:=hW.mX _ o ho;omega
   ·exact ho
  ·obtain⟨h1,h2⟩:=bE.2 j v x hv hx
   exact⟨h2,.inl (h1.mono st (apH _))⟩
 have hv:VR (gh.bd w.heap.size s.H.length) (s.H++[cj.ca (cs.map AV.drop)]).length (w.alloc (.cells (a.eval x).cells t)) (.pointer (some ⟨w.heap.size,0,none⟩)) (.ref s.H.length 0):=by
  have:=VR.ref (gh:=gh.bd w.heap.size s.H.length) (w:=w.alloc (.cells (a.eval x).cells t)) (n:=(s.H++[cj.ca (cs.map AV.drop)]).length) s.H.length 0 (by simp)
  rw[hρ] at this;exact this
 refine⟨_,_,_,.inl ?_,⟨hW.yQ hp (fun _ _ h=>by cases h) hB,hF.put st (fun i=>⟨id,id,fun _=>id⟩) (by simp) o.dst hd (.cF hv),jq hW hp⟩⟩
 simp[execOp,ho,Instr.box,newVar,newRow]
theorem LU(hW:aK G base s.H gh w)(hF:FR L nt gh w a s){o:Oper}{t:TypeId}{z:List AV}(ho:o.op=.alloc t){kp:Bool}(hz:(la P t).map (fun z=>cond kp (z.map mA) z)=some z)
  (hd:∀ k,o.dst=some k->k<nt) :
  ∃ v' aH w',sm P a o w v' w'/\Out G base nt L gh w a s o.dst (.ref s.H.length 0) (s.fp ⟨s.H++[.ca (z.map AV.drop)],s.H.length⟩) v' aH w':=by
 obtain⟨i,zv,hi,Mv,afX⟩:=pj (gh:=gh) (n:=s.H.length) (w:=w) hz
 have bE:=afX.dropped
 have hp:dJ w (w.alloc (.cells zv.cells t)) (.cells zv.cells t):=.alloc w _
 have st:=fF hW hp
 have hρ:(gh.bd w.heap.size s.H.length).ρ s.H.length=w.heap.size:=by simp[Gh.bd]
 have hB:gF (gh.bd w.heap.size s.H.length) (s.H.length+1) (w.alloc (.cells zv.cells t)) w.heap.size (.hb s.H.length) (fun j=>.hs s.H.length j) (z.map AV.drop):=by
  refine⟨by simp[Gh.bd,Gh.alloc],?_,_,t,hp.new,ap0 bE.1.symm,fun j v x hv hx=>?_⟩
  ·rintro o (ho|⟨_,ho⟩)
   ·have:=hW.mX _ o ho;omega
   ·exact ho
  ·obtain⟨h1,h2⟩:=bE.2 j v x hv hx
   exact⟨h2,.inl (h1.mono st (apH _))⟩
 have hv:VR (gh.bd w.heap.size s.H.length) (s.H++[cj.ca (z.map AV.drop)]).length (w.alloc (.cells zv.cells t)) (.pointer (some ⟨w.heap.size,0,none⟩)) (.ref s.H.length 0):=by
  have:=VR.ref (gh:=gh.bd w.heap.size s.H.length) (w:=w.alloc (.cells zv.cells t)) (n:=(s.H++[cj.ca (z.map AV.drop)]).length) s.H.length 0 (by simp)
  rw[hρ] at this;exact this
 refine⟨_,_,_,.inl ?_,⟨hW.yQ hp (fun _ _ h=>by cases h) hB,hF.put st (fun i=>⟨id,id,fun _=>id⟩) (by simp) o.dst hd (.cF hv),jq hW hp⟩⟩
 simp[execOp,ho,vx hi Mv]
theorem aK.open(hW:aK G base H gh w){loc:Nat}{ty:TypeId}{cs:List AV}(hH:H[loc]?=some (.box ty cs)):aK G base (H.set loc (.ca cs)) gh w:=by
 have aU:=(aoR.1 hH).1
 have old:∀ {l:Nat} {o:cj},(H.set loc (.ca cs))[l]?=some o->(l=loc/\o=.ca cs)\/(l≠loc/\H[l]?=some o):=by
  intro l o h
  by_cases e:l=loc
  ·subst e
   rw[apo aU] at h
   exact .inl ⟨rfl,(apA h).symm⟩
  ·rw[apk (fun h=>e h.symm)] at h
   exact .inr ⟨e,h⟩
 refine⟨hW.size,hW.mX,hW.ow,hW.aN,fun l kC NC h=>?_,fun l kC NC h=>?_,hW.wL,hW.bytes,fun l o h=>?_,fun l kC NC h hf=>?_⟩
 ·rw[apX]
  rcases old h with ⟨_,h⟩|⟨_,h⟩
  ·cases h
  ·exact hW.boxes l kC NC h
 ·rcases old h with ⟨_,h⟩|⟨_,h⟩
  ·cases h
  ·exact hW.refs l kC NC h
 ·rw[apX]
  rcases old h with ⟨rfl,rfl⟩|⟨_,h⟩
  ·exact hW.boxes l ty cs hH
  ·exact hW.more l o h
 ·rcases old h with ⟨_,h⟩|⟨_,h⟩
  ·cases h
  ·exact hW.types l kC NC h hf
theorem KO(s:AS)(a:AV):(kN s a).T=s.T/\(kN s a).gen=s.gen/\(kN s a).H.length=s.H.length:=by
 unfold kN
 split
 ·split
  ·rename_i ty cs _
   cases Nat.beq ty aJ<;>simp[AS.fp]
  ·exact⟨rfl,rfl,rfl⟩
 ·exact⟨rfl,rfl,rfl⟩
theorem aK.kN(hW:aK G base s.H gh w)(v:AV):aK G base (kN s v).H gh w:=by
 unfold Go.Abs.kN
 split
 ·split
  ·rename_i ty cs hH
   cases Nat.beq ty aJ with
   | true=>exact hW.open hH
   | false=>exact hW
  ·exact hW
 ·exact hW
theorem LY(hW:aK G base s.H gh w)(hF:FR L nt gh w a s){o:Oper}{t:TypeId}{xa xv:Operand}{ya yv:an}{sz:Nat}{s' : AS}(ho:o.op=.store t xa xv)(Dn:ak nt xa=some ya)(Pp:ak nt xv=some yv)(hs:de P t=some sz)
  (he:gl (kN s (ya.addr G s.T)) sz (ya.addr G s.T) (yv.eval G s.T)=some s') (hd:∀ k,o.dst=some k->k<nt) :
  ∃ v' aH w',sm P a o w v' w'/\Out G base nt L gh w a s o.dst .undef (s'.bD yv) v' aH w':=by
 obtain⟨h1,h2,h3⟩:=KO s (ya.addr G s.T)
 have kR:=hW.kN (ya.addr G s.T)
 generalize kN s (ya.addr G s.T)=q at h1 h2 h3 kR he
 have zB:FR L nt gh w a q:=⟨⟨hF.defers,hF.size,fun i hi=>by rw[h1,h2,h3];exact hF.slot i hi⟩,fun i hi=>hF.obj i (by rw[<- h1];exact hi)⟩
 rw[<- h1] at he
 obtain⟨v',aH,w',k1,k2⟩:=Ft (s:=q) kR zB ho Dn Pp hs he hd
 exact⟨v',aH,w',k1,⟨k2.W,k2.F,by rw[<- h3];exact k2.E⟩⟩
theorem sL{o:Oper}{c:Call}{x y:Operand}{t u:TypeId}(ho:o.op=.call c)(gf:c.callee=.builtin .copy)(dy:c.args.toList=[x,y])(jl:c.argTypes.toList=[t,u]){v:Value}
  (cz:(Builtin.copy_ #[t,u] o.type #[a.eval x,a.eval y]).run P w=.ok v w'):(execOp a.eval o).run P w=.ok (.value v) w':=by
 have e1:c.args=#[x,y]:=by apply aqU;simpa using dy
 have e2:c.argTypes=#[t,u]:=by apply aqU;simpa using jl
 unfold execOp
 simp only[ho,resolve,gf,e1,e2,invoke,builtin,Sem.run_bind,Sem.run_pure,Result.andThen_ok,aqX,apm,apz,cz]
theorem GW{k j j' : Nat}(h:(List.range k)[j]?=some j'):j<k/\j'=j:=by
 rw[aoR] at h
 obtain⟨h1,h2⟩:=h
 simp at h1 h2
 exact⟨h1,h2.symm⟩
theorem On{n:Nat}{V:Value}{f:List (List AV)}(h:PR gh.S w V (.slice f false))(hh:fR 1 f=true){k:Nat}(hk:k<=f.length) :
  ∃ (ad:Option Addr) (ln cp:Nat) (sw:List Value),V=.slice ad ln cp/\ln=f.length/\sw.length=k/\(0<k->∃ q,ad=some q/\∀ j v,sw[j]?=some v->w.cell? (q.add j)=some v)/\(∀ r∈f.take k,r.length=1) /\
   ∀ (j:Nat) (u:Value) (x:AV),sw[j]?=some u->((f.take k).flatten)[j]?=some x->u.oneCell'=true/\PR gh.S w u x:=by
 cases h with
 | cT =>
  simp only[List.length_nil,Nat.le_zero] at hk
  subst hk
  exact⟨none,0,0,[],rfl,rfl,rfl,fun h=>absurd h (by omega),fun r hm=>by simp at hm,fun j u x h=>by simp at h⟩
 | slice b of ln cap sz _ g hn jC bE cL cr =>
  have gA:f≠[]->sz=1:=fun bB=>xZ hh bE bB
  have ahb:∀ (i:Nat) (r:List AV),f[i]?=some r->r.length=1:=fun i r hi=>by
   rw[bE i r hi,gA (by rintro rfl;simp at hi)]
  have vat:∀ j,j<k->∃ r x,f[j]?=some r/\r[0]?=some x:=fun j hj=>by
   have hr:=aoT (show j<f.length by omega)
   exact⟨_,_,hr,aoT (by rw[ahb _ _ hr];exact Nat.one_pos)⟩
  have cN:∀ r∈f.take k,r.length=1:=fun r hm=>by
   obtain⟨i,hi⟩:=apw (aqZ hm);exact ahb i r hi
  refine⟨some ⟨b,of,none⟩,ln,cap,(List.range k).map fun j=>g j 0,rfl,hn.symm,by simp,fun _=>⟨_,rfl,fun j v hv=>?_⟩,cN,fun j u x hu hx=>?_⟩
  ·simp only[ao1,aoO] at hv
   obtain⟨j',iL,rfl⟩:=hv
   obtain⟨aU,rfl⟩:=GW iL
   obtain⟨r,x,h1,h2⟩:=vat _ aU
   obtain⟨_,k2,_⟩:=cL _ 0 r x h1 h2
   rw[gA (by rintro rfl;simp at h1),arv,ap6] at k2
   rw[gv];exact k2
  ·simp only[ao1,aoO] at hu
   obtain⟨j',iL,rfl⟩:=hu
   obtain⟨aU,rfl⟩:=GW iL
   obtain⟨i,q,r,e1,e2,e3⟩:=wU (f.take k) _ x cN hx
   have hq:q=0:=by
    have:=(aoR.1 e2).1
    rw[cN r (ao0 e1)] at this;omega
   subst hq
   rw[arv,ap6] at e3
   subst e3
   have e1' : f[j']?=some r:=by
    rw[apa,if_pos aU] at e1
    exact e1
   exact⟨(cL _ 0 r x e1' e2).2.2,cr _ 0 r x e1' e2⟩
theorem OU(hW:aK G base s.H gh w)(hF:FR L nt gh w a s){o:Oper}{c:Call}{x y:Operand}{t u e:TypeId}{yx yy:an}{z:AV}{s' : Option AS}
  (ho:o.op=.call c) (gf:c.callee=.builtin .copy) (dy:c.args.toList=[x,y]) (jl:c.argTypes.toList=[t,u]) (hu:P.underlying t=some (.slice e)) (hs:de P e=some 1)
  (mz:ak nt x=some yx) (vU:ak nt y=some yy) (he:pF s (yx.addr G s.T) (yy.eval G s.T)=some (z,s')) (hd:∀ k,o.dst=some k->k<nt) :
  ∃ v' aH w',sm P a o w v' w'/\Out G base nt L gh w a s o.dst z (s'.getD s) v' aH w':=by
 have gA:(P.info? e).map (·.size)=some 1:=hs
 have hm:=arg_val hW hF mz
 unfold pF at he
 split at he
 ·
  rename_i l o0 n zz f own hX hY
  rw[hX] at hm
  obtain⟨aU,cap,hk,_,hA⟩:=VR.jn (hm:VR gh s.H.length w (a.eval x) (.sref l o0 n zz))
  have hp:=(bY hW hF vU hY rfl).iw
  split at he
  ·rename_i cs hH
   obtain⟨h0,s9⟩:=ab he
   clear he
   simp only[aoQ,aoS] at s9
   obtain⟨rfl,rfl⟩:=s9
   simp only[Bool.and_eq_true,dR,apc,Nat.ble_eq] at h0
   obtain⟨⟨⟨rfl,hh⟩,mf⟩,jd⟩:=h0
   obtain⟨hκ,hS,C,ty,hb,hC,fi⟩:=(hW.more l _ hH:gF gh s.H.length w (gh.ρ l) (.hb l) (fun j=>.hs l j) cs)
   have AF:Nat.min f.length n<=f.length:=Nat.min_le_left _ _
   have hkn:Nat.min f.length n<=n:=Nat.min_le_right _ _
   obtain⟨ad,ln,cp,sw,hV,pO,Y2,hq,YX,cr⟩:=On (n:=0) hp hh AF
   generalize hkk:Nat.min f.length n=k at *
   have fL:∀ u∈sw,u.oneCell'=true:=by
    intro u hu
    obtain⟨j,hj⟩:=apw hu
    have Dr:j<k:=by rw[<- Y2];exact (aoR.1 hj).1
    have qw:(f.take k).flatten.length=k:=by rw[nr _ YX];simp;omega
    exact (cr j u _ hj (aoT (by rw[qw];exact Dr))).1
   have Pr:o0+sw.toArray.size<=C.size:=by simp;omega
   have cz:(Builtin.copy_ #[t,u] o.type #[a.eval x,a.eval y]).run P w=.ok (.int .i64 (k:Int)) (w.setRow (gh.ρ l) (fa C o0 sw.toArray)):=by
    rw[hA,hV]
    by_cases hk0:k=0
    ·have hv0:sw=[]:=aqJ.1 (by omega)
     have NM:fa C o0 (#[]:Array Value)=C:=by simp[fa]
     rw[hv0,NM,setRow_self w _ C ty (0,0) hb]
     have:=run_copy_none (P:=P) w t u o.type e (some ⟨gh.ρ l,o0,none⟩) ad n cap ln cp hu gA (by rw[pO,hkk];exact hk0)
     rw[this,hk0];rfl
    ·obtain⟨q,rfl,ajE⟩:=hq (by omega)
     have:=run_copy_row (P:=P) w t u o.type e (gh.ρ l) o0 n cap q ln cp C ty sw hu gA hb (by rw[Y2,pO,hkk]) ajE (by simpa using Pr) fL
     rw[this]
     simp[fa,Y2,goInt]
   have jg:∀ o,gh.S (gh.ρ l) o->(fa C o0 sw.toArray)[o]?=C[o]?:=fun o ho=>(hS o ho).elim
   have x6:=cV Pr
   have st:=mW hW hb x6 jg s.H.length
   have hE:=yU hW hb x6 jg (by rw[hκ];simp) (by rw[hκ];simp) s.H.length
   rw[hκ] at st
   have cN:(f.take k).flatten.length=k:=by
    rw[nr _ YX];simp;omega
   have hB:gF gh s.H.length (w.setRow (gh.ρ l) (fa C o0 sw.toArray)) (gh.ρ l) (.hb l) (fun j=>.hs l j) (putAt cs o0 (f.take k).flatten):=by
    refine⟨hκ,hS,_,ty,setRow_heap w _ C _ ty _ hb,by rw[x6,oZ (by rw[cN];omega)];exact hC,fun j u x AD wF=>?_⟩
    rw[jr Pr] at AD
    rw[r9 (by rw[cN];omega)] at wF
    simp only[aqg,Y2] at AD
    rw[cN] at wF
    split at AD
    ·rename_i hc
     rw[if_pos hc] at wF
     obtain⟨k1,k2⟩:=cr _ u x (by simpa using AD) wF
     exact⟨k1,.inl (.plain _ _ (k2.mono st.S st.cell st.mp))⟩
    ·rename_i hc
     rw[if_neg hc] at wF
     obtain⟨k1,k2⟩:=fi j u x AD wF
     exact⟨k1,k2.mono st (aoU _) (by simp)⟩
   have Cn:aK G base (s.H.set l (.ca (putAt cs o0 (f.take k).flatten))) gh (w.setRow (gh.ρ l) (fa C o0 sw.toArray)) :=
    hW.uJ st aU (by intro k hk;simp[hk]) (fun b o ho=>by simpa using hW.mX b o ho) (fun b hb=>by simpa using hW.ow b hb) (fun _ _ h=>by cases h) hB (fun _ _ _ h=>.inl h)
   refine⟨.int .i64 k,gh,_,.inl (sL ho gf dy jl cz),Cn,?_,hE⟩
   exact hF.put (H':=s.H.set l (.ca (putAt cs o0 (f.take k).flatten))) (lo':=cond (Nat.blt l s.lo) l s.lo) st (fun i=>⟨by simp,by simp,by simp⟩) (by simp) o.dst hd (.cF (.plain _ _ (.int _ _)))
  ·cases he
 ·
  rename_i own f anY hX hY
  simp only[aoQ,aoS] at he
  obtain⟨rfl,rfl⟩:=he
  rw[hX] at hm
  have h1:∃ ad cp,a.eval x=.slice ad 0 cp:=by
   have hp:=VR.iw (hm:VR gh s.H.length w (a.eval x) (.slice [] false))
   generalize a.eval x=V at hp
   cases hp with
   | cT=>exact⟨_,_,rfl⟩
   | slice b of n cap sz _ f hn _ _ _ _=>simp at hn;subst hn;exact⟨_,_,rfl⟩
  have h2:∃ ad n cp,a.eval y=.slice ad n cp:=by
   have hp:=(bY hW hF vU hY rfl).iw
   generalize a.eval y=V at hp
   cases hp with
   | cT=>exact⟨_,_,_,rfl⟩
   | slice b of n cap sz _ f hn _ _ _ _=>exact⟨_,_,_,rfl⟩
  obtain⟨ad,cp,h1⟩:=h1
  obtain⟨ad',n',cp',h2⟩:=h2
  have cz:=run_copy_none (P:=P) w t u o.type e ad ad' 0 cp n' cp' hu gA (Nat.min_zero _)
  rw[<- h1,<- h2] at cz
  refine⟨.int .i64 0,gh,w,.inl (sL ho gf dy jl cz),?_⟩
  exact Out.pure hW hF hd (.cF (.plain _ _ (.int _ _)))
 ·cases he
end
end
end Go.Abs
