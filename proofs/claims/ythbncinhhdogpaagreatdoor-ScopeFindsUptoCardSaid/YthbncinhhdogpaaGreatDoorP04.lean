/-
  A part of the proof of ScopeFinds: AbsMap3, AbsMap4, AbsMap5, AbsMap6, AbsArr, AbsCopy.
-/
import Derived.Maps.RangeRun
import Derived.Laws.MakeOwn
import Derived.Laws.IdiomCopy
import Derived.WalkSpells
import Derived.Test.YthbncinhhdogpaaGreatDoorP03
set_option linter.unusedSimpArgs false
set_option linter.unusedVariables false
set_option linter.defProp false
namespace Go.Abs
section
section
variable {P:Program}{G:Nat->List AV}{base nt:Nat}{L:List Nat}{gh:Gh}{w w' : World}{a:Act}{s:AS}{H:ag}
theorem find_spec{a:List UInt8} : ∀ (es:List (List AV)),(∀ r,r∈es->∃ b,mO r=some b)->∃ o,fH [.s] [.str a] es=some o /\
  ((o=none/\∀ r,r∈es->mO r≠some a)\/∃ i r,o=some i/\es[i]?=some r/\mO r=some a)
 | [],_=>⟨none,rfl,.inl ⟨rfl,fun r h=>by cases h⟩⟩
 | r :: es,h=>by
  obtain⟨b,hb⟩:=h r (apP ..)
  obtain⟨q,rfl⟩:∃ q,r=.str b :: q:=by
   unfold mO at hb
   split at hb
   ·injection hb with hb;subst hb;exact⟨_,rfl⟩
   ·cases hb
  obtain⟨o,ho,hs⟩:=find_spec (a:=a) es (fun r hr=>h r (apU _ hr))
  by_cases hab:a=b
  ·subst hab
   exact⟨some 0,by simp[fH,bN],.inr ⟨0,_,rfl,rfl,rfl⟩⟩
  ·have bC:(a==b)=false:=by simpa using hab
   refine⟨o.map (· + 1),by simp[fH,bN,bC,ho],?_⟩
   rcases hs with ⟨rfl,hs⟩|⟨i,r,rfl,h1,h2⟩
   ·refine .inl ⟨rfl,fun r hr=>?_⟩
    rcases apO.1 hr with rfl|hr
    ·simp only[mO];intro h;injection h with h;exact hab h.symm
    ·exact hs r hr
   ·exact .inr ⟨i+1,r,rfl,by simpa using h1,h2⟩
theorem apart_spec:∀ {es:List (List AV)},tq es=true->(∀ r,r∈es->∃ b,mO r=some b)/\∀ r r',r∈es->r'∈es->mO r=mO r'->r=r'
 | [],_=>⟨fun r h=>(by cases h),fun r r' h=>(by cases h)⟩
 | q :: es,h=>by
  simp only[tq,Bool.and_eq_true] at h
  obtain⟨h1,h2⟩:=h
  obtain⟨i1,i2⟩:=apart_spec h2
  cases hq:mO q with
  | none=>rw[hq] at h1;cases h1
  | some a =>
   rw[hq] at h1
   simp only[apA] at h1
   have bC:∀ r,r∈es->mO r≠some a:=by
    intro r hr hra
    have:=h1 r hr
    rw[hra] at this
    simp at this
   refine⟨fun r hr=>?_,fun r r' hr zP he=>?_⟩
   ·rcases apO.1 hr with rfl|hr
    ·exact⟨a,hq⟩
    ·exact i1 r hr
   ·rcases apO.1 hr with e1|k1<;>rcases apO.1 zP with e2|k2
    ·rw[e1,e2]
    ·rw[e1] at he;exact absurd (he.symm.trans hq) (bC r' k2)
    ·rw[e2] at he;exact absurd (he.trans hq) (bC r k1)
    ·exact i2 r r' k1 k2 he
theorem MM{a:List UInt8}{es uz:List (List AV)}(hp:uz.Perm es)(ha:tq es=true){o:Option Nat}(hf:fH [.s] [.str a] es=some o)(ok va:Bool)(zero:List AV)(kz:Nat) :
  ∃ o',fH [.s] [.str a] uz=some o'/\py ok va zero kz uz o'=py ok va zero kz es o:=by
 obtain⟨h1,h2⟩:=apart_spec ha
 obtain⟨o1,e1,s1⟩:=find_spec (a:=a) es h1
 rw[hf] at e1
 injection e1 with e1
 subst e1
 obtain⟨o',e2,s2⟩:=find_spec (a:=a) uz (fun r hr=>h1 r (hp.mem_iff.1 hr))
 refine⟨o',e2,?_⟩
 rcases s1 with ⟨rfl,s1⟩|⟨i,r,rfl,k1,k2⟩
 ·rcases s2 with ⟨rfl,_⟩|⟨i',r',rfl,k1',k2'⟩
  ·rfl
  ·exact absurd k2' (s1 r' (hp.mem_iff.1 (apF k1')))
 ·rcases s2 with ⟨rfl,s2⟩|⟨i',r',rfl,k1',k2'⟩
  ·exact absurd k2 (s2 r (hp.mem_iff.2 (apF k1)))
  ·have:r'=r:=h2 r' r (hp.mem_iff.1 (apF k1')) (apF k1) (k2'.trans k2.symm)
   subst this
   simp only[py,List.getD,k1,k1']
theorem U3(hW:aM G base s.H gh w)(hF:FR L nt gh w a s){o:Oper}{t kt et:TypeId}{ks:List CK}{ka va:Bool}{vz:Nat}{zv:Value}{zero:List AV}(hT:D3 P t kt et ks ka va vz zv zero){x i:Operand}{y yi:ar}{ok:Bool}{z:AV}{s' : Option AS}
  (ho:o.op=.lookup t x i ok) (hc:ak nt x=some y) (hi:ak nt i=some yi) (he:tA s ok ks.length ka va ks zero (y.addr G s.T) (yi.eval G s.T)=some (z,s')) :
  s'=none/\∃ v,(execOp a.eval o).run P w=.ok (.value v) w/\mA gh s.H.length nt w s.T s.gen (fB a) v z:=by
 simp only[tA,apu] at he
 obtain⟨kc,pO,he⟩:=he
 obtain⟨h0,he⟩:=ab he
 simp only[Bool.and_eq_true,dX,apS,aqI] at h0
 obtain⟨hl,rD⟩:=h0
 have C1:aq (yi.eval G s.T)=true:=by rw[<- gK];exact gL pO
 have hk:=cc hW hF hi rfl C1
 have fin:∀ {M:Value} {zz:AV},a.eval x=M->(∃ v,(Instr.lookup t M (a.eval i) ok).run P w=.ok v w/\VR gh s.H.length w v zz)->∃ v,(execOp a.eval o).run P w=.ok (.value v) w/\mA gh s.H.length nt w s.T s.gen (fB a) v zz:=by
  rintro M zz rfl ⟨v,h1,h2⟩
  exact⟨v,by simp[execOp,ho,h1],.cK h2⟩
 have hm:=arg_val hW hF hc
 split at he
 ·rename_i hM
  simp only[apv,apx] at he
  obtain⟨rfl,rfl⟩:=he
  rw[hM] at hm
  refine⟨rfl,fin (M:=.map none) ?_ (DH hT hk pO hl rD ok)⟩
  generalize a.eval x=V at hm
  cases (hm:VR gh s.H.length w V .cN) with
  | plain _ _ h=>cases h;rfl
 ·rename_i me mb mU es hM
  obtain⟨h1,tH⟩:=ab he
  clear he
  simp only[apt,apx] at tH
  obtain⟨r,hf,rfl,rfl⟩:=tH
  simp only[Bool.and_eq_true,dX,apS,aqI] at h1
  obtain⟨⟨⟨⟨rfl,rfl⟩,rfl⟩,jq⟩,hsk⟩:=h1
  obtain⟨str,rfl,rfl⟩:∃ str,ks=[.s]/\kc=[.str str]:=by
   unfold Xn at hsk
   split at hsk
   ·exact⟨_,rfl,rfl⟩
   ·cases hsk
  refine⟨rfl,?_⟩
  rw[hM] at hm
  have hp:PR gh.S w (a.eval x) (.mX [CK.s].length ka va es):=by
   generalize a.eval x=V at hm
   cases (hm:VR gh s.H.length w V (.mX [CK.s].length ka va es)) with
   | plain _ _ h=>exact h
  generalize hV:a.eval x=V at hp
  cases hp with
  | mX b _ _ _ _ uz E ck f hS hb hI ZO cy =>
   have hE:=hI.size
   have bI:=hI.row
   obtain⟨o',hf',n7⟩:=MM ZO jq hf ok va zero [CK.s].length
   rw[<- n7]
   have hR:Rows gh s.H.length w E [CK.s].length ka va uz:=by
    refine⟨hE,fun i e r h1 h2=>⟨f i,(bI i e r h1 h2).2.2.2.1,fun j x hj _=>cy i j r x h2 hj⟩,fun i e r h1 h2=>?_⟩
    obtain⟨k1,_,k2,_,k3⟩:=bI i e r h1 h2
    refine⟨k1,k2,_,k3,fun j x hj=>?_⟩
    rw[ap'] at hj
    have:=cy i _ r x h2 hj
    exact⟨VR.dropped (.plain _ _ this),this.fg⟩
   exact fin hV (HC hT hk pO hl rD hb hR hf' ok)
 ·simp only[apu,apt,apx] at he
  obtain⟨es,cS,r,hf,rfl,rfl⟩:=he
  refine⟨rfl,?_⟩
  have key:∃ b E ck,a.eval x=.map (some b)/\w.heap[b]?=some (.map E ck)/\Rows gh s.H.length w E ks.length ka va es:=by
   generalize hY:y.addr G s.T=Y at hm cS
   have hp:∀ me mb mU uz,Y=.dR me mb mU uz->PR gh.S w (a.eval x) (.dR me mb mU uz):=by
    rintro _ _ _ _ rfl
    generalize a.eval x=V at hm
    cases (hm:VR gh s.H.length w V (.dR _ _ _ _)) with
    | plain _ _ h=>exact h
   unfold uV at cS
   split at cS
   ·obtain⟨h1,cS⟩:=ab cS
    injection cS with cS
    subst cS
    simp only[Bool.and_eq_true,dX,apS,aqI] at h1
    obtain⟨⟨rfl,rfl⟩,rfl⟩:=h1
    exact qE (b:=0) (hp _ _ _ _ rfl)
   ·obtain⟨aU,mC⟩:=VR.nR (hm:VR gh s.H.length w (a.eval x) (.mref _))
    split at cS
    ·rename_i hH
     obtain⟨h1,cS⟩:=ab cS
     injection cS with cS
     subst cS
     simp only[Bool.and_eq_true,dX,apS,aqI] at h1
     obtain⟨⟨rfl,rfl⟩,rfl⟩:=h1
     obtain⟨E,ck,hb,hR⟩:=qD (hW.more _ _ hH).1
     exact⟨_,E,ck,mC,hb,hR⟩
    ·rename_i hH
     obtain⟨h1,cS⟩:=ab cS
     injection cS with cS
     subst cS
     simp only[Bool.and_eq_true,dX,apS,aqI] at h1
     obtain⟨⟨rfl,rfl⟩,rfl⟩:=h1
     obtain⟨b,E,ck,hv,hb,hR⟩:=qE (b:=0) (n:=s.H.length) (hW.more _ _ hH:PR gh.S w _ _)
     exact⟨b,E,ck,mC.trans hv,hb,hR⟩
    ·cases cS
   ·cases cS
  obtain⟨b,E,ck,mC,hb,hR⟩:=key
  exact fin mC (HC hT hk pO hl rD hb hR hf ok)
theorem find_eq:∀ {ks:List CK} {kc:List AV} {es:List (List AV)} {i:Nat} {r:List AV},fH ks kc es=some (some i)->es[i]?=some r->bN ks kc r=some true
 | ks,kc,[],i,r,h,_=>by simp[fH] at h
 | ks,kc,q :: es,i,r,h,hr=>by
  simp only[fH,apu] at h
  obtain⟨b,hb,h⟩:=h
  cases b with
  | true=>simp at h;subst h;simp at hr;subst hr;exact hb
  | false =>
   simp only[apE,apt] at h
   obtain⟨o,ho,h⟩:=h
   cases o with
   | none=>simp at h
   | some j=>simp at h;subst h;exact find_eq ho (by simpa using hr)
theorem Az{n m:Nat}{c:CK}{u v:Value}{x y:AV}(hu:VR gh n w u x)(hv:PR gh.S w v y)(h:bN [c] [x] [y]=some true):Instr.sameBits m v u=true:=by
 cases c<;>cases x<;>try (cases h;done)
 all_goals (cases y<;>try (cases h;done))
 ·obtain rfl:=hu.jz
  cases hv
  simp[bN] at h
  cases m<;>simp[Instr.sameBits,h]
 ·obtain rfl:=hu.jR
  cases hv
  simp only[bN] at h
  obtain⟨h0,h⟩:=ab h
  simp at h h0
  cases m<;>simp[Instr.sameBits,h,h0]
 ·obtain⟨p,rfl,rfl⟩:=hu.jS
  cases hv with
  | str q _ hq =>
   simp[bN] at h
   have:q=p:=by
    cases p;cases q
    congr 1
    exact arF (by rw[hq];simp at h ⊢;rw[h])
   subst this
   have hb:(q==q)=true:=show (q.data==q.data)=true by simp
   cases m<;>simp[Instr.sameBits,hb]
theorem A4:∀ {ks:List CK} {X Y:List AV},bN ks X Y=some true->∀ (j:Nat) (c:CK),ks[j]?=some c->∃ x y,X[j]?=some x/\Y[j]?=some y/\bN [c] [x] [y]=some true
 | [],X,Y,h,j,c,hj=>by simp at hj
 | c0 :: ks,X,Y,h,j,c,hj=>by
  have one:∀ (x y:AV) (X' Y' : List AV) (e:Bool),X=x :: X'->Y=y :: Y'->bN [c0] [x] [y]=some e->(bN ks X' Y').map (e&&·)=some true->∃ x y,X[j]?=some x/\Y[j]?=some y/\bN [c] [x] [y]=some true:=by
   rintro x y X' Y' e rfl rfl h1 h2
   simp only[apt,Bool.and_eq_true] at h2
   obtain⟨b,hb,rfl,rfl⟩:=h2
   cases j with
   | zero=>simp at hj;subst hj;exact⟨x,y,rfl,rfl,h1⟩
   | succ j =>
    obtain⟨x',y',k1,k2,k3⟩:=A4 hb j c (by simpa using hj)
    exact⟨x',y',by simpa using k1,by simpa using k2,k3⟩
  cases c0<;>cases X<;>try (cases h;done)
  all_goals (rename_i x X';cases x<;>try (cases h;done))
  all_goals (cases Y<;>try (cases h;done))
  all_goals (rename_i y Y';cases y<;>try (cases h;done))
  ·exact one _ _ _ _ _ rfl rfl (by simp[bN]) h
  ·simp only[bN] at h
   obtain⟨h0,h⟩:=ab h
   exact one _ _ _ _ _ rfl rfl (by simp only[bN,h0,cond_true];simp) h
  ·exact one _ _ _ _ _ rfl rfl (by simp[bN]) h
theorem OS{kt:TypeId}{ks:List CK}{ka:Bool}(hK:BS P kt ks ka){n:Nat}{kv:Value}{k:AV}{kc:List AV}(hk:VR gh n w kv k)(pO:k.cells=some kc)(hl:kc.length=ks.length)(rD:ka=k.isAgg)
  {v:Value} {r:List AV} (hv:Kw gh.S w ks.length ka v r) (he:bN ks kc r=some true):Instr.sameBits 10000 v kv=true:=by
 obtain⟨f,rfl,hf⟩:=hv
 have Qc:=A4 he
 cases ka with
 | false =>
  have h1:=hK.kz rfl
  obtain⟨c,rfl⟩:=aqQ.1 h1
  have abq:kc=[k]:=by
   cases k<;>first|(cases rD;done)|(injection pO with pO;exact pO.symm)|(cases pO;done)
  subst abq
  obtain⟨x,y,k1,k2,k3⟩:=Qc 0 c rfl
  simp at k1
  subst k1
  exact Az hk (hf 0 y k2 (by simp)) k3
 | true =>
  obtain⟨C,rfl⟩:=vm hk rD
  have hC:Row gh n w C kc:=by
   rcases sO hk pO with ⟨C',e,_,hr⟩|⟨_,h1⟩
   ·injection e with e;subst e;exact hr
   ·simp[Value.oneCell'] at h1
  show Instr.sameBits (9999+1) (.agg ((List.range ks.length).map f).toArray) (.agg C)=true
  simp only[Instr.sameBits,Bool.and_eq_true,aqI,apA]
  refine⟨by simp[hC.1,hl],fun p hp=>?_⟩
  obtain⟨j,hj⟩:=aqb hp
  rw[aq9] at hj
  obtain⟨h1,h2⟩:=hj
  simp only[apG,apt] at h1
  obtain⟨i,hi,HW⟩:=h1
  obtain⟨aU,jn⟩:=apw.1 hi
  simp at aU jn
  subst jn
  have hc:ks[j]?=some ks[j]:=apy aU
  obtain⟨x,y,k1,k2,k3⟩:=Qc j _ hc
  have hu:=hC.2 j p.2 x (by simpa using h2) k1
  obtain⟨p1,p2⟩:=p
  simp only at HW hu ⊢
  rw[<- HW]
  exact Az hu (hf j y k2 aU) k3
theorem BQ{n:Nat}{v:Value}{x:AV}{cs:List AV}(h:VR gh n w v x)(hc:x.cells=some cs):v=qR x.isAgg cs.length (fun j=>v.cells.getD j undef)/\∀ (j:Nat) (y:AV),cs[j]?=some y->VR gh n w (v.cells.getD j undef) y/\(v.cells.getD j undef).oneCell'=true:=by
 have hr:=sh h hc
 refine⟨?_,fun j y hj=>?_⟩
 ·rcases sO h hc with ⟨C,rfl,rfl,bI⟩|⟨rfl,fX⟩
  ·simp only[qR,AV.isAgg,cond_true,Value.cells]
   congr 1
   refine Array.ext (by simp[bI.1]) (fun i h1 h2=>by simp[h1])
  ·have DV:x.isAgg=false:=by
    cases x<;>first|rfl|skip
    obtain⟨C,rfl,_⟩:=h.jQ
    simp[Value.oneCell'] at fX
   have hv:v.cells=#[v]:=by cases v<;>first|rfl|(simp[Value.oneCell'] at fX)
   simp[qR,DV,hv]
 ·have aU:j<v.cells.size:=by rw[hr.1];exact (apw.1 hj).1
  have hv:v.cells[j]?=some v.cells[j]:=apJ aU
  obtain⟨h1,h2⟩:=hr.2 j _ y hv hj
  simp only[arE,hv,Option.getD_some]
  exact⟨h1,h2⟩
end
end
section
section
variable {P:Program}{G:Nat->List AV}{base nt:Nat}{L:List Nat}{gh:Gh}{w w' : World}{a:Act}{s:AS}{H:ag}
theorem ny{agg:Bool}{n:Nat}{f g:Nat->Value}(h:∀ j,j<n->f j=g j)(hn:agg=false->0<n):qR agg n f=qR agg n g:=by
 cases agg with
 | true =>
  simp only[qR,cond_true]
  congr 2
  exact apY fun j hj=>h j (by simpa using hj)
 | false=>exact h 0 (hn rfl)
def ng(E:Array MapEntry)(ck:Nat)(o:Option Nat)(kv vv:Value):Array MapEntry × Nat :=
 match o with
 | none=>(E.push { key:=kv,val:=vv,born:=ck },ck+1)
 | some i=>(E.modify i fun e=>{ e with key:=kv,val:=vv },ck)
theorem TM{n:Nat}{t kt et:TypeId}{ks:List CK}{ka va:Bool}{vz:Nat}{zv:Value}{zero:List AV}(hT:D3 P t kt et ks ka va vz zv zero){kv vv:Value}{k:AV}{kc:List AV}(hk:VR gh n w kv k)(pO:k.cells=some kc)(hl:kc.length=ks.length)(rD:ka=k.isAgg)
  {b:Nat} {E:Array MapEntry} {ck:Nat} {es:List (List AV)} (hb:w.heap[b]?=some (.map E ck)) (hR:Rows gh n w E ks.length ka va es) {o:Option Nat} (hf:fH ks kc es=some o) :
  (Instr.mapUpdate t (.map (some b)) kv vv).run P w=.ok () (tO w b (ng E ck o kv vv).1 (ng E ck o kv vv).2):=by
 have ql:=sI hT.key hk pO hl rD false
 have HW:=u5 hT.key hk pO hl rD (l:=E.toList) (by simpa using hR.size) (fun i e r h1 h2=>hR.key i e r (by simpa using h1) h2) hf
 cases o with
 | none =>
  have hs:=zw (P:=P) (w:=w) (E':=E.push { key:=kv,val:=vv,born:=ck }) (ck':=ck+1) hb
  simp[Instr.mapUpdate,run_underlying hT.ht,getObj,Sem.run,hb]
  simp[ql,HW,ng]
  exact hs
 | some i =>
  have hi:=uC hf
  have hiE:i<E.size:=by rw[hR.size];exact hi
  have hE:E[i]?=some E[i]:=apJ hiE
  have he:es[i]?=some es[i]:=apy hi
  have af3:=OS hT.key hk pO hl rD (hR.key i _ _ hE he) (find_eq hf he)
  have hs:=zw (P:=P) (w:=w) (E':=E.modify i fun e=>{ e with key:=kv,val:=vv }) (ck':=ck) hb
  simp[Instr.mapUpdate,run_underlying hT.ht,getObj,Sem.run,hb]
  simp only[Option.map_some] at HW
  simp[ql,HW,ng,hiE,Instr.keyThatStays,af3]
  exact hs
theorem aef{n l b kz:Nat}{ka va:Bool}{es:List (List AV)}{E:Array MapEntry}{ck:Nat}{f:Nat->Nat->Value}(hW:aM G base H gh w)(hκ:gh.κ b=.hb l)(hS:∀ o,¬ gh.S b o)(hb:w.heap[b]?=some (.map E ck))(hE:Au E ck kz ka va es f)
  (h1:∀ (i j:Nat) (r:List AV) (x:AV),es[i]?=some r->r[j]?=some x->j<kz->PR gh.S w (f i j) x)
  (h2:∀ (i j:Nat) (r:List AV) (x:AV),es[i]?=some r->r[j]?=some x->kz<=j->(f i j).oneCell'=true/\(va=true->VR gh n w (f i j) x)/\CR gh n w (.hs l i) (f i j) x)
  {kc vc:List AV} {fk fv:Nat->Value} (hkz:kc.length=kz) (ZH:ka=false->kz=1) (VK:va=false->vc.length=1) (hkk:∀ (j:Nat) (x:AV),kc[j]?=some x->PR gh.S w (fk j) x)
  {o:Option Nat} (ho:∀ i,o=some i->i<es.length) (hvv:∀ (j:Nat) (x:AV),vc[j]?=some x->(fv j).oneCell'=true/\(va=true->VR gh n w (fv j) x)/\CR gh n w (.hs l (o.getD es.length)) (fv j) x) :
  we gh n (tO w b (ng E ck o (qR ka kz fk) (qR va vc.length fv)).1 (ng E ck o (qR ka kz fk) (qR va vc.length fv)).2) b (.hb l) (fun i=>.hs l i) kz ka va (tU es o (kc++vc)):=by
 have st:=GX (E':=(ng E ck o (qR ka kz fk) (qR va vc.length fv)).1) (ck':=(ng E ck o (qR ka kz fk) (qR va vc.length fv)).2) hW hb hS n
 rw[hκ] at st
 let idx:=o.getD es.length
 let f' : Nat->Nat->Value:=fun i j=>if i=idx then (if j<kz then fk j else fv (j-kz)) else f i j
 have bI:∀ i r,(tU es o (kc++vc))[i]?=some r->(i=idx/\r=kc++vc)\/(i≠idx/\es[i]?=some r):=by
  intro i r hr
  cases o with
  | none =>
   simp only[tU] at hr
   by_cases aU:i<es.length
   ·rw[apN aU] at hr
    exact .inr ⟨by show i≠es.length;omega,hr⟩
   ·rw[apM (by omega)] at hr
    have hz:i=es.length:=by
     have:=(apw.1 hr).1
     simp at this;omega
    subst hz
    simp at hr
    exact .inl ⟨rfl,hr.symm⟩
  | some i0 =>
   simp only[tU] at hr
   rw[ap6] at hr
   split at hr
   ·rename_i e
    subst e
    split at hr
    ·injection hr with hr
     exact .inl ⟨rfl,hr.symm⟩
    ·cases hr
   ·rename_i e
    exact .inr ⟨aqM e,hr⟩
 have K6:kz<=(kc++vc).length/\(ka=false->kz=1)/\(va=false->(kc++vc).length=kz+1)/\qR ka kz fk=qR ka kz (f' idx)/\qR va vc.length fv=qR va ((kc++vc).length-kz) (fun j=>f' idx (kz+j)):=by
  rw[apL,hkz]
  refine⟨by omega,ZH,fun h=>by rw[VK h],ny (fun j hj=>?_) (fun h=>by rw[ZH h];omega),?_⟩
  ·simp only[f',if_pos rfl,if_pos hj]
  ·rw[Nat.add_sub_cancel_left]
   refine ny (fun j hj=>?_) (fun h=>by rw[VK h];omega)
   have e:¬ kz+j<kz:=by omega
   simp only[f',if_pos rfl,if_neg e,Nat.add_sub_cancel_left]
 refine⟨hκ,hS,_,_,f',HE hb,?_,fun i j r x hi hj hl=>?_,fun i j r x hi hj hl=>?_⟩
 ·cases o with
  | none =>
   refine⟨by simp[ng,tU,hE.size],by simp[ng,hE.clk],fun i e he=>?_,fun i e he=>?_,fun i j e e' he xt MZ=>?_,fun i e r he hr=>?_⟩
   ·simp only[ng] at he
    rw[ara] at he
    split at he
    ·rename_i Gs;injection he with he;subst he;rw[Gs];exact hE.clk
    ·exact hE.at' i e he
   ·simp only[ng] at he ⊢
    rw[ara] at he
    split at he
    ·injection he with he;subst he;simp
    ·have:=hE.born i e he;omega
   ·simp only[ng] at he xt
    rw[ara] at he xt
    split at he<;>split at xt
    ·omega
    ·injection he with he;subst he
     have:=hE.born j e' xt
     simp only at MZ;omega
    ·injection xt with xt;subst xt
     have:=hE.born i e he
     simp only at MZ;omega
    ·exact hE.apart i j e e' he xt MZ
   ·simp only[ng] at he
    rw[ara] at he
    rcases bI i r hr with ⟨hi,rfl⟩|⟨hi,hr⟩
    ·have jr:i=es.length:=hi
     rw[if_pos (by rw[hE.size];exact jr)] at he
     injection he with he
     subst he
     subst hi
     exact K6
    ·have jr:i≠es.length:=hi
     rw[if_neg (by rw[hE.size];exact jr)] at he
     obtain⟨k1,k2,k3,k4,k5⟩:=hE.row i e r he hr
     refine⟨k1,k2,k3,?_,?_⟩
     ·rw[k4];refine ny (fun j _=>?_) (fun h=>by rw[k2 h];omega)
      simp only[f',if_neg hi]
     ·rw[k5];refine ny (fun j _=>?_) (fun h=>by rw[k3 h];omega)
      simp only[f',if_neg hi]
  | some i0 =>
   have fQ:∀ {i:Nat} {e:MapEntry},(E.modify i0 fun e=>{ e with key:=qR ka kz fk,val:=qR va vc.length fv })[i]?=some e->∃ e0,E[i]?=some e0/\e=if i=i0 then { e0 with key:=qR ka kz fk,val:=qR va vc.length fv } else e0:=by
    intro i e he
    rw[Array.getElem?_modify] at he
    split at he
    ·rename_i yH
     simp only[apt] at he
     obtain⟨e0,h0,rfl⟩:=he
     exact⟨e0,h0,by rw[if_pos yH.symm]⟩
    ·rename_i yH
     exact⟨e,he,by rw[if_neg (aqM yH)]⟩
   have KZ:∀ {i:Nat} {e e0:MapEntry},(e=if i=i0 then { e0 with key:=qR ka kz fk,val:=qR va vc.length fv } else e0)->e.born=e0.born:=by
    intro i e e0 h
    rw[h];split<;>rfl
   refine⟨by simp[ng,tU,hE.size],by simp[ng,hE.clk],fun i e he=>?_,fun i e he=>?_,fun i j e e' he xt MZ=>?_,fun i e r he hr=>?_⟩
   ·obtain⟨e0,h0,h⟩:=fQ he
    rw[KZ h]
    exact hE.at' i e0 h0
   ·obtain⟨e0,h0,h⟩:=fQ he
    rw[KZ h]
    exact hE.born i e0 h0
   ·obtain⟨e0,h0,h⟩:=fQ he
    obtain⟨e0',h0',h'⟩:=fQ xt
    rw[KZ h,KZ h'] at MZ
    exact hE.apart i j e0 e0' h0 h0' MZ
   ·obtain⟨e0,h0,h⟩:=fQ he
    rcases bI i r hr with ⟨hi,rfl⟩|⟨hi,hr⟩
    ·have jr:i=i0:=hi
     rw[if_pos jr] at h
     subst h
     subst hi
     exact K6
    ·have jr:i≠i0:=hi
     rw[if_neg jr] at h
     subst h
     obtain⟨k1,k2,k3,k4,k5⟩:=hE.row i e r h0 hr
     refine⟨k1,k2,k3,?_,?_⟩
     ·rw[k4];refine ny (fun j _=>?_) (fun h=>by rw[k2 h];omega)
      simp only[f',if_neg hi]
     ·rw[k5];refine ny (fun j _=>?_) (fun h=>by rw[k3 h];omega)
      simp only[f',if_neg hi]
 ·rcases bI i r hi with ⟨rfl,rfl⟩|⟨bC,hr⟩
  ·rw[apN (by omega)] at hj
   simp only[f',if_pos rfl,if_pos hl]
   exact (hkk j x hj).mono st.S st.cell st.mp
  ·simp only[f',if_neg bC]
   exact (h1 i j r x hr hj hl).mono st.S st.cell st.mp
 ·rcases bI i r hi with ⟨rfl,rfl⟩|⟨bC,hr⟩
  ·rw[apM (by omega),hkz] at hj
   have e:¬ j<kz:=by omega
   simp only[f',if_pos rfl,if_neg e]
   obtain⟨k1,k2,k3⟩:=hvv (j-kz) x hj
   exact⟨k1,fun h=>(k2 h).mono st (apz _),k3.mono st (apz _) (by simp)⟩
  ·simp only[f',if_neg bC]
   obtain⟨k1,k2,k3⟩:=h2 i j r x hr hj hl
   exact⟨k1,fun h=>(k2 h).mono st (apz _),k3.mono st (apz _) (by simp)⟩
theorem rA{l:Nat}{x:AV}(h:x.plain=true):aV l x=true:=by
 cases x<;>first|exact h|(simp[AV.plain] at h;done)|(simp only[aV,AV.drop];exact h)|(simp[aV,AV.drop,AV.plain] at h ⊢;done)|skip
 rename_i f fs cs
 cases fs<;>cases cs<;>first|rfl|(simp[AV.plain] at h)
theorem KO(hW:aM G base s.H gh w)(hF:FR L nt gh w a s){o:Oper}{t kt et:TypeId}{ks:List CK}{ka va:Bool}{vz:Nat}{zv:Value}{zero:List AV}(hT:D3 P t kt et ks ka va vz zv zero){xm xk xv:Operand}{ym yk yv:ar}{s' : AS}
  (ho:o.op=.mapUpdate t xm xk xv\/o.op=.insert t xm xk xv) (hcm:ak nt xm=some ym) (hck:ak nt xk=some yk) (P5:ak nt xv=some yv)
  (he:nK s ks.length ka va vz ks (ym.addr G s.T) (yk.eval G s.T) (yv.eval G s.T)=some s') (hd:∀ k,o.dst=some k->k<nt) :
  ∃ v' aK w',sP P a o w v' w'/\Out G base nt L gh w a s o.dst .undef (s'.bH yv) v' aK w':=by
 have hm:=arg_val hW hF hcm
 unfold nK at he
 generalize hY:ym.addr G s.T=Y at hm he
 cases Y<;>simp only at he<;>try (cases he;done)
 rename_i l
 obtain⟨aU,mC⟩:=VR.nR (hm:VR gh s.H.length w (a.eval xm) (.mref l))
 split at he
 ·rename_i me mb mU es hH
  simp only[apu] at he
  obtain⟨kc,pO,vc,VM,K0⟩:=he
  obtain⟨h0,tH⟩:=ab K0
  clear K0
  simp only[Bool.and_eq_true,dX,apS,aqI] at h0
  obtain⟨⟨⟨⟨⟨⟨⟨⟨hl,ZV⟩,rfl⟩,rfl⟩,rfl⟩,rD⟩,hva⟩,ZU⟩,ZI⟩:=h0
  simp only[apt] at tH
  obtain⟨oi,hf,rfl⟩:=tH
  have ajS:aq (yk.eval G s.T)=true:=by rw[<- gK];exact gL pO
  have ajT:aq (yv.eval G s.T)=true:=gL VM
  have hk0:=cc hW hF hck rfl ajS
  obtain⟨j4,oZ,wB,A7,LH,kQ⟩:=pf hW hF P5 ajT (.hs l (oi.getD es.length)) (by simp)
  have hρ:j4.ρ l=gh.ρ l:=LH.ρ l aU
  have hk:=hk0.mono LH (apz _)
  obtain⟨⟨hκ,hS,E,ck,f,hb,hE,h1,h2⟩,dy⟩:=oZ.more l _ hH
  obtain⟨E2,UI,jd,hR⟩:=qD (oZ.more l _ hH).1
  have hEE:E2=E/\UI=ck:=by
   rw[hb] at jd
   injection jd with jd
   injection jd with e1 e2
   exact⟨e1.symm,e2.symm⟩
  obtain⟨rfl,rfl⟩:=hEE
  obtain⟨Us,VA⟩:=BQ hk pO
  have gy:∃ fv:Nat->Value,a.eval xv=qR va vc.length fv/\∀ (j:Nat) (x:AV),(cond va (vc.map AV.drop) vc)[j]?=some x->(fv j).oneCell'=true/\(va=true->VR j4 s.H.length w (fv j) x)/\CR j4 s.H.length w (.hs l (oi.getD es.length)) (fv j) x:=by
   cases agU:va with
   | true =>
    have DV:(yv.eval G s.T).isAgg=true:=by rw[<- hva,agU]
    have Jx:VR j4 s.H.length w (a.eval xv) (yv.eval G s.T):=by
     rcases kQ with h|⟨e,h,_⟩
     ·exact h
     ·rw[h] at DV;cases DV
    obtain⟨VK,VL⟩:=BQ Jx VM
    rw[DV] at VK
    refine⟨_,VK,fun j x hj=>?_⟩
    simp only[cond_true,apG,apt] at hj
    obtain⟨y,hy,rfl⟩:=hj
    obtain⟨m1,m2⟩:=VL j y hy
    exact⟨m2,fun _=>m1.dropped,.inl m1.dropped⟩
   | false =>
    have DV:(yv.eval G s.T).isAgg=false:=by rw[<- hva,agU]
    have akD:vc=[yv.eval G s.T]:=by
     generalize yv.eval G s.T=V at VM DV
     cases V<;>first|(cases DV;done)|(injection VM with VM;exact VM.symm)|(cases VM;done)
    refine⟨fun _=>a.eval xv,by simp[qR],fun j x hj=>?_⟩
    rw[akD] at hj
    cases j with
    | succ j=>simp at hj
    | zero =>
     simp at hj
     subst hj
     refine⟨?_,(fun h=>by cases h),kQ⟩
     rcases kQ with h|⟨e,_,hp,_⟩
     ·exact h.fg (fun cs e=>by rw[e] at DV;cases DV) (fun cs e=>by rw[e] at VM;cases VM)
     ·exact hp.fg
  obtain⟨fv,hvv,VN⟩:=gy
  have K4:(cond va (vc.map AV.drop) vc).length=vc.length:=by cases va<;>simp
  have akF:va=false->(cond va (vc.map AV.drop) vc).length=1:=fun h=>by rw[K4,ZV];exact hT.vz1 h
  have cE:=TM (vv:=a.eval xv) hT hk pO hl rD hb hR hf
  have aj' : a.eval xk=qR ka ks.length (fun j=>(a.eval xk).cells.getD j undef):=by rw[rD,<- hl];exact Us
  have hMA:=aef (n:=s.H.length) (l:=l) (fk:=fun j=>(a.eval xk).cells.getD j undef) (fv:=fv) (vc:=cond va (vc.map AV.drop) vc) (o:=oi) oZ hκ hS hb hE h1 h2 hl (fun h=>hT.key.kz h) akF
   (fun j x hj=>(VA j x hj).1.kb (apA.1 ZI x (apF hj))) (fun i hi=>by subst hi;exact uC hf) VN
  rw[K4,<- aj',<- hvv] at hMA
  have wX:=GX (E':=(ng E2 UI oi (a.eval xk) (a.eval xv)).1) (ck':=(ng E2 UI oi (a.eval xk) (a.eval xv)).2) oZ hb hS s.H.length
  rw[hκ] at wX
  have PX:((tU es oi (kc++cond va (vc.map AV.drop) vc)).all fun r=>r.all (aV l))=true:=by
   have qT:(kc++cond va (vc.map AV.drop) vc).all (aV l)=true:=by
    rw[arX,Bool.and_eq_true]
    refine⟨apA.2 fun x hx=>rA (apA.1 ZI x hx),?_⟩
    cases va with
    | false=>exact ZU
    | true =>
     refine apA.2 fun x hx=>?_
     obtain⟨y,hy,rfl⟩:=ap9.1 hx
     exact oQ (apA.1 ZU y hy)
   refine apA.2 fun r hr=>?_
   cases oi with
   | none =>
    simp only[tU,apC,apI] at hr
    rcases hr with hr|rfl
    ·exact apA.1 dy r hr
    ·exact qT
   | some i =>
    simp only[tU] at hr
    rcases ar5 hr with hr|rfl
    ·exact apA.1 dy r hr
    ·exact qT
  have gM:(tO w (j4.ρ l) (ng E2 UI oi (a.eval xk) (a.eval xv)).1 (ng E2 UI oi (a.eval xk) (a.eval xv)).2).heap.size=w.heap.size:=by simp[tO]
  have CZ:=oZ.u6 (o:=.map ks.length ka va (tU es oi (kc++cond va (vc.map AV.drop) vc))) wX aU (by intro k hk;simp[hk]) (fun b o ho=>by rw[gM];exact oZ.nB b o ho) (fun b hb=>by rw[gM];exact oZ.oT b hb) (fun _ _ h=>by cases h) ⟨hMA,PX⟩ (fun _ _ _ h=>.inl h)
  have hS:=gz s yv
  have yB:Ext s.H.length j4 w j4 (tO w (j4.ρ l) (ng E2 UI oi (a.eval xk) (a.eval xv)).1 (ng E2 UI oi (a.eval xk) (a.eval xv)).2):=⟨wX.mono (fun r h=>by rw[h];simp[pM]),fun b hb=>hb⟩
  have Jn:FR L nt j4 _ a ((s.bH yv).fC ⟨s.H.set l (.map ks.length ka va (tU es oi (kc++cond va (vc.map AV.drop) vc))),l⟩):=wB.grown (by rw[hS.1];exact wX) (fun i=>⟨by simp,by simp,by simp⟩) (by rw[hS.1];simp)
  refine⟨undef,j4,tO w (j4.ρ l) (ng E2 UI oi (a.eval xk) (a.eval xv)).1 (ng E2 UI oi (a.eval xk) (a.eval xv)).2,.inr ⟨?_,rfl⟩,?_⟩
  rotate_left
  ·rw[vZ]
   exact Out.skip (s1:=(s.bH yv).fC ⟨s.H.set l (.map ks.length ka va (tU es oi (kc++cond va (vc.map AV.drop) vc))),l⟩) CZ Jn (A7.trans yB (apz _)) hd
  ·rcases ho with ho|ho<;>simp[execOp,ho,mC,<- hρ,cE]
 ·cases he
end
end
section
section
variable {P:Program}{G:Nat->List AV}{base nt:Nat}{L:List Nat}{gh:Gh}{w w' : World}{a:Act}{s:AS}{H:ag}
theorem IT{l b kz i:Nat}{ka:Bool}{es:List (List AV)}{n:Nat}(hW:aM G base H gh w)(hM:we gh n w b (.hb l) (fun i=>.hs l i) kz ka false es){r:List AV}{v:AV}(hi:es[i]?=some r)(hv:r[kz]?=some v)(p:bc)(hp:p≠.outer)(m:Nat) :
  ∃ aK u E ck,(∀ b o,aK.S b o->gh.S b o)/\Step (fun o=>o=.hs l i) m gh w aK w/\Ext m gh w aK w/\(∀ b o,aK.S b o->b<w.heap.size)/\(∀ b,aK.κ b≠.none->base<=b/\b<w.heap.size) /\
   we aK n w b (.hb l) (fun i=>.hs l i) kz ka false (es.set i (bU kz r))/\w.heap[b]?=some (.map E ck)/\(E[i]?).map (·.val)=some u/\u.oneCell'=true/\CR aK n w p u v:=by
 have dH:=fun b hb=>hW.bL (gh:=gh) b hb
 obtain⟨hκ,hS,E,ck,f,hb,hE,h1,h2⟩:=hM
 have M6:i<es.length:=(apw.1 hi).1
 have hiE:i<E.size:=by rw[hE.size];exact M6
 have Zy:E[i]?=some E[i]:=apJ hiE
 obtain⟨r1,r2,r3,r4,r5⟩:=hE.row i _ r Zy hi
 have Qs:=r3 rfl
 have gy:E[i].val=f i kz:=by rw[r5];simp[qR]
 obtain⟨c1,_,c2⟩:=h2 i kz r v hi hv (apz _)
 have bI:∀ {k:Nat} {q:List AV},(es.set i (bU kz r))[k]?=some q->(k=i/\q=bU kz r)\/(k≠i/\es[k]?=some q):=by
  intro k q hq
  rw[ap6] at hq
  split at hq
  ·rename_i e
   subst e
   injection hq with hq;exact .inl ⟨rfl,hq.symm⟩
  ·rename_i e;exact .inr ⟨aqM e,hq⟩
 have hlen:(bU kz r).length=r.length:=by simp[bU]
 have Zx:Au E ck kz ka false (es.set i (bU kz r)) f:=by
  refine⟨by simp[hE.size],hE.clk,hE.at',hE.born,hE.apart,fun k e q he hq=>?_⟩
  rcases bI hq with ⟨rfl,rfl⟩|⟨_,hq⟩
  ·have:=hE.row k e r he hi
   rw[hlen];exact this
  ·exact hE.row k e q he hq
 have cell:∀ {k j:Nat} {q:List AV} {x:AV},(es.set i (bU kz r))[k]?=some q->q[j]?=some x->∃ q0 x0,es[k]?=some q0/\q0[j]?=some x0/\((k=i/\j=kz/\x=x0.drop)\/(¬ (k=i/\j=kz)/\x=x0)):=by
  intro k j q x hq hx
  rcases bI hq with ⟨rfl,rfl⟩|⟨bC,hq⟩
  ·rw[qu] at hx
   split at hx
   ·rename_i e
    simp only[apt] at hx
    obtain⟨x0,rH,rfl⟩:=hx
    exact⟨r,x0,hi,rH,.inl ⟨rfl,e,rfl⟩⟩
   ·rename_i e;exact⟨r,x,hi,hx,.inr ⟨fun h=>e h.2,rfl⟩⟩
  ·exact⟨q,x,hq,hx,.inr ⟨fun h=>bC h.1,rfl⟩⟩
 have keys:∀ {aK:Gh},(∀ b o,gh.S b o->aK.S b o)->∀ (k j:Nat) (q:List AV) (x:AV),(es.set i (bU kz r))[k]?=some q->q[j]?=some x->j<kz->PR aK.S w (f k j) x:=by
  intro aK hSS k j q x hq hx hj
  obtain⟨q0,x0,k1,k2,⟨_,e,_⟩|⟨_,rfl⟩⟩:=cell hq hx
  ·omega
  ·exact (h1 k j q0 x k1 k2 hj).mono hSS (fun _ _ _=>rfl) (fun _ _ _ _ h=>h)
 rcases c2 with Jx|⟨e,rfl,DU,b',cap,C',kP,lo,jr,sz,ZV,hk,he,gb,Jm,zP,hl,hh,hS'⟩
 ·refine⟨gh,E[i].val,E,ck,fun _ _ h=>h,Step.refl _ _ _ _ dH,Ext.refl _ _ _ dH,hW.nB,hW.oT,⟨hκ,hS,E,ck,f,hb,Zx,keys (fun _ _ h=>h),fun k j q x hq hx hj=>?_⟩,hb,by rw[Zy];rfl,by rw[gy];exact c1,by rw[gy];exact .inl Jx⟩
  obtain⟨q0,x0,k1,k2,⟨rfl,rfl,rfl⟩|⟨_,rfl⟩⟩:=cell hq hx
  ·obtain⟨m1,_,m3⟩:=h2 k j q0 x0 k1 k2 hj
   exact⟨m1,(fun h=>by cases h),.inl m3.dropped⟩
  ·exact h2 k j q0 x k1 k2 hj
 ·have aU:b' < w.heap.size:=(apD.1 gb).1
  have st:=jc hW aU p m
  rw[hk] at st
  have stn:=jc hW aU p n
  rw[hk] at stn
  have bC:b≠b':=by rintro rfl;rw[hκ] at hk;cases hk
  have hn:gh.κ b'≠.none:=by rw[hk];simp
  refine⟨gh.mG b' p,E[i].val,E,ck,fun _ _ h=>h,st,rz hW aU hp hn (by rw[hk];simp) m,hW.nB,?_,⟨by simp[Gh.mG,bC,hκ],hS,E,ck,f,hb,Zx,keys (fun _ _ h=>h),fun k j q x hq hx hj=>?_⟩,hb,by rw[Zy];rfl,by rw[gy];exact c1,
   by rw[gy];exact .inr ⟨e,rfl,DU,b',cap,C',kP,lo,jr,sz,ZV,by simp[Gh.mG],he,gb,Jm,zP,hl,hh,hS'⟩⟩
  ·intro b1 A'
   have jd:(if b1=b' then p else gh.κ b1)≠.none:=A'
   split at jd
   ·rename_i e;rw[e];exact hW.oT b' hn
   ·exact hW.oT b1 jd
  ·obtain⟨q0,x0,k1,k2,⟨rfl,rfl,rfl⟩|⟨aki,rfl⟩⟩:=cell hq hx
   ·obtain⟨m1,_,m3⟩:=h2 k j q0 x0 k1 k2 hj
    exact⟨m1,(fun h=>by cases h),.inl ((m3.dropped).mono stn (apz _))⟩
   ·obtain⟨m1,m2,m3⟩:=h2 k j q0 x k1 k2 hj
    refine⟨m1,(fun h=>by cases h),m3.mono stn (apz _) (fun e=>?_)⟩
    injection e with _ e
    subst e
    have Nb:q0=r:=by rw[hi] at k1;injection k1 with k1;exact k1.symm
    subst Nb
    have:=(apw.1 k2).1
    exact aki ⟨rfl,by omega⟩
theorem u4{o:Oper}{c:Call}{x:Operand}{t:TypeId}(ho:o.op=.call c)(gx:c.callee=.builtin .len)(dF:c.args.toList=[x])(jy:c.argTypes.toList=[t]){v:Value}
  (cE:(Builtin.len_ #[t] o.type #[a.eval x]).run P w=.ok v w'):(execOp a.eval o).run P w=.ok (.value v) w':=by
 have e1:c.args=#[x]:=by apply arF;simpa using dF
 have e2:c.argTypes=#[t]:=by apply arF;simpa using jy
 unfold execOp
 simp only[ho,resolve,gx,e1,e2,invoke,builtin,Sem.run_bind,Sem.run_pure,Result.andThen_ok,arG,apZ,aqe,cE]
theorem run_len_map{t kt et:TypeId}{o:Oper}{c:Call}{x:Operand}(ho:o.op=.call c)(gx:c.callee=.builtin .len)(dF:c.args.toList=[x])(jy:c.argTypes.toList=[t])(ht:P.underlying t=some (.map kt et)){v:Value}{n:Nat}
  (h:(v=.map none/\n=0)\/∃ b E ck,v=.map (some b)/\w.heap[b]?=some (.map E ck)/\E.size=n) (mC:a.eval x=v):(execOp a.eval o).run P w=.ok (.value (.int .i64 n)) w:=by
 refine u4 ho gx dF jy ?_
 rw[mC]
 rcases h with ⟨rfl,rfl⟩|⟨b,E,ck,rfl,hb,rfl⟩
 ·simp[Builtin.len_,run_underlying ht,goInt]
 ·simp[Builtin.len_,run_underlying ht,goInt,getObj,Sem.run,hb]
theorem Dg(hW:aM G base s.H gh w)(hF:FR L nt gh w a s){x:Operand}{y:ar}(hc:ak nt x=some y):(y.addr G s.T=.cN->a.eval x=.map none) /\
  (∀ kz ka va es,y.addr G s.T=.dR kz ka va es->PR gh.S w (a.eval x) (.dR kz ka va es))/\∀ l,y.addr G s.T=.mref l->l<s.H.length/\a.eval x=.map (some (gh.ρ l)):=by
 have hm:=arg_val hW hF hc
 refine⟨fun h=>?_,fun kz ka va es h=>?_,fun l h=>?_⟩
 ·rw[h] at hm
  generalize a.eval x=V at hm
  cases (hm:VR gh s.H.length w V .cN) with
  | plain _ _ h=>cases h;rfl
 ·rw[h] at hm
  generalize a.eval x=V at hm
  cases (hm:VR gh s.H.length w V (.dR _ _ _ _)) with
  | plain _ _ h=>exact h
 ·rw[h] at hm
  exact VR.nR hm
theorem PT(hW:aM G base s.H gh w)(hF:FR L nt gh w a s){x:Operand}{y:ar}(hc:ak nt x=some y){kz:Nat}{ka va:Bool}{es:List (List AV)}(h:y.addr G s.T=.mX kz ka va es):PR gh.S w (a.eval x) (.mX kz ka va es):=by
 have hm:=arg_val hW hF hc
 rw[h] at hm
 generalize a.eval x=V at hm
 cases (hm:VR gh s.H.length w V (.mX _ _ _ _)) with
 | plain _ _ h=>exact h
theorem U4(hW:aM G base s.H gh w)(hF:FR L nt gh w a s){o:Oper}{c:Call}{x:Operand}{t kt et:TypeId}{y:ar}{z:AV}{s' : Option AS}{cf:cA}
  (ho:o.op=.call c) (gx:c.callee=.builtin .len) (dF:c.args.toList=[x]) (jy:c.argTypes.toList=[t]) (hc:ak nt x=some y) (ht:P.underlying t=some (.map kt et))
  (he:au G cf s (.NB y)=some (z,s')):s'=none/\∃ v,(execOp a.eval o).run P w=.ok (.value v) w/\mA gh s.H.length nt w s.T s.gen (fB a) v z:=by
 obtain⟨m1,m2,m3⟩:=Dg hW hF hc
 simp only[au] at he
 have fin:∀ {v:Value} {n:Nat},((v=.map none/\n=0)\/∃ b E ck,v=.map (some b)/\w.heap[b]?=some (.map E ck)/\E.size=n)->a.eval x=v->∃ u,(execOp a.eval o).run P w=.ok (.value u) w/\mA gh s.H.length nt w s.T s.gen (fB a) u (.int .i64 n) :=
  fun h mC=>⟨_,run_len_map ho gx dF jy ht h mC,.cK (.plain _ _ (.int _ _))⟩
 split at he
 ·rename_i hY
  simp only[apv,apx] at he
  obtain⟨rfl,rfl⟩:=he
  exact⟨rfl,fin (n:=0) (.inl ⟨rfl,rfl⟩) (m1 hY)⟩
 ·rename_i hY
  simp only[apv,apx] at he
  obtain⟨rfl,rfl⟩:=he
  obtain⟨b,E,ck,hv,hb,hR⟩:=qE (b:=0) (n:=0) (m2 _ _ _ _ hY)
  exact⟨rfl,fin (.inr ⟨b,E,ck,rfl,hb,hR.size⟩) hv⟩
 ·rename_i l hY
  obtain⟨aU,mC⟩:=m3 l hY
  split at he
  ·rename_i hH
   simp only[apv,apx] at he
   obtain⟨rfl,rfl⟩:=he
   obtain⟨E,ck,hb,hR⟩:=qD (hW.more _ _ hH).1
   exact⟨rfl,fin (.inr ⟨_,E,ck,rfl,hb,hR.size⟩) mC⟩
  ·rename_i hH
   simp only[apv,apx] at he
   obtain⟨rfl,rfl⟩:=he
   obtain⟨b,E,ck,hv,hb,hR⟩:=qE (b:=0) (n:=0) (hW.more _ _ hH:PR gh.S w _ _)
   exact⟨rfl,fin (.inr ⟨b,E,ck,rfl,hb,hR.size⟩) (mC.trans hv)⟩
  ·cases he
 ·cases he
theorem PA(hW:aM G base s.H gh w)(hF:FR L nt gh w a s){o:Oper}{t kt et:TypeId}{ks:List CK}{ka:Bool}{vz:Nat}{zv:Value}{zero:List AV}(hT:D3 P t kt et ks ka false vz zv zero){x i:Operand}{y yi:ar}{z:AV}{s' : Option AS}
  (ho:o.op=.lookup t x i false) (hc:ak nt x=some y) (hi:ak nt i=some yi) (he:sm s ks.length ka ks zero (y.addr G s.T) (yi.eval G s.T)=some (z,s')) (hd:∀ k,o.dst=some k->k<nt) :
  ∃ v' aK w',sP P a o w v' w'/\Out G base nt L gh w a s o.dst z (s'.getD s) v' aK w':=by
 obtain⟨_,_,m3⟩:=Dg hW hF hc
 unfold sm at he
 split at he
 ·rename_i l hY
  obtain⟨aU,mC⟩:=m3 l hY
  split at he
  ·rename_i me mb es hH
   simp only[apu] at he
   obtain⟨kc,pO,K0⟩:=he
   obtain⟨h0,tH⟩:=ab K0
   clear K0
   simp only[Bool.and_eq_true,dX,apS,aqI] at h0
   obtain⟨⟨⟨hl,rfl⟩,rfl⟩,rD⟩:=h0
   simp only[apu] at tH
   obtain⟨oi,hf,ZD⟩:=tH
   have C1:aq (yi.eval G s.T)=true:=by rw[<- gK];exact gL pO
   have hk:=cc hW hF hi rfl C1
   have hMA:=(hW.more l _ hH).1
   have dy:=(hW.more l _ hH).2
   obtain⟨E,ck,hb,hR⟩:=qD hMA
   have ql:=sI hT.key hk pO hl rD E.isEmpty
   have HW:=u5 hT.key hk pO hl rD (l:=E.toList) (by simpa using hR.size) (fun i e r h1 h2=>hR.key i e r (by simpa using h1) h2) hf
   cases oi with
   | none =>
    simp only[apv,apx] at ZD
    obtain⟨rfl,rfl⟩:=ZD
    obtain⟨i0,Gs,hz0⟩:=hT.hz
    have hzr:(zeroValue et).run P w=.ok zv w:=by simp[zeroValue,typeInfo,Gs,hz0]
    have DV:=hT.agg
    have h1:zero.length=1:=by rw[hT.len];exact hT.vz1 rfl
    obtain⟨x0,rH⟩:=aqQ.1 h1
    obtain⟨_,hv⟩:=jb (gh:=gh) (n:=s.H.length) (w:=w) hT.cells
    have ZY:zv.cells=#[zv]:=by cases zv<;>first|rfl|(simp[LX] at DV)
    have Jx:VR gh s.H.length w zv (zero.headD .undef):=by
     rw[rH] at hv ⊢
     exact (hv 0 zv x0 (by rw[ZY];rfl) rfl).1
    refine⟨zv,gh,w,.inl ?_,Out.pure hW hF hd (.cK Jx)⟩
    simp[execOp,ho,mC,Instr.lookup,run_underlying hT.ht,getObj,Sem.run,hb]
    simp[ql,HW,hzr]
   | some j =>
    simp only[apt,apx] at ZD
    obtain⟨v,hv,rfl,rfl⟩:=ZD
    have Vz:=uC hf
    have hej:es[j]?=some es[j]:=apy Vz
    have jH:es.getD j []=es[j]:=by simp[List.getD,hej]
    rw[jH] at hv ⊢
    obtain⟨aK,u,E',ck',hSS,st,hE,pb,gm,hM',gb,hu,fX,kQ⟩:=IT hW hMA hej hv (N7 o.dst) (ni _) s.H.length
    have hEE:E'=E:=by
     rw[hb] at gb;injection gb with gb;injection gb with e1 _;exact e1.symm
    subst hEE
    have hρ:aK.ρ l=gh.ρ l:=st.ρ l aU
    have PX:((es.set j (bU ks.length es[j])).all fun r=>r.all (aV l))=true:=by
     refine apA.2 fun r hr=>?_
     rcases ar5 hr with hr|rfl
     ·exact apA.1 dy r hr
     ·exact ve (apA.1 dy _ (aq7 Vz))
    have lk:aM G base (s.H.set l (.map ks.length ka false (es.set j (bU ks.length es[j])))) aK w :=
     hW.u6 st aU (by intro k hk;exact⟨by simp,fun j' e=>by injection e with e _;exact hk e⟩) pb gm (fun _ _ h=>by cases h) (by rw[hρ];exact⟨hM',PX⟩) (fun b o _ h=>.inl (hSS b o h))
    have Af:FR L nt aK w a (s.fC ⟨s.H.set l (.map ks.length ka false (es.set j (bU ks.length es[j]))),l⟩):=hF.grown st (fun i=>⟨by simp,by simp,by simp⟩) (by simp)
    have hjE:E'[j]?=some (E'[j]'(by rw[hR.size];exact Vz)):=apJ _
    have M4:(E'.toList.getD j default).val=u:=by
     have h1:E'.toList[j]?=some (E'[j]'(by rw[hR.size];exact Vz)):=by rw[ap7];exact hjE
     rw[hjE] at hu
     injection hu with hu
     simp only[List.getD,h1,Option.getD_some]
     exact hu
    refine⟨u,aK,w,.inl ?_,Out.of (s1:=s.fC ⟨s.H.set l (.map ks.length ka false (es.set j (bU ks.length es[j]))),l⟩) (gen':=s.gen) lk Af hE (apz _) hd (.inl (iY kQ.aq)) (fun k hk=>?_)⟩
    ·simp only[Option.map_some,M4] at HW
     simp[execOp,ho,mC,Instr.lookup,run_underlying hT.ht,getObj,Sem.run,hb]
     simp[ql,HW]
    ·rw[hk] at kQ
     have:(s.fC ⟨s.H.set l (.map ks.length ka false (es.set j (bU ks.length es[j]))),l⟩).H.length=s.H.length:=by simp[AS.fC]
     rw[this]
     exact lM kQ.aq kQ
  ·cases he
 ·cases he
end
end
end Go.Abs
namespace Go.Abs
open Go.ChangeMaps (setBlock)
section
section
variable {P:Program}{G:Nat->List AV}{base nt:Nat}{L:List Nat}{gh:Gh}{w w' : World}{a:Act}{s:AS}{H:ag}
theorem Hq{α:Type}{key:α->Nat} : ∀ (l:List α) (x:α),x∈l->(∀ (i j:Nat) (a b:α),l[i]?=some a->l[j]?=some b->key a=key b->i=j)->l.Perm (x :: l.filter fun y=>decide (key y≠key x))
 | [],x,h,_=>by cases h
 | y :: l,x,h,hd=>by
  have M1:∀ (i j:Nat) (a b:α),l[i]?=some a->l[j]?=some b->key a=key b->i=j:=fun i j a b h1 h2 h3=>by
   have:=hd (i+1) (j+1) a b (by simpa using h1) (by simpa using h2) h3
   omega
  by_cases K9:key y=key x
  ·have dy:l.filter (fun z=>decide (key z≠key x))=l:=by
    refine List.filter_eq_self.2 fun z hz=>?_
    obtain⟨j,hj⟩:=aqb hz
    simp only[apS]
    intro e
    have:=hd 0 (j+1) y z rfl (by simpa using hj) (K9.trans e.symm)
    omega
   have hxe:x=y:=by
    rcases apO.1 h with h|h
    ·exact h
    ·obtain⟨j,hj⟩:=aqb h
     have:=hd 0 (j+1) y x rfl (by simpa using hj) K9
     omega
   subst hxe
   rw[arc,if_neg (by simp),dy]
  ·have hxl:x∈l:=by
    rcases apO.1 h with h|h
    ·subst h;exact absurd rfl K9
    ·exact h
   have ih:=Hq l x hxl M1
   rw[arc,if_pos (by simpa using K9)]
   exact (List.Perm.cons y ih).trans (List.Perm.swap x y _)
theorem An(hW:aM G base H gh w){b:Nat}{o:Obj}{w1:World}(hw1:w1=w\/w1=w.drew)(aU:b<w.heap.size)(hS:∀ o,¬ gh.S b o)(hnc:∀ C ty fr,w.heap[b]?≠some (.cells C ty fr))(n:Nat):Step (fun r=>r=gh.κ b) n gh w gh (setBlock w1 b o):=by
 have Ba:(setBlock w1 b o).heap=w.heap.setIfInBounds b o:=by rcases hw1 with rfl|rfl<;>rfl
 have C3:∀ b',b'≠b->(setBlock w1 b o).heap[b']?=w.heap[b']?:=fun b' h=>by rw[Ba];simp[aqM h]
 have bC:∀ b' o,gh.S b' o->b'≠b:=fun b' o h=>by rintro rfl;exact hS o h
 refine⟨fun _ _ h=>h,fun b' o h=>cell_of_heap (C3 b' (bC b' o h)),by rw[Ba];simp,?_,?_,?_,fun b' gb hn=>?_,fun b' gb=>?_,fun _ _=>rfl,fun b' ty m hm=>?_,fun b' E1 c1 hs hm=>?_⟩
 ·rcases hw1 with rfl|rfl<;>rfl
 ·rcases hw1 with rfl|rfl<;>rfl
 ·rcases hw1 with rfl|rfl<;>rfl
 ·have Ag:b'≠b:=by rintro rfl;exact hn rfl
  exact⟨.inl (C3 b' Ag),rfl,fun _ h=>h⟩
 ·have:w.heap.size<=b':=by first|exact gb|(rw[Ba] at gb;simpa using gb)
  exact hW.bL b' this
 ·obtain⟨C,fr,h1,h2⟩:=hm
  have Ag:b'≠b:=by rintro rfl;exact hnc C ty fr h1
  exact⟨C,fr,by rw[C3 b' Ag];exact h1,h2⟩
 ·rw[C3 b' (bC b' 0 hs)];exact hm
theorem sW{x:AV}(h:x.plain=true):x.drop=x:=by
 cases x<;>try rfl
 rename_i e own
 cases own
 ·rfl
 ·simp[AV.plain] at h
def Gh.Ja(gh:Gh)(b:Nat):Gh:={ gh with S:=fun b' o=>gh.S b' o\/(b'=b/\o=0) }
theorem JV(hW:aM G base s.H gh w)(hF:FR L nt gh w a s){l kz:Nat}{ka va:Bool}{es:List (List AV)}(hH:s.H[l]?=some (.map kz ka va es))(mJ:(es.all fun r=>r.all AV.plain)=true) :
  ∃ j4,aM G base (s.H.set l (.dR kz ka va es)) j4 w/\FR L nt j4 w a (s.fC ⟨s.H.set l (.dR kz ka va es),l⟩)/\Ext s.H.length gh w j4 w/\j4.ρ l=gh.ρ l/\PR j4.S w (.map (some (gh.ρ l))) (.dR kz ka va es):=by
 have aU:l<s.H.length:=(apw.1 hH).1
 obtain⟨⟨hκ,hS,E,ck,f,hb,hE,h1,h2⟩,_⟩:=hW.more l _ hH
 have PZ:gh.ρ l<w.heap.size:=(apD.1 hb).1
 have st:∀ n,Step (fun r=>r=.hb l) n gh w (gh.Ja (gh.ρ l)) w:=fun n=>by
  refine⟨fun b o h=>.inl h,fun _ _ _=>rfl,apz _,rfl,rfl,rfl,fun b hb hn=>⟨.inl rfl,rfl,fun o ho=>?_⟩,fun b hb=>hW.bL b hb,fun _ _=>rfl,fun _ _ _ h=>h,fun _ _ _ _ h=>h⟩
  rcases ho with ho|⟨rfl,_⟩
  ·exact ho
  ·exact absurd hκ hn
 have hP:PR (gh.Ja (gh.ρ l)).S w (.map (some (gh.ρ l))) (.dR kz ka va es):=by
  refine .dR (gh.ρ l) kz ka va es E ck f (.inr ⟨rfl,rfl⟩) hb hE (fun i j r x hi hj=>?_)
  have hx:=apA.1 (apA.1 mJ r (apF hi)) x (apF hj)
  have hp:PR gh.S w (f i j) x:=by
   by_cases aU:j<kz
   ·exact h1 i j r x hi hj aU
   ·have:=((h2 i j r x hi hj (by omega)).2.2).dropped
    rw[sW hx] at this
    exact this.kb hx
  exact hp.mono (st 0).S (st 0).cell (st 0).mp
 refine⟨gh.Ja (gh.ρ l),?_,?_,⟨(st _).mono (fun r h=>by rw[h];exact⟨by simp,by simp⟩),fun b hb=>hb⟩,rfl,hP⟩
 ·refine hW.u6 (st _) aU (by intro k hk;simp[hk]) (fun b o ho=>?_) hW.oT (fun _ _ h=>by cases h) hP (fun b o m ho=>?_)
  ·rcases ho with ho|⟨rfl,_⟩
   ·exact hW.nB b o ho
   ·exact PZ
  ·rcases ho with ho|⟨rfl,rfl⟩
   ·exact .inl ho
   ·exact .inr (fun hc=>by simp[World.cell?,hb] at hc)
 ·exact hF.grown (st _) (fun i=>⟨by simp,by simp,by simp⟩) (by simp)
theorem HA(hW:aM G base s.H gh w)(hF:FR L nt gh w a s){o:Oper}{kz:Nat}{ka va:Bool}(hd:∀ k,o.dst=some k->k<nt/\k∈L) :
  ∀ (m:Option Nat) (since:Nat) (es:List (List AV)),(execOp a.eval o).run P w=.ok (.value (.pointer (some ⟨w.heap.size,0,none⟩))) (w.alloc (.mapIter m since #[] since)) ->
   ((m=none/\es=[])\/∃ m0 E ck f,m=some m0/\gh.S m0 0/\w.heap[m0]?=some (.map E ck)/\since=ck/\∃ uz:List (List AV),vk E ck kz ka va uz f/\es.Perm uz/\(∀ (i j:Nat) (r:List AV) (x:AV),uz[i]?=some r->r[j]?=some x->PR gh.S w (f i j) x)) ->
   ∃ v' aK w',sP P a o w v' w'/\Out G base nt L gh w a s o.dst (.iter s.gen kz ka va [] es) { s with gen:=s.gen+1 } v' aK w':=by
  intro m since es cE hm
  have hp:=dP.alloc w (.mapIter m since #[] since)
  have bC:=ue o.dst
  have st:=ij hW hp bC (fun _=>False) s.H.length
  have Af:FR L nt (gh.alloc w.heap.size (HR o.dst) fun _=>False) (w.alloc (.mapIter m since #[] since)) a s:=hF.grown (H':=s.H) (lo':=s.lo) st (fun i=>⟨id,id,fun _=>id⟩) (apz _)
  have lk:=hW.alloc hp bC (fun _=>False) (fun _ _ h=>h.elim)
  refine⟨.pointer (some ⟨w.heap.size,0,none⟩),_,_,.inl cE,lk,Af.Ts (gen':=s.gen+1) (aqo _) (fun b hb=>lk.bL b hb) o.dst (fun k hk=>(hd k hk).1) (.inr ⟨⟨s.gen,apz _,rfl⟩,fun k hk=>(hd k hk).2⟩) ?_,nk hW hp bC _ _⟩
  intro k hk
  refine⟨arq _,w.heap.size,rfl,?_⟩
  rw[hk] at st ⊢
  refine⟨by simp[Gh.alloc,HR],?_,m,since,#[],since,hp.new,?_⟩
  ·rintro o (ho|⟨_,ho⟩)
   ·have:=hW.nB _ o ho;omega
   ·exact ho
  ·rcases hm with ⟨rfl,rfl⟩|⟨m0,E,ck,f,rfl,h1,h2,rfl,uz,h3,ZO,h4⟩
   ·exact .inl ⟨rfl,rfl,rfl,rfl⟩
   ·refine .inr ⟨m0,E,uz,since,f,rfl,st.S _ _ h1,st.mp _ _ _ h1 h2,h3,rfl,rfl,fun i j r x hi hj=>(h4 i j r x hi hj).mono st.S st.cell st.mp,.inl ⟨rfl,rfl⟩,?_⟩
    have:((E.toList.zip uz).filter fun p=>!(#[]:Array Nat).contains p.1.born)=E.toList.zip uz:=List.filter_eq_self.2 fun p _=>by simp
    rw[this]
    have hz:(E.toList.zip uz).map (·.2)=uz:=List.map_snd_zip (by have:=h3.size;simp;omega)
    rw[hz]
    exact ZO
theorem aaO(hW:aM G base s.H gh w)(hF:FR L nt gh w a s){o:Oper}{t kt et:TypeId}{x:Operand}{y:ar}{kz:Nat}{ka va:Bool}{z:AV}{s' : Option AS}{cf:cA}(ho:o.op=.range t x)(hc:ak nt x=some y)(ht:P.underlying t=some (.map kt et))
  (he:au G cf s (.rng kz ka va y)=some (z,s')) (hd:∀ k,o.dst=some k->k<nt/\k∈L) :
  ∃ v' aK w',sP P a o w v' w'/\Out G base nt L gh w a s o.dst z (s'.getD s) v' aK w':=by
 obtain⟨m1,m2,m3⟩:=Dg hW hF hc
 have key:=HA (P:=P) hW hF (o:=o) (kz:=kz) (ka:=ka) (va:=va) hd
 simp only[au] at he
 split at he
 ·rename_i hY
  simp only[apv,apx] at he
  obtain⟨rfl,rfl⟩:=he
  refine key none 0 [] ?_ (.inl ⟨rfl,rfl⟩)
  simp[execOp,ho,m1 hY,Instr.range,run_underlying ht,newObj,Sem.run]
 ·rename_i hY
  obtain⟨h0,tH⟩:=ab he
  clear he
  simp only[Bool.and_eq_true,dX,apS,aqI] at h0
  obtain⟨⟨rfl,rfl⟩,rfl⟩:=h0
  simp only[apv,apx] at tH
  obtain⟨rfl,rfl⟩:=tH
  have hp:=m2 _ _ _ _ hY
  generalize hA:a.eval x=V at hp
  cases hp with
  | dR b _ _ _ _ E ck f hS hb hE cy =>
   refine key (some b) ck _ ?_ (.inr ⟨b,E,ck,f,rfl,hS,hb,rfl,_,hE.iter,List.Perm.refl _,cy⟩)
   simp[execOp,ho,hA,Instr.range,run_underlying ht,newObj,getObj,Sem.run,hb]
 ·rename_i hY
  obtain⟨h0,tH⟩:=ab he
  clear he
  simp only[Bool.and_eq_true,dX,apS,aqI] at h0
  obtain⟨⟨rfl,rfl⟩,rfl⟩:=h0
  simp only[apv,apx] at tH
  obtain⟨rfl,rfl⟩:=tH
  have hp:=PT hW hF hc hY
  generalize hA:a.eval x=V at hp
  cases hp with
  | mX b _ _ _ _ uz E ck f hS hb hE ZO cy =>
   refine key (some b) ck _ ?_ (.inr ⟨b,E,ck,f,rfl,hS,hb,rfl,_,hE,ZO.symm,cy⟩)
   simp[execOp,ho,hA,Instr.range,run_underlying ht,newObj,getObj,Sem.run,hb]
 ·rename_i l hY
  split at he
  ·rename_i me mb mU es hH
   obtain⟨h0,tH⟩:=ab he
   clear he
   simp only[Bool.and_eq_true,dX,apS,aqI] at h0
   obtain⟨⟨⟨rfl,rfl⟩,rfl⟩,mJ⟩:=h0
   simp only[apv,apx] at tH
   obtain⟨rfl,rfl⟩:=tH
   obtain⟨aU,mC⟩:=m3 l hY
   obtain⟨j4,oZ,wB,A7,hρ,hP⟩:=JV hW hF hH mJ
   generalize hV:Value.map (some (gh.ρ l))=V at hP
   cases hP with
   | dR b _ _ _ _ E ck f hS hb hE cy =>
    injection hV with hV
    injection hV with hV
    subst hV
    obtain⟨v',aK,w',k1,k2⟩:=HA (P:=P) (s:=s.fC ⟨s.H.set l (.dR kz ka va es),l⟩) oZ wB (o:=o) hd (some (gh.ρ l)) ck es (by
     simp[execOp,ho,mC,Instr.range,run_underlying ht,newObj,getObj,Sem.run,hb]) (.inr ⟨_,E,ck,f,rfl,hS,hb,rfl,_,hE.iter,List.Perm.refl _,cy⟩)
    exact⟨v',aK,w',k1,k2.W,k2.F,A7.trans k2.E (by simp[AS.fC])⟩
  ·cases he
 ·cases he
theorem F9:∀ (l:List MapEntry) (e:MapEntry),e∈l->(∀ x∈l,x.born=e.born->x=e)->l.find? (fun x=>x.born==e.born)=some e
 | [],e,h,_=>by cases h
 | x :: l,e,h,hu=>by
  rw[List.find?_cons]
  by_cases hx:x.born=e.born
  ·have:=hu x (by simp) hx
   subst this
   simp
  ·have hb:(x.born==e.born)=false:=by simpa using hx
   rw[hb]
   rcases apO.1 h with h|h
   ·subst h;exact absurd rfl hx
   ·exact F9 l e h (fun y hy=>hu y (by simp[hy]))
theorem KM{n:Nat}{va:Bool}{m:Nat}{g:Nat->Value}{cs:List AV}(hm:cs.length=m)(h1:va=false->m=1)(h:∀ (j:Nat) (x:AV),cs[j]?=some x->PR gh.S w (g j) x):VR gh n w (qR va m g) (oM va cs) :=
 S5 hm h1 (fun j x hj=>⟨VR.dropped (.plain _ _ (h j x hj)),(h j x hj).fg⟩)
theorem FP{n ck kz i:Nat}{ka va:Bool}{E:Array MapEntry}{es:List (List AV)}{f:Nat->Nat->Value}(hE:vk E ck kz ka va es f)(cy:∀ (i j:Nat) (r:List AV) (x:AV),es[i]?=some r->r[j]?=some x->PR gh.S w (f i j) x)
  {e:MapEntry} {r:List AV} (he:E[i]?=some e) (hr:es[i]?=some r):VR gh n w e.key (oM ka (r.take kz))/\VR gh n w e.val (oM va (r.drop kz)):=by
 obtain⟨k1,k2,k3,k4,k5⟩:=hE.row i e r he hr
 rw[k4,k5]
 refine⟨KM (by simp;omega) k2 (fun j x hj=>?_),KM (by simp) (fun h=>by rw[k3 h];omega) (fun j x hj=>?_)⟩
 ·rw[apR] at hj
  split at hj
  ·exact cy i j r x hr hj
  ·cases hj
 ·rw[ap'] at hj
  exact cy i (kz+j) r x hr hj
theorem LG(hF:FR L nt gh w a s){t g kz:Nat}{ka va:Bool}{cur:List AV}{todo:List (List AV)}(ht:t<nt)(hT:s.T t=.iter g kz ka va cur todo):g<s.gen/\∃ b,fB a t=.pointer (some ⟨b,0,none⟩)/\vj gh w b (.bx t) kz ka va cur todo:=by
 have h:=hF.slot t ht
 rw[hT] at h
 exact h
theorem aaM(hW:aM G base s.H gh w)(hF:FR L nt gh w a s){o:Oper}{it:Operand}{y:ar}{z:AV}{s' : Option AS}{cf:cA}(ho:o.op=.entry it)(hc:ak nt it=some y)(he:au G cf s (.UW y)=some (z,s')) :
  s'=none/\∃ v,(execOp a.eval o).run P w=.ok (.value v) w/\mA gh s.H.length nt w s.T s.gen (fB a) v z:=by
 cases y with
 | tmp t =>
  obtain⟨rfl,ht⟩:=gW hc
  simp only[au] at he
  split at he
  ·rename_i g kz ka va cur todo hT
   obtain⟨h0,he⟩:=ab he
   simp only[Bool.and_eq_true,Nat.ble_eq,aqg,arj] at h0
   simp only[apv,apx] at he
   obtain⟨rfl,rfl⟩:=he
   obtain⟨_,b,hb,_,_,m,since,seen,last,hit,hm⟩:=LG hF ht hT
   refine⟨rfl,?_⟩
   rcases hm with ⟨_,_,_,P4⟩|⟨m0,E,es,ck,f,rfl,hS,Oj,hE,rfl,rfl,cy,P4,_⟩
   ·exact absurd P4 h0.2
   ·rcases P4 with ⟨_,P4⟩|⟨st,i,e,kF,Zy,hbe,ajM⟩
    ·exact absurd P4 h0.2
    ·obtain⟨v1,v2⟩:=FP (n:=s.H.length) hE cy Zy ajM
     have Qi:e∈E.toList:=by
      have:E.toList[i]?=some e:=by rw[ap7];exact Zy
      exact apF this
     have agf:E.find? (fun x=>x.born==e.born)=some e:=by
      rw[<- Array.find?_toList]
      refine F9 _ e Qi (fun x hx hxb=>?_)
      obtain⟨j,hj⟩:=aqb hx
      rw[ap7] at hj
      have:=hE.apart j i x e hj Zy hxb
      subst this
      rw[Zy] at hj;injection hj with hj;exact hj.symm
     have mC:a.eval (.tmp t)=.pointer (some ⟨b,0,none⟩):=hb
     refine⟨.tuple #[e.key,e.val],?_,.cK (.tuple _ _ rfl (fun j u x hu hx=>?_))⟩
     ·subst hbe
      simp[execOp,ho,mC,Instr.entry,getObj,Sem.run,hit]
      simp[kF,Oj,Sem.run,agf]
     ·match j with
      | 0=>injection hu with hu;injection hx with hx;subst hu hx;exact v1
      | 1=>injection hu with hu;injection hx with hx;subst hu hx;exact v2
      | j+2=>simp at hx
  ·cases he
 | _=>simp only[au] at he;cases he
theorem Nu{E:Array MapEntry}{es:List (List AV)}{seen:Array Nat}{ck kz i:Nat}{ka va:Bool}{f:Nat->Nat->Value}(hE:vk E ck kz ka va es f){e:MapEntry}{r:List AV}(he:E[i]?=some e)(hr:es[i]?=some r)(hs:seen.contains e.born=false) :
  (((E.toList.zip es).filter fun p=>!seen.contains p.1.born).map (·.2)).Perm (r :: ((E.toList.zip es).filter fun p=>!(seen.push e.born).contains p.1.born).map (·.2)):=by
 have hz:(E.toList.zip es)[i]?=some (e,r):=by rw[aq9];exact⟨by rw[ap7];exact he,hr⟩
 have h1:=Hq (key:=fun p:MapEntry × List AV=>p.1.born) (E.toList.zip es) (e,r) (apF hz) (fun j k p q hj hk hpq=>by
  rw[aq9,ap7] at hj hk
  exact hE.apart j k p.1 q.1 hj.1 hk.1 hpq)
 have h2:=h1.filter (fun p=>!seen.contains p.1.born)
 rw[arc,if_pos (by show (!seen.contains e.born)=true;rw[hs];rfl),List.filter_filter] at h2
 have h3:=h2.map (·.2)
 rw[apZ] at h3
 refine h3.trans (List.Perm.of_eq ?_)
 congr 2
 refine List.filter_congr fun p _=>?_
 by_cases hp:p.1.born=e.born
 ·simp[hp]
 ·simp[hp]
theorem U5(hW:aM G base s.H gh w)(hF:FR L nt gh w a s){o:Oper}{it:Operand}{t g kz:Nat}{ka va:Bool}{cur:List AV}{todo:List (List AV)}(ho:o.op=.next it false)(hc:ak nt it=some (.tmp t))(hT:s.T t=.iter g kz ka va cur todo)(hL:t∈L)
  (hd:∀ k,o.dst=some k->k<nt) (K:Act->World->Prop) (Q:Exit->Act->World->Prop)
  (hK0:todo=[]->∀ v' aK w',Out G base nt L gh w a s o.dst (.tuple [.bool false]) s v' aK w'->K (a.put o.dst v') w')
  (HT:∀ r rest,todo.Perm (r :: rest)->∀ v' aK w',Out G base nt L gh w a s o.dst (.tuple [.bool true,oM ka (r.take kz),oM va (r.drop kz)]) (s.bu t (.iter g kz ka va r rest)) v' aK w'->K (a.put o.dst v') w'):o.wp P a w K Q:=by
 obtain⟨rfl,ht⟩:=gW hc
 obtain⟨hg,b,hb,hκ,hS,m,since,seen,last,hit,hm⟩:=LG hF ht hT
 have mC:a.eval (.tmp t)=.pointer (some ⟨b,0,none⟩):=hb
 have Qa:∀ {n:Nat},VR gh n w (.tuple #[.bool false]) (.tuple [.bool false]):=fun {n}=>.tuple _ _ rfl (fun j u x hu hx=>by
  match j with
  | 0=>injection hu with hu;injection hx with hx;subst hu hx;exact .plain _ _ (.bool _)
  | j+1=>simp at hx)
 rcases hm with ⟨rfl,rfl,_,_⟩|⟨m0,E,es,ck,f,rfl,hSm,Oj,hE,rfl,rfl,cy,_,Bj⟩
 ·refine sP.wp (.inl ?_) (hK0 rfl (.tuple #[.bool false]) gh w (Out.pure hW hF hd (.cK Qa)))
  simp[execOp,ho,mC,Instr.next,getObj,Sem.run,hit]
 ·rcases run_next_at (P:=P) w o.type b m0 last last seen E last hit Oj (fun x hx=>by
   obtain⟨j,hj⟩:=aqb hx
   rw[ap7] at hj
   exact hE.born j x hj) (apz _) with ⟨hz,cE⟩|⟨e,hem,w1,hw1,cE⟩
  ·have M9:todo=[]:=by
    have hl:((E.toList.zip es).filter fun p=>!seen.contains p.1.born)=[]:=by
     refine List.filter_eq_nil_iff.2 fun p hp bC=>?_
     have hpe:p.1∈E.toList:=(List.of_mem_zip (a:=p.1) (b:=p.2) hp).1
     have:p.1∈(leftOf E seen).toList:=by
      unfold leftOf
      simp only[Array.toList_filter,aqx]
      exact⟨hpe,bC⟩
     have h0:(leftOf E seen).toList=[]:=List.eq_nil_of_length_eq_zero (by simpa using hz)
     rw[h0] at this
     cases this
    rw[hl] at Bj
    exact Bj.eq_nil
   refine sP.wp (.inl ?_) (hK0 M9 (.tuple #[.bool false]) gh w (Out.pure hW hF hd (.cK Qa)))
   simp[execOp,ho,mC,cE]
  ·unfold leftOf at hem
   simp only[Array.toList_filter,aqx] at hem
   obtain⟨heE,Oo⟩:=hem
   obtain⟨i,hi⟩:=aqb heE
   rw[ap7] at hi
   have M6:i<es.length:=by rw[<- hE.size];exact (apD.1 hi).1
   have hr:es[i]?=some es[i]:=apy M6
   have akj:seen.contains e.born=false:=by simpa using Oo
   have agR:=Nu hE hi hr akj
   have P0:b<w.heap.size:=(apD.1 hit).1
   have st:=An (o:=.mapIter (some m0) last (seen.push e.born) last) hW hw1 P0 hS (fun C ty fr h=>by rw[hit] at h;cases h) s.H.length
   rw[hκ] at st
   have Ba:(setBlock w1 b (.mapIter (some m0) last (seen.push e.born) last)).heap=w.heap.setIfInBounds b (.mapIter (some m0) last (seen.push e.born) last):=by rcases hw1 with rfl|rfl<;>rfl
   have gM:(setBlock w1 b (.mapIter (some m0) last (seen.push e.born) last)).heap.size=w.heap.size:=by rw[Ba];simp
   have lk:aM G base s.H gh (setBlock w1 b (.mapIter (some m0) last (seen.push e.born) last)):=hW.step st (fun l=>⟨by simp,by simp⟩) (fun b o h=>by rw[gM];exact hW.nB b o h) (fun b h=>by rw[gM];exact hW.oT b h) (fun _ _ _ h=>.inl h)
   have Zx:Ext s.H.length gh w gh (setBlock w1 b (.mapIter (some m0) last (seen.push e.born) last)):=⟨st.mono (fun r h=>by rw[h];simp[pM]),fun _ h=>h⟩
   have hIt:vj gh (setBlock w1 b (.mapIter (some m0) last (seen.push e.born) last)) b (.bx t) kz ka va es[i] (((E.toList.zip es).filter fun p=>!(seen.push e.born).contains p.1.born).map (·.2)):=by
    refine⟨hκ,hS,some m0,last,seen.push e.born,last,by rw[Ba];simp[P0],.inr ⟨m0,E,es,last,f,rfl,hSm,st.mp _ _ _ hSm Oj,hE,rfl,rfl,fun i j r x h1 h2=>(cy i j r x h1 h2).mono st.S st.cell st.mp,.inr ⟨e.born,i,e,by simp,hi,rfl,hr⟩,List.Perm.refl _⟩⟩
   have Af:FR L nt gh (setBlock w1 b (.mapIter (some m0) last (seen.push e.born) last)) a (s.bu t (.iter g kz ka va es[i] (((E.toList.zip es).filter fun p=>!(seen.push e.born).contains p.1.born).map (·.2)))) :=
    hF.bu (H':=s.H) (lo':=s.lo) st (apz _) (fun i hi=>⟨by simpa using hi,by simp,by simp⟩) (.inl ⟨ht,by rw[hT];rfl⟩) (fun _=>⟨hg,b,hb,hIt⟩)
   obtain⟨v1,v2⟩:=FP (n:=s.H.length) hE cy hi hr
   have hv:VR gh s.H.length (setBlock w1 b (.mapIter (some m0) last (seen.push e.born) last)) (.tuple #[.bool true,e.key,e.val]) (.tuple [.bool true,oM ka (es[i].take kz),oM va (es[i].drop kz)]):=by
    refine .tuple _ _ rfl (fun j u x hu hx=>?_)
    match j with
    | 0=>injection hu with hu;injection hx with hx;subst hu hx;exact .plain _ _ (.bool _)
    | 1=>injection hu with hu;injection hx with hx;subst hu hx;exact v1.mono st (apz _)
    | 2=>injection hu with hu;injection hx with hx;subst hu hx;exact v2.mono st (apz _)
    | j+3=>simp at hx
   have hO:Out G base nt L gh w a s o.dst (.tuple [.bool true,oM ka (es[i].take kz),oM va (es[i].drop kz)]) (s.bu t (.iter g kz ka va es[i] (((E.toList.zip es).filter fun p=>!(seen.push e.born).contains p.1.born).map (·.2)))) (.tuple #[.bool true,e.key,e.val]) gh (setBlock w1 b (.mapIter (some m0) last (seen.push e.born) last)) :=
    Out.of (s1:=s.bu t (.iter g kz ka va es[i] (((E.toList.zip es).filter fun p=>!(seen.push e.born).contains p.1.born).map (·.2)))) (gen':=s.gen) lk Af Zx (apz _) hd (.inl rfl) (fun k hk=>lM rfl (.inl hv))
   refine sP.wp (.inl ?_) (HT es[i] _ (Bj.trans agR) (.tuple #[.bool true,e.key,e.val]) gh _ hO)
   simp[execOp,ho,mC,cE]
end
end
end Go.Abs
namespace Go.Abs
section
section
variable {P:Program}{G:Nat->List AV}{base nt:Nat}{L:List Nat}{gh j4:Gh}{w w' : World}{a:Act}{s:AS}{H:ag}
theorem xq{α:Type}{sz:Nat} : ∀ (e:List (List α)) (idx:Nat) (x:α),(∀ r∈e,r.length=sz)->e.flatten[idx]?=some x->∃ i j r,e[i]?=some r/\r[j]?=some x/\idx=i*sz+j
 | [],_,_,_,h=>by simp at h
 | r :: e,idx,x,hr,h=>by
  rw[aqq] at h
  by_cases hl:idx<r.length
  ·rw[apN hl] at h;exact⟨0,idx,r,rfl,h,by simp⟩
  ·rw[apM (by omega)] at h
   obtain⟨i,j,r',h1,h2,h3⟩:=xq e _ x (fun r h=>hr r (by simp[h])) h
   have:=hr r (by simp)
   exact⟨i+1,j,r',by simpa using h1,h2,by rw[aqd];omega⟩
theorem nN{α:Type}{sz:Nat} : ∀ (e:List (List α)),(∀ r∈e,r.length=sz)->e.flatten.length=e.length*sz
 | [],_=>by simp
 | r :: e,hr=>by
  have:=hr r (by simp)
  have ih:=nN e (fun r h=>hr r (by simp[h]))
  simp only[aqq,apL,List.length_cons,aqd];omega
theorem uG{l m:Nat}{x:AV}(h:gT l x=true)(hl:l<=m):gT m x=true:=by
 cases x<;>first|exact h|(simp only[gT,Nat.ble_eq] at h ⊢;omega)
theorem wD{l m:Nat}{x:AV}(h:kZ l x=true)(hl:l<=m):kZ m x=true:=by
 unfold kZ at h ⊢
 split
 ·exact apA.2 fun y hy=>uG (apA.1 h y hy) hl
 ·rename_i hn
  split at h
  ·exact absurd rfl (hn _)
  ·exact uG h hl
theorem Gq{l m:Nat}{x:AV}(h:aV l x=true)(hl:l<=m):aV m x=true:=by
 cases x
 case func f fs cs =>
  simp only[aV,Bool.and_eq_true,apA] at h ⊢
  exact⟨fun y hy=>wD (h.1 y hy) hl,fun y hy=>wD (h.2 y hy) hl⟩
 all_goals first|exact h|(simp only[aV,Nat.ble_eq] at h ⊢;omega)
theorem aM.arr(hW:aM G base H gh w){aK:Gh}{touch:bc->Prop}(st:Step touch H.length gh w aK w'){H' : ag}(hlen:H'.length=H.length)
  (hold:∀ (loc:Nat) (o:ct),H'[loc]?=some o->(H[loc]?=some o/\¬ touch (.hb loc)/\∀ j,¬ touch (.hs loc j))\/o=.dead)
  (hs:∀ b o,aK.S b o->gh.S b o) (hk:∀ b,aK.κ b≠.none->base<=b/\b<w'.heap.size) {cs:List AV}
  (hB:gR aK (H.length+1) w' (aK.ρ H.length) (.hb H.length) (fun j=>.hs H.length j) cs) (hr:cs.all (aV H.length)=true):aM G base (H'++[.box aL cs]) aK w':=by
 have last:∀ {loc:Nat} {o:ct},(H'++[ct.box aL cs])[loc]?=some o->(loc<H.length/\H'[loc]?=some o)\/(loc=H.length/\o=.box aL cs):=by
  intro loc o hl
  by_cases aU:loc<H'.length
  ·rw[apN aU] at hl;exact .inl ⟨by omega,hl⟩
  ·rw[apM (by omega)] at hl
   have hz:loc=H'.length:=by
    have:=(apw.1 hl).1
    simp at this;omega
   subst hz
   simp at hl
   exact .inr ⟨hlen,hl.symm⟩
 have qm:(H'++[ct.box aL cs]).length=H.length+1:=by simp[hlen]
 refine⟨aqC hW.size st.size,fun b o ho=>aq1 (hW.nB b o (hs b o ho)) st.size,hk,fun g j x hx=>?_,fun loc ty ds hl=>?_,fun loc ty ds hl=>?_,fun g hg=>(hW.xg g hg).imp fun ty h=>st.len g ty _ h,hW.kj st (fun b o m h=>.inl (hs b o h)),fun loc o hl=>?_,fun loc ty ds hl hf=>?_⟩
 ·obtain⟨v,h1,h2,h3⟩:=hW.aO g j x hx
  exact⟨v,(st.cell g j h3).trans h1,h2.mono st.S st.cell st.mp,st.S g j h3⟩
 ·rw[qm]
  rcases last hl with ⟨aU,hl⟩|⟨rfl,ho⟩
  ·rcases hold loc _ hl with ⟨h0,h1,h2⟩|h0
   ·rw[st.ρ loc aU];exact (hW.boxes loc ty ds h0).mono st (aqo _) h1 h2
   ·cases h0
  ·injection ho with e1 e2
   subst e1 e2
   exact hB
 ·rcases last hl with ⟨aU,hl⟩|⟨rfl,ho⟩
  ·rcases hold loc _ hl with ⟨h0,_⟩|h0
   ·exact hW.refs loc ty ds h0
   ·cases h0
  ·injection ho with e1 e2
   subst e1 e2
   exact hr
 ·rw[qm]
  rcases last hl with ⟨aU,hl⟩|⟨rfl,rfl⟩
  ·rcases hold loc _ hl with ⟨h0,h1,h2⟩|rfl
   ·rw[st.ρ loc aU];exact (hW.more loc o h0).mono st (aqo _) h1 h2
   ·trivial
  ·trivial
 ·rcases last hl with ⟨aU,hl⟩|⟨rfl,ho⟩
  ·rcases hold loc _ hl with ⟨h0,_⟩|h0
   ·rw[st.ρ loc aU];exact st.len _ _ _ (hW.types loc ty ds h0 hf)
   ·cases h0
  ·injection ho with e1 e2
   exact absurd e1 hf
def Gh.rename(gh:Gh)(l n b:Nat):Gh where
 S:=gh.S
 κ:=fun x=>match gh.κ x with
  | .hb i=>if i=l then .hb n else .hb i
  | .hs i j=>if i=l then .hs n j else .hs i j
  | k=>k
 ρ:=fun i=>if i=n then b else gh.ρ i
theorem TH{l n b x:Nat}(h:gh.κ x≠.hb l/\∀ j,gh.κ x≠.hs l j):(gh.rename l n b).κ x=gh.κ x:=by
 simp only[Gh.rename]
 generalize gh.κ x=k at h
 cases k with
 | hb i=>simp only;rw[if_neg (fun e=>h.1 (by rw[e]))]
 | hs i j=>simp only;rw[if_neg (fun e=>h.2 j (by rw[e]))]
 | _=>rfl
theorem wT{l n b x:Nat} : (gh.rename l n b).κ x=.none↔gh.κ x=.none:=by
 simp only[Gh.rename]
 generalize gh.κ x=k
 cases k with
 | hb i=>simp only;split<;>simp
 | hs i j=>simp only;split<;>simp
 | _=>simp
theorem qC{l n b x:Nat} : (gh.rename l n b).κ x=.outer↔gh.κ x=.outer:=by
 simp only[Gh.rename]
 generalize gh.κ x=k
 cases k with
 | hb i=>simp only;split<;>simp
 | hs i j=>simp only;split<;>simp
 | _=>simp
def ja(l:Nat)(r:bc):Prop:=r=.hb l\/∃ j,r=.hs l j
theorem Step.renamed{touch:bc->Prop}{m l n b:Nat}(st:Step touch m gh w j4 w')(hn:m<=n)(ht:∀ r,touch r->ja l r):Step (ja l) m gh w (j4.rename l n b) w':=by
 refine⟨st.S,st.cell,st.size,st.os,st.tape,st.output,fun x hx jI=>?_,fun x hx=>?_,fun loc hl=>?_,st.len,st.mp⟩
 ·obtain⟨k1,k2,k3⟩:=st.zS x hx (fun h=>jI (ht _ h))
  refine⟨k1,?_,k3⟩
  rw[TH (by rw[k2];exact⟨fun h=>jI (.inl h),fun j h=>jI (.inr ⟨j,h⟩)⟩),k2]
 ·intro h
  exact st.fresh x hx (qC.1 h)
 ·show (if loc=n then _ else _)=_
  rw[if_neg (by omega)]
  exact st.ρ loc hl
theorem CR.rename{m m' l n b j:Nat}{v:Value}{x:AV}(h:CR gh m w (.hs l j) v x)(hf:∀ b,w.heap.size<=b->gh.κ b≠.outer)(hm:m<=n)(ZM:m<=m'):CR (gh.rename l n b) m' w (.hs n j) v x:=by
 have st:Step (ja l) m gh w (gh.rename l n b) w:=Step.renamed (touch:=fun _=>False) (Step.refl _ _ _ _ hf) hm (fun _ h=>h.elim)
 rcases h with h|⟨e,rfl,h1,b',cap,C,ty,lo,hi,sz,hv,hk,he,hb,hC,hr,hl,hh,hS⟩
 ·exact .inl (h.mono st ZM)
 ·exact .inr ⟨e,rfl,h1,b',cap,C,ty,lo,hi,sz,hv,by simp[Gh.rename,hk],he,hb,hC,hr,hl,hh,hS⟩
theorem zI(l:Nat)(i:Nat):¬ ja l (.bx i)/\¬ ja l (.sl i)/\∀ j,¬ ja l (.sc i j):=by
 refine⟨?_,?_,fun j=>?_⟩<;>(rintro (h|⟨_,h⟩)<;>cases h)
theorem DR(l:Nat)(r:bc)(h:ja l r):pM r:=by
 rcases h with rfl|⟨j,rfl⟩<;>exact⟨by simp,by simp⟩
theorem Out.arr(hF:FR L nt gh w a s){d:Option Nat}(hd:∀ k,d=some k->k<nt){aK:Gh}{l:Nat}(st:Step (ja l) s.H.length gh w aK w')(ho:∀ b,aK.κ b=.outer->gh.κ b=.outer){H' : ag}{lo k cap z:Nat}(hlen:H'.length=s.H.length){cs:List AV}
  (hW:aM G base (H'++[.box aL cs]) aK w') (hk:k<=cap) (hz:∃ ty,pR w' (aK.ρ s.H.length) ty (0+cap*z)) :
  Out G base nt L gh w a s d (.sref s.H.length 0 k z) (s.fC ⟨H'++[.box aL cs],lo⟩) (.slice (some ⟨aK.ρ s.H.length,0,none⟩) k cap) aK w':=by
 have hv:VR aK (H'++[ct.box aL cs]).length w' (.slice (some ⟨aK.ρ s.H.length,0,none⟩) k cap) (.sref s.H.length 0 k z):=.sref _ 0 k cap z (by simp[hlen]) hk (fun _=>hz)
 exact⟨hW,hF.put st (zI l) (by simp[hlen]) d hd (.cK hv),⟨st.mono (DR l),ho⟩⟩
theorem sq{sz:Nat}{A:Array Value}{E:List (List AV)}{S:Nat->Nat->Prop}(h:iD S w sz A E){j:Nat}{x:AV}(hx:E.flatten[j]?=some x):∃ v,A[j]?=some v/\PR S w v x:=by
 obtain⟨i,k,r,h1,h2,rfl⟩:=xq E j x (fun r hm=>by obtain⟨i,hi⟩:=aqb hm;exact h.2.1 i r hi) hx
 exact h.2.2 i k r x h1 h2
theorem Bx{n:Nat}{p:bc}{V:Value}(h:CR gh n w p V (.slice [] true)):∃ ao,V=.slice ao 0 0:=by
 rcases h with h|⟨e',heq,_,b,cap,C,ty,lo,hi,jj,gy,hk,bC,_⟩
 ·cases h with
  | plain _ _ h=>cases h
  | full ao k _ h hz =>
   cases h with
   | cW=>exact⟨none,rfl⟩
   | slice b o _ _ jj _ _ hn=>simp at hn;subst hn;exact⟨_,rfl⟩
 ·injection heq with h1;subst h1;exact absurd rfl bC
theorem Y4{t e:TypeId}{sz:Nat}(ht:P.underlying t=some (.slice e))(ao:Option Addr):Src P sz t (.slice ao 0 0) 0 [] w:=by
 refine⟨.inl ⟨_,ht⟩,fun _=>rfl,?_,?_,by simp,fun _ h=>by cases h⟩
 ·cases ao with
  | none=>exact run_firstCells_none w _ 0 0 0
  | some ad=>exact run_firstCells_some w _ 0 ad 0 0 [] (by simp) (fun j v h=>by simp at h)
 ·cases ao with
  | none=>exact run_firstCells_none w.drew _ 0 0 0
  | some ad=>exact run_firstCells_some w.drew _ 0 ad 0 0 [] (by simp) (fun j v h=>by simp at h)
theorem oX{f:List (List AV)}(h:cH f=true){x:AV}(hx:x∈f.flatten):x.plain=true:=by
 obtain⟨r,hr,hx⟩:=arH.1 hx
 exact apA.1 (apA.1 h r hr) x hx
theorem lR{x:AV}(h:x.plain=true)(n:Nat):aV n x=true:=rA h
theorem FU(hW:aM G base s.H gh w)(hF:FR L nt gh w a s){o:Oper}{c:Call}{x y:Operand}{t u e:TypeId}{sz bytes:Nat}{yx yy:ar}{z:AV}{s' : Option AS}
  (ho:o.op=.call c) (gx:c.callee=.builtin .append) (dF:c.args.toList=[x,y]) (jy:c.argTypes.toList=[t,u]) (hT:wc P t e sz bytes) (hu:(∃ e',P.underlying u=some (.slice e'))\/P.underlying u=some .string)
  (mR:ak nt x=some yx) (wC:ak nt y=some yy) (he:ik s sz bytes (yx.addr G s.T) (yy.eval G s.T)=some (z,s')) (hd:∀ k,o.dst=some k->k<nt) :
  ∃ v' aK w',sP P a o w v' w'/\Out G base nt L gh w a s o.dst z (s'.getD s) v' aK w':=by
 have dH:=fun b hb=>hW.bL (gh:=gh) b hb
 simp only[ik,apu] at he
 obtain⟨f,hf,he⟩:=he
 obtain⟨i,zv,hi,_,rfl,_⟩:=hT.hi
 have fresh:∀ ao,a.eval x=.slice ao 0 0->cond (!f.isEmpty&&cC i.size bytes [] f&&cH f) (some (AV.sref s.H.length 0 f.length i.size,some (s.fC ⟨s.H++[.box aL f.flatten],s.H.length⟩))) none=some (z,s') ->
   ∃ v' aK w',sP P a o w v' w'/\Out G base nt L gh w a s o.dst z (s'.getD s) v' aK w':=by
  intro ao hV he
  obtain⟨h0,he⟩:=ab he
  simp only[apv,apx] at he
  obtain⟨rfl,rfl⟩:=he
  simp only[Bool.and_eq_true,cC,Nat.ble_eq,List.length_nil,Nat.zero_add,aqg,arj] at h0
  obtain⟨⟨bC,⟨⟨A',jd⟩,_⟩,hh⟩,mJ⟩:=h0
  obtain⟨news,hs,cS⟩:=sN (P:=P) hW hF wC hf hh hu
  have alD:0<f.length:=aqj.2 bC
  obtain⟨uh,C',cE,jP,Jm,Gv⟩:=grow (P:=P) (ty:=o.type) (ao:=ao) (sLen:=0) (sCap:=0) hT (Y4 (w:=w) hT.ht ao).cellsD (by simp) hs (by omega) (by omega) (by simpa using A')
  have j5:dP w (w.drew.alloc (.cells C' e)) (.cells C' e):=.drew w _
  have zE:=fR hW j5
  have st:Step (ja s.H.length) s.H.length gh w (gh.bg w.heap.size s.H.length) (w.drew.alloc (.cells C' e)):=zE.mono (fun _ h=>h.elim)
  have hρ:(gh.bg w.heap.size s.H.length).ρ s.H.length=w.heap.size:=by simp[Gh.bg]
  have agh:f.flatten.length<=C'.size:=by
   have h1:f.flatten.length=f.length*i.size:=nN f (fun r hm=>by obtain⟨k,hk⟩:=aqb hm;exact cS.2.1 k r hk)
   rw[h1,Jm]
   exact ap4 _ (by omega)
  have hB:gR (gh.bg w.heap.size s.H.length) (s.H.length+1) (w.drew.alloc (.cells C' e)) ((gh.bg w.heap.size s.H.length).ρ s.H.length) (.hb s.H.length) (fun j=>.hs s.H.length j) f.flatten:=by
   rw[hρ]
   refine⟨by simp[Gh.bg,Gh.alloc],?_,C',e,j5.new,agh,fun j v x hv hx=>?_⟩
   ·rintro o (ho|⟨_,ho⟩)
    ·have:=hW.nB _ o ho;omega
    ·exact ho
   ·obtain⟨v',tZ,hp⟩:=sq cS hx
    have aU:=(apD.1 tZ).1
    rw[Gv j (by simpa using aU)] at hv
    simp only[aqa] at hv
    rw[tZ] at hv
    injection hv with hv
    subst hv
    exact⟨hp.fg,.inl (.plain _ _ (hp.mono st.S st.cell st.mp))⟩
  have hr:f.flatten.all (aV s.H.length)=true:=apA.2 fun x hx=>lR (oX mJ hx) _
  have lk:=hW.arr zE (H':=s.H) rfl (fun loc o h=>.inl ⟨h,id,fun _=>id⟩) (fun b o h=>h.elim id (fun h=>h.2.elim)) (fun b hb=>by
   rw[j5.size]
   have gb:(if b=w.heap.size then bc.hb s.H.length else gh.κ b)≠.none:=hb
   split at gb
   ·have:=hW.size;omega
   ·have:=hW.oT b gb;omega) hB hr
  refine⟨_,gh.bg w.heap.size s.H.length,w.drew.alloc (.cells C' e),.inl (gl ho gx dF jy (by rw[hV];exact cE)),?_⟩
  have:=Out.arr (lo:=s.H.length) (k:=0+f.length) (cap:=uh) (z:=i.size) hF hd st (fun b hb=>(jD hW j5).out b hb) rfl lk jP ⟨e,by rw[hρ];exact⟨C',(0,0),j5.new,by rw[Jm,Nat.zero_add]⟩⟩
  rw[hρ,Nat.zero_add] at this
  rw[Nat.zero_add]
  exact this
 split at he
 ·rename_i hx
  have kQ:∃ p,CR gh s.H.length w p (a.eval x) (.slice [] true):=by
   cases yx with
   | tmp t0 =>
    obtain⟨rfl,ht⟩:=gW mR
    have Gl:s.T t0=.slice [] true:=by
     simp only[ar.addr] at hx
     split at hx<;>first|cases hx|exact hx
    exact⟨_,B0 hF ht Gl⟩
   | cr v =>
    simp only[ar.addr] at hx
    subst hx
    cases x with
    | tmp k =>
     simp only[ak] at mR
     rcases aql (Nat.blt k nt) with hb|hb<;>rw[hb] at mR<;>simp at mR
    | const u =>
     simp only[ak,apt] at mR
     obtain⟨zz,hz,h⟩:=mR
     injection h with h
     subst h
     exact⟨.none,.inl (iQ hz)⟩
    | global g=>simp[ak] at mR
    | func f=>simp[ak] at mR
   | aO g=>simp[ar.addr] at hx
   | fn f=>simp[ar.addr] at hx
  obtain⟨_,kQ⟩:=kQ
  obtain⟨ao,hV⟩:=Bx kQ
  exact fresh ao hV he
 ·rename_i hx
  exact fresh none (mV hW hF mR hx rfl).kH he
 ·rename_i l of n zz hx
  split at he
  ·rename_i ty cs hH
   obtain⟨h0,he⟩:=ab he
   simp only[apv,apx] at he
   obtain⟨rfl,rfl⟩:=he
   simp only[Bool.and_eq_true,dX,apS,Nat.ble_eq] at h0
   obtain⟨⟨⟨⟨⟨⟨rfl,rfl⟩,fF⟩,A'⟩,jd⟩,hh⟩,mJ⟩:=h0
   obtain⟨news,hs,cS⟩:=sN (P:=P) hW hF wC hf hh hu
   obtain⟨aU,cap,alL,hzB,hV⟩:=VR.jA (mV hW hF mR hx rfl)
   obtain⟨tyb,Cb,frb,MZ,hCb⟩:=hzB (by have:=hT.pos;omega)
   obtain⟨hκ,hS,C,Oy,hb,hle,cP⟩:=hW.boxes l ty cs hH
   rw[hb] at MZ
   injection MZ with MZ
   injection MZ with e1 e2 e3
   subst e1 e2 e3
   rw[Nat.zero_add] at hCb
   have uJ:(C.toList.take (n*i.size)).length=n*i.size:=by simp;omega
   have hold:∀ {j:Nat} {x:AV},cs[j]?=some x->∃ v,C[j]?=some v/\v.oneCell'=true/\CR gh s.H.length w (.hs l j) v x:=by
    intro j x hj
    have h1:=(apw.1 hj).1
    have hv:C[j]?=some C[j]:=apJ (by omega)
    obtain⟨k1,k2⟩:=cP j _ x hv hj
    exact⟨_,hv,k1,k2⟩
   have fX:∀ v∈C.toList.take (n*i.size),v.oneCell'=true:=by
    intro v hv
    obtain⟨j,hj⟩:=aqb hv
    have h1:j<n*i.size:=by rw[<- uJ];exact (apw.1 hj).1
    rw[apR,if_pos h1] at hj
    obtain⟨v',k1,k2,_⟩:=hold (apy (show j<cs.length by omega))
    rw[ap7,k1] at hj
    injection hj with hj
    subst hj
    exact k2
   have Qt:Src P i.size t (.slice (some ⟨gh.ρ l,0,none⟩) n cap) n (C.toList.take (n*i.size)) w:=.ofSlice w hT.ht ⟨gh.ρ l,0,none⟩ n cap _ uJ (fun j u hj=>by
    rw[gI,Nat.zero_add,cell_of_row w _ j C Oy _ hb]
    rw[apR] at hj
    split at hj
    ·simpa using hj
    ·cases hj) fX
   have H2:news.length=f.length*i.size:=hs.newsLen
   have pq:f.flatten.length=f.length*i.size:=nN f (fun r hm=>by obtain⟨k,hk⟩:=aqb hm;exact cS.2.1 k r hk)
   have hrefs:(cs++f.flatten).all (aV s.H.length)=true:=by
    rw[arX,Bool.and_eq_true]
    refine⟨apA.2 fun x hx=>?_,apA.2 fun x hx=>lR (oX mJ hx) _⟩
    exact Gq (apA.1 (hW.refs l ty cs hH) x hx) (by omega)
   have ZC:∀ {touch:bc->Prop},(∀ r,touch r->ja l r)->∀ (loc:Nat) (o:ct),(s.H.set l .dead)[loc]?=some o->(s.H[loc]?=some o/\¬ touch (.hb loc)/\∀ j,¬ touch (.hs loc j))\/o=.dead:=by
    intro touch ht loc o h
    rw[ap6] at h
    split at h
    ·injection h with h;exact .inr h.symm
    ·rename_i bC
     refine .inl ⟨h,fun k=>?_,fun j k=>?_⟩
     ·rcases ht _ k with k|⟨_,k⟩
      ·injection k with k;exact bC k.symm
      ·cases k
     ·rcases ht _ k with k|⟨_,k⟩
      ·cases k
      ·injection k with k;exact bC k.symm
   by_cases hgr:cap<n+f.length
   ·
    obtain⟨uh,C',cE,jP,Jm,Gv⟩:=grow (P:=P) (ty:=o.type) hT Qt.cellsD uJ hs hgr jd A'
    have j5:dP w (w.drew.alloc (.cells C' e)) (.cells C' e):=.drew w _
    have zE:=ij hW j5 (p:=.hb l) (by simp) (fun _=>False) s.H.length
    have st:=zE.renamed (n:=s.H.length) (b:=w.heap.size) (l:=l) (apz _) (fun _ h=>h.elim)
    have hρ:((gh.alloc w.heap.size (.hb l) fun _=>False).rename l s.H.length w.heap.size).ρ s.H.length=w.heap.size:=by simp[Gh.rename]
    have abl:∀ b,(w.drew.alloc (.cells C' e)).heap.size<=b->(gh.alloc w.heap.size (.hb l) fun _=>False).κ b≠.outer:=fun b hb=>by
     have hb0:=j5.size ▸ hb
     show (if b=w.heap.size then bc.hb l else gh.κ b)≠_
     rw[if_neg (by omega)]
     exact hW.bL b (by omega)
    have hB:gR ((gh.alloc w.heap.size (.hb l) fun _=>False).rename l s.H.length w.heap.size) (s.H.length+1) (w.drew.alloc (.cells C' e)) (((gh.alloc w.heap.size (.hb l) fun _=>False).rename l s.H.length w.heap.size).ρ s.H.length) (.hb s.H.length) (fun j=>.hs s.H.length j) (cs++f.flatten):=by
     rw[hρ]
     refine⟨by simp[Gh.rename,Gh.alloc],?_,C',e,j5.new,?_,fun j v x hv hx=>?_⟩
     ·rintro o (ho|⟨_,ho⟩)
      ·have:=hW.nB _ o ho;omega
      ·exact ho
     ·rw[apL,fF,pq,Jm,<- aqd]
      exact ap4 _ jP
     ·have hj:j<(C.toList.take (n*i.size)++news).toArray.size:=by
       have:=(apw.1 hx).1
       rw[apL,fF,pq] at this
       simp only[aqX,apL,uJ,H2];exact this
      rw[Gv j hj] at hv
      simp only[apW,aqB,uJ] at hv
      rw[aqB,fF] at hx
      split at hv
      ·rename_i h1
       rw[if_pos h1] at hx
       obtain⟨v',k1,k2,k3⟩:=hold hx
       rw[apR,if_pos h1,ap7,k1] at hv
       injection hv with hv
       subst hv
       exact⟨k2,(k3.mono zE (apz _) id).rename abl (apz _) (aqo _)⟩
      ·rename_i h1
       rw[if_neg h1] at hx
       obtain⟨v',k1,k2⟩:=sq cS hx
       simp only[apW] at k1
       rw[k1] at hv
       injection hv with hv
       subst hv
       exact⟨k2.fg,.inl (.plain _ _ (k2.mono st.S st.cell st.mp))⟩
    have lk:=hW.arr st (H':=s.H.set l .dead) (by simp) (ZC (fun _ h=>h)) (fun b o h=>h.elim id (fun h=>h.2.elim)) (fun b hb=>by
     rw[j5.size]
     have A' : (gh.alloc w.heap.size (.hb l) fun _=>False).κ b≠.none:=fun h=>hb (wT.2 h)
     have gb:(if b=w.heap.size then bc.hb l else gh.κ b)≠.none:=A'
     split at gb
     ·have:=hW.size;omega
     ·have:=hW.oT b gb;omega) hB hrefs
    refine⟨_,(gh.alloc w.heap.size (.hb l) fun _=>False).rename l s.H.length w.heap.size,w.drew.alloc (.cells C' e),.inl (gl ho gx dF jy (by rw[hV];exact cE)),?_⟩
    have:=Out.arr (lo:=l) (k:=n+f.length) (cap:=uh) (z:=i.size) hF hd st (fun b hb=>by
     have A':=qC.1 hb
     have gb:(if b=w.heap.size then bc.hb l else gh.κ b)=.outer:=A'
     split at gb
     ·cases gb
     ·exact gb) (by simp) lk jP ⟨e,by rw[hρ];exact⟨C',(0,0),j5.new,by rw[Jm,Nat.zero_add]⟩⟩
    rw[hρ] at this
    exact this
   ·
    have nQ:n+f.length<=cap:=by omega
    have jm:n*i.size+news.length<=C.size:=by rw[H2,hCb,<- aqd];exact ap4 _ nQ
    have cE:=room (P:=P) (ty:=o.type) hT hs hb (aqF _) nQ jm
    have lx:n*i.size+news.toArray.size<=C.size:=by simpa using jm
    have jI:∀ o,gh.S (gh.ρ l) o->(fj C (n*i.size) news.toArray)[o]?=C[o]?:=fun o ho=>(hS o ho).elim
    have zE:=nA hW hb (cY lx) jI s.H.length
    rw[hκ] at zE
    have st:=zE.renamed (n:=s.H.length) (b:=gh.ρ l) (l:=l) (apz _) (fun r h=>.inl h)
    have hρ:(gh.rename l s.H.length (gh.ρ l)).ρ s.H.length=gh.ρ l:=by simp[Gh.rename]
    have gM:(w.setRow (gh.ρ l) (fj C (n*i.size) news.toArray)).heap.size=w.heap.size:=by simp
    have P0:gh.ρ l<w.heap.size:=(apD.1 hb).1
    have abl:∀ b,(w.setRow (gh.ρ l) (fj C (n*i.size) news.toArray)).heap.size<=b->gh.κ b≠.outer:=fun b hb=>hW.bL b (by rw[gM] at hb;exact hb)
    have hB:gR (gh.rename l s.H.length (gh.ρ l)) (s.H.length+1) (w.setRow (gh.ρ l) (fj C (n*i.size) news.toArray)) ((gh.rename l s.H.length (gh.ρ l)).ρ s.H.length) (.hb s.H.length) (fun j=>.hs s.H.length j) (cs++f.flatten):=by
     rw[hρ]
     refine⟨by simp[Gh.rename,hκ],hS,_,Oy,setRow_heap w _ C _ Oy _ hb,?_,fun j v x hv hx=>?_⟩
     ·rw[apL,fF,pq,cY lx,hCb,<- aqd]
      exact ap4 _ nQ
     ·rw[jE lx] at hv
      have DZ:=(apw.1 hx).1
      rw[apL,fF,pq] at DZ
      rw[aqB,fF] at hx
      simp only[aqX] at hv
      split at hx
      ·rename_i h1
       rw[if_neg (by omega)] at hv
       obtain⟨v',k1,k2,k3⟩:=hold hx
       rw[k1] at hv
       injection hv with hv
       subst hv
       exact⟨k2,(k3.mono zE (apz _) (by simp)).rename abl (apz _) (aqo _)⟩
      ·rename_i h1
       rw[if_pos (by omega)] at hv
       obtain⟨v',k1,k2⟩:=sq cS hx
       rw[k1] at hv
       injection hv with hv
       subst hv
       exact⟨k2.fg,.inl (.plain _ _ (k2.mono st.S st.cell st.mp))⟩
    have lk:=hW.arr st (H':=s.H.set l .dead) (by simp) (ZC (fun _ h=>h)) (fun b o h=>h) (fun b hb=>by
     rw[gM]
     exact hW.oT b (fun h=>hb (wT.2 h))) hB hrefs
    refine⟨_,gh.rename l s.H.length (gh.ρ l),w.setRow (gh.ρ l) (fj C (n*i.size) news.toArray),.inl (gl ho gx dF jy (by rw[hV];exact cE)),?_⟩
    have:=Out.arr (lo:=l) (k:=n+f.length) (cap:=cap) (z:=i.size) hF hd st (fun b hb=>qC.1 hb) (by simp) lk nQ ⟨Oy,by rw[hρ];exact⟨_,(0,0),setRow_heap w _ C _ Oy _ hb,by rw[cY lx,hCb,Nat.zero_add]⟩⟩
    rw[hρ] at this
    exact this
  ·cases he
 ·cases he
theorem IZ(hW:aM G base s.H gh w)(hF:FR L nt gh w a s){o:Oper}{c:Call}{x y:Operand}{t u e:TypeId}{sz bytes:Nat}{yx yy:ar}{z:AV}{s' : Option AS}
  (ho:o.op=.call c) (gx:c.callee=.builtin .append) (dF:c.args.toList=[x,y]) (jy:c.argTypes.toList=[t,u]) (hT:wc P t e sz bytes) (hu:(∃ e',P.underlying u=some (.slice e'))\/P.underlying u=some .string)
  (mR:ak nt x=some yx) (wC:ak nt y=some yy) (he:iF s sz bytes (yx.addr G s.T) (yy.eval G s.T)=some (z,s')) (hd:∀ k,o.dst=some k->k<nt) :
  ∃ v' aK w',sP P a o w v' w'/\Out G base nt L gh w a s o.dst z (s'.getD s) v' aK w':=by
 unfold iF at he
 split at he
 ·rename_i v hn
  simp only[apv,apx] at he
  obtain⟨rfl,rfl⟩:=he
  obtain⟨i,zv,hi,_,rfl,_⟩:=hT.hi
  have Nf:((∃ o,yy.eval G s.T=.slice [] o)\/yy.eval G s.T=.ae)->∃ news,Src P i.size u (a.eval y) 0 news w:=by
   rintro (⟨o,hY⟩|hY)
   ·obtain⟨news,k1,_⟩:=sN (P:=P) (sz:=i.size) (f:=[]) hW hF wC (by rw[hY];rfl) rfl hu
    exact⟨news,k1⟩
   ·rw[(cc hW hF wC hY rfl).kH]
    refine⟨[],hu,fun _=>rfl,run_firstCells_none w _ 0 0 0,run_firstCells_none w.drew _ 0 0 0,by simp,fun _ h=>by cases h⟩
  have key:(∃ ao,a.eval x=.slice ao 0 0/\VR gh s.H.length w (a.eval x) v)/\((∃ o,yy.eval G s.T=.slice [] o)\/yy.eval G s.T=.ae):=by
   generalize hY:yy.eval G s.T=Y at hn
   generalize hX:yx.addr G s.T=X at hn
   unfold G6 at hn
   split at hn
   ·have n8:∃ ao,a.eval x=.slice ao 0 0:=by
     have kQ:∃ p,CR gh s.H.length w p (a.eval x) (.slice [] true):=by
      cases yx with
      | tmp t0 =>
       obtain⟨rfl,ht⟩:=gW mR
       have Gl:s.T t0=.slice [] true:=by
        simp only[ar.addr] at hX
        split at hX<;>first|cases hX|exact hX
       exact⟨_,B0 hF ht Gl⟩
      | cr v =>
       simp only[ar.addr] at hX
       subst hX
       cases x with
       | tmp k =>
        simp only[ak] at mR
        rcases aql (Nat.blt k nt) with hb|hb<;>rw[hb] at mR<;>simp at mR
       | const u =>
        simp only[ak,apt] at mR
        obtain⟨zz,hz,h⟩:=mR
        injection h with h
        subst h
        exact⟨.none,.inl (iQ hz)⟩
       | global g=>simp[ak] at mR
       | func f=>simp[ak] at mR
      | aO g=>simp[ar.addr] at hX
      | fn f=>simp[ar.addr] at hX
     obtain⟨_,kQ⟩:=kQ
     exact Bx kQ
    obtain⟨ao,hao⟩:=n8
    have Jx:=mV hW hF mR hX rfl
    split at hn
    ·injection hn with hn;subst hn;exact⟨⟨ao,hao,Jx⟩,.inl ⟨_,rfl⟩⟩
    ·injection hn with hn;subst hn;exact⟨⟨ao,hao,Jx⟩,.inr rfl⟩
    ·cases hn
   ·have Jx:=mV hW hF mR hX rfl
    split at hn
    ·injection hn with hn;subst hn;exact⟨⟨none,Jx.kH,Jx⟩,.inl ⟨_,rfl⟩⟩
    ·injection hn with hn;subst hn;exact⟨⟨none,Jx.kH,Jx⟩,.inr rfl⟩
    ·cases hn
   ·cases hn
  obtain⟨hxs,hyc⟩:=key
  have Nf:=Nf hyc
  obtain⟨ao,hV,hv⟩:=hxs
  obtain⟨news,hs⟩:=Nf
  have hnn:news=[]:=by have:=hs.newsLen;simp at this;exact this
  subst hnn
  refine⟨a.eval x,gh,w,.inl (gl ho gx dF jy ?_),Out.pure hW hF hd (.cK hv)⟩
  rw[hV]
  exact run_append_nothing w t u o.type e i hT.ht hi ao 0 0 (apz _) _ hs
 ·exact FU hW hF ho gx dF jy hT hu mR wC he hd
theorem FX(hW:aM G base s.H gh w)(hF:FR L nt gh w a s){o:Oper}{t e:TypeId}{len sz:Nat}{parts:Array (Nat × Operand)}{z:List AV}{E:List (List AV)}{ps:List (Nat × ar)}
  (ho:o.op=.buildSlice t len parts) (hu:P.underlying t=some (.slice e)) (hs:dg P e=some sz) (hz:lB P e=some z) (hp:kC nt parts.toList=some ps)
  (C4:len*sz<=16777216) (VP:z.length=sz) (yJ:0<sz) (mJ:cH E=true)
  (he:cF sz (List.replicate len (z.map AV.drop)) (ps.map fun p=>(p.1,(p.2.eval G s.T).drop))=some E) (hd:∀ k,o.dst=some k->k<nt) :
  ∃ v' aK w',sP P a o w v' w'/\Out G base nt L gh w a s o.dst (.sref s.H.length 0 E.length sz) (s.fC ⟨s.H++[.box aL E.flatten],s.H.length⟩) v' aK w':=by
 obtain⟨C',cE,cS,wE⟩:=wO (P:=P) hW hF hu hs hz hp C4 VP yJ he
 have j5:=dP.alloc w (.cells C' e)
 have zE:=fR hW j5
 have st:Step (ja s.H.length) s.H.length gh w (gh.bg w.heap.size s.H.length) (w.alloc (.cells C' e)):=zE.mono (fun _ h=>h.elim)
 have hρ:(gh.bg w.heap.size s.H.length).ρ s.H.length=w.heap.size:=by simp[Gh.bg]
 have pq:E.flatten.length=E.length*sz:=nN E (fun r hm=>by obtain⟨k,hk⟩:=aqb hm;exact cS.2.1 k r hk)
 have hB:gR (gh.bg w.heap.size s.H.length) (s.H.length+1) (w.alloc (.cells C' e)) ((gh.bg w.heap.size s.H.length).ρ s.H.length) (.hb s.H.length) (fun j=>.hs s.H.length j) E.flatten:=by
  rw[hρ]
  refine⟨by simp[Gh.bg,Gh.alloc],?_,C',e,j5.new,by rw[pq,cS.1];exact apz _,fun j v x hv hx=>?_⟩
  ·rintro o (ho|⟨_,ho⟩)
   ·have:=hW.nB _ o ho;omega
   ·exact ho
  ·obtain⟨v',tZ,hp⟩:=sq cS hx
   rw[tZ] at hv
   injection hv with hv
   subst hv
   exact⟨hp.fg,.inl (.plain _ _ (hp.mono st.S st.cell st.mp))⟩
 have hr:E.flatten.all (aV s.H.length)=true:=apA.2 fun x hx=>lR (oX mJ hx) _
 have lk:=hW.arr zE (H':=s.H) rfl (fun loc o h=>.inl ⟨h,id,fun _=>id⟩) (fun b o h=>h.elim id (fun h=>h.2.elim)) (fun b hb=>by
  rw[j5.size]
  have gb:(if b=w.heap.size then bc.hb s.H.length else gh.κ b)≠.none:=hb
  split at gb
  ·have:=hW.size;omega
  ·have:=hW.oT b gb;omega) hB hr
 refine⟨.slice (some ⟨w.heap.size,0,none⟩) len len,gh.bg w.heap.size s.H.length,w.alloc (.cells C' e),.inl ?_,?_⟩
 ·have:(parts.map fun x=>(x.1,a.eval x.2))=parts.map fun p=>(p.1,a.eval p.2):=rfl
  simp[execOp,ho,cE]
 ·have:=Out.arr (lo:=s.H.length) (k:=E.length) (cap:=len) (z:=sz) hF hd st (fun b hb=>(jD hW j5).out b hb) rfl lk (aqJ wE) ⟨e,by rw[hρ];exact⟨_,(0,0),j5.new,by rw[cS.1,wE,Nat.zero_add]⟩⟩
  rw[hρ,<- wE] at this
  rw[<- wE]
  exact this
theorem PB(hW:aM G base s.H gh w)(hF:FR L nt gh w a s){o:Oper}{t e:TypeId}{i:TypeInfo}{zv:Value}{zero:List AV}{x y:Operand}{yx:ar}{z:AV}{s' : Option AS}
  (ho:o.op=.makeSlice t x y) (K9:DJ x y=true) (ht:P.underlying t=some (.slice e)) (hi:P.info? e=some i) (hz:i.zero=some zv) (ZY:dv zv.cells.toList=some zero) (hzs:zv.cells.size=i.size) (yJ:0<i.size)
  (mR:ak nt x=some yx) (he:qf s i.size i.bytes (zero.map AV.drop) (yx.eval G s.T)=some (z,s')) (hd:∀ k,o.dst=some k->k<nt) :
  ∃ v' aK w',sP P a o w v' w'/\Out G base nt L gh w a s o.dst z (s'.getD s) v' aK w':=by
 simp only[qf,apu] at he
 obtain⟨k,hk,he⟩:=he
 obtain⟨h0,he⟩:=ab he
 simp only[apv,apx] at he
 obtain⟨rfl,rfl⟩:=he
 simp only[Bool.and_eq_true,Nat.ble_eq] at h0
 obtain⟨A',jd⟩:=h0
 obtain⟨kd,M5⟩:=kA hW hF mR hk
 have hyx:a.eval y=a.eval x:=by
  cases x<;>cases y<;>simp only[DJ] at K9<;>try (cases K9;done)
  rw[aqw K9]
 have cE:=run_make (P:=P) w t e i zv ht hi hz kd kd (k:Int) (k:Int) (by omega) (by omega) (by
  have:(i.bytes:Int)*k=((k*i.bytes:Nat):Int):=by rw[arN];simp
  rw[this];omega) (by omega)
 have j5:dP w (w.alloc (.cells (madeCells zv.cells (k*i.size)) e)) (.cells (madeCells zv.cells (k*i.size)) e):=.alloc w _
 have zE:=fR hW j5
 have st:Step (ja s.H.length) s.H.length gh w (gh.bg w.heap.size s.H.length) (w.alloc (.cells (madeCells zv.cells (k*i.size)) e)):=zE.mono (fun _ h=>h.elim)
 have hρ:(gh.bg w.heap.size s.H.length).ρ s.H.length=w.heap.size:=by simp[Gh.bg]
 obtain⟨VP,Ng⟩:=jb (gh:=gh) (n:=s.H.length) (w:=w) ZY
 have ag0:zero.length=i.size:=by rw[<- hzs];simpa using VP.symm
 have ZS:∀ r∈List.replicate k (zero.map AV.drop),r.length=i.size:=fun r hr=>by rw[arL hr];simpa using ag0
 have pq:(List.replicate k (zero.map AV.drop)).flatten.length=k*i.size:=by rw[nN _ ZS];simp
 have mJ:∀ x,x∈(List.replicate k (zero.map AV.drop)).flatten->x.plain=true:=by
  intro x hx
  obtain⟨r,hr,hx⟩:=arH.1 hx
  rw[arL hr] at hx
  obtain⟨y,hy,rfl⟩:=ap9.1 hx
  exact nG ZY y hy
 have hB:gR (gh.bg w.heap.size s.H.length) (s.H.length+1) (w.alloc (.cells (madeCells zv.cells (k*i.size)) e)) ((gh.bg w.heap.size s.H.length).ρ s.H.length) (.hb s.H.length) (fun j=>.hs s.H.length j) (List.replicate k (zero.map AV.drop)).flatten:=by
  rw[hρ]
  refine⟨by simp[Gh.bg,Gh.alloc],?_,_,e,j5.new,by rw[pq,size_madeCells];exact apz _,fun j v x hv hx=>?_⟩
  ·rintro o (ho|⟨_,ho⟩)
   ·have:=hW.nB _ o ho;omega
   ·exact ho
  ·obtain⟨m,q,r,h1,h2,rfl⟩:=xq _ j x ZS hx
   have hr:r=zero.map AV.drop:=arL (apF h1)
   subst hr
   have hq:q<i.size:=by rw[<- ag0];simpa using (apw.1 h2).1
   simp only[apG,apt] at h2
   obtain⟨y,hy,rfl⟩:=h2
   have DZ:=(apD.1 hv).1
   rw[size_madeCells] at DZ
   simp only[madeCells,ar1,Array.getElem?_range,if_pos DZ,Option.map_some,apv] at hv
   have yI:(m*i.size+q) % zv.cells.size=q:=by rw[hzs,arN,Nat.mul_add_mod,Nat.mod_eq_of_lt hq]
   rw[yI] at hv
   have hqz:q<zv.cells.size:=by omega
   have hc:zv.cells[q]?=some zv.cells[q]:=apJ hqz
   have VL:v=zv.cells[q]:=by rw[<- hv];exact getElem!_pos zv.cells q hqz
   subst VL
   obtain⟨k1,k2⟩:=Ng q _ y (by rw[ap7];exact hc) hy
   exact⟨k2,.inl ((k1.dropped).mono st (aqo _))⟩
 have hr:(List.replicate k (zero.map AV.drop)).flatten.all (aV s.H.length)=true:=apA.2 fun x hx=>lR (mJ x hx) _
 have lk:=hW.arr zE (H':=s.H) rfl (fun loc o h=>.inl ⟨h,id,fun _=>id⟩) (fun b o h=>h.elim id (fun h=>h.2.elim)) (fun b hb=>by
  rw[j5.size]
  have gb:(if b=w.heap.size then bc.hb s.H.length else gh.κ b)≠.none:=hb
  split at gb
  ·have:=hW.size;omega
  ·have:=hW.oT b gb;omega) hB hr
 refine⟨.slice (some ⟨w.heap.size,0,none⟩) k k,gh.bg w.heap.size s.H.length,w.alloc (.cells (madeCells zv.cells (k*i.size)) e),.inl ?_,?_⟩
 ·have e1:(k:Int).toNat=k:=by simp
  rw[e1] at cE
  simp only[execOp,ho,hyx,M5]
  simp[cE]
 ·have:=Out.arr (lo:=s.H.length) (k:=k) (cap:=k) (z:=i.size) hF hd st (fun b hb=>(jD hW j5).out b hb) rfl lk (apz _) ⟨e,by rw[hρ];exact⟨_,(0,0),j5.new,by rw[size_madeCells,Nat.zero_add]⟩⟩
  rw[hρ] at this
  exact this
end
end
section
section
variable {P:Program}{G:Nat->List AV}{base nt:Nat}{L:List Nat}{gh j4:Gh}{w w' : World}{a:Act}{s:AS}{H:ag}
theorem U6(hW:aM G base s.H gh w)(hF:FR L nt gh w a s){o:Oper}{op:BinOp}{t u:TypeId}{x y:Operand}{ix:ar}{neg b:Bool}
  (ho:o.op=.binOp op t x y u) (hc:ak nt x=some ix) (hn:J3 P op t y=some neg) (he:zd (ix.eval G s.T)=some b) :
  ∃ v,(execOp a.eval o).run P w=.ok (.value v) w/\mA gh s.H.length nt w s.T s.gen (fB a) v (.bool (neg != b)):=by
 unfold J3 at hn
 split at hn
 ·rename_i e hu
  have hx:∃ ad n c,a.eval x=.slice ad n c/\ad.isNone=b:=by
   generalize hX:ix.eval G s.T=X at he
   unfold zd at he
   split at he
   ·injection he with he
    subst he
    have hv:=cc hW hF hc hX rfl
    generalize a.eval x=V at hv
    cases hv with
    | plain _ _ h=>cases h;exact⟨_,_,_,rfl,rfl⟩
   ·injection he with he
    subst he
    rename_i r es own
    have hp:=(cc hW hF hc hX rfl).iK
    generalize a.eval x=V at hp
    cases hp with
    | slice b of n cap sz _ f hn jP bI cP cy=>exact⟨_,_,_,rfl,rfl⟩
   ·cases he
  obtain⟨ad,n,c,hA,hb⟩:=hx
  have hg:(eqGuard op t x (.const (.slice none 0 0)) (.slice ad n c) (.slice none 0 0)).run P w=.ok () w:=fz (by intro c;simp) (.inl (by simp))
  split at hn
  ·injection hn with hn
   subst hn
   have hr:=Lib.run_eql_slice_nil w t e ad n c 0 0 hu
   refine⟨.bool ad.isNone,?_,.cK (.plain _ _ ?_)⟩
   ·simp only[execOp,ho,hA,show a.eval (.const (.slice none 0 0))=.slice none 0 0 from rfl,Sem.run_bind,hg,hr,Result.andThen_ok,Sem.run_pure]
   ·rw[hb];cases b<;>exact .bool _
  ·injection hn with hn
   subst hn
   have hr:=run_neq_slice_nil_any w t e ad n c 0 0 hu
   refine⟨.bool (!ad.isNone),?_,.cK (.plain _ _ ?_)⟩
   ·simp only[execOp,ho,hA,show a.eval (.const (.slice none 0 0))=.slice none 0 0 from rfl,Sem.run_bind,hg,hr,Result.andThen_ok,Sem.run_pure]
   ·rw[hb];cases b<;>exact .bool _
  ·cases hn
 ·cases hn
theorem UY(hW:aM G base s.H gh w)(hF:FR L nt gh w a s){o:Oper}{t:TypeId}{x:Operand}{y:ar}{cs:List AV}(ho:o.op=.box t x)(hc:ak nt x=some y)(fF:(y.eval G s.T).drop.cells=some cs)
  (hd:∀ k,o.dst=some k->k<nt) :
  ∃ v' aK w',sP P a o w v' w'/\Out G base nt L gh w a s o.dst (.ref s.H.length 0) (s.fC ⟨s.H++[.cj (cs.map AV.drop)],s.H.length⟩) v' aK w':=by
 have bI:=(pF hW hF hc cs fF).dropped
 have hp:dP w (w.alloc (.cells (a.eval x).cells t)) (.cells (a.eval x).cells t):=.alloc w _
 have st:=fR hW hp
 have hρ:(gh.bg w.heap.size s.H.length).ρ s.H.length=w.heap.size:=by simp[Gh.bg]
 have hB:gR (gh.bg w.heap.size s.H.length) (s.H.length+1) (w.alloc (.cells (a.eval x).cells t)) w.heap.size (.hb s.H.length) (fun j=>.hs s.H.length j) (cs.map AV.drop):=by
  refine⟨by simp[Gh.bg,Gh.alloc],?_,_,t,hp.new,aqJ bI.1.symm,fun j v x hv hx=>?_⟩
  ·rintro o (ho|⟨_,ho⟩)
   ·have:=hW.nB _ o ho;omega
   ·exact ho
  ·obtain⟨h1,h2⟩:=bI.2 j v x hv hx
   exact⟨h2,.inl (h1.mono st (aqo _))⟩
 have hv:VR (gh.bg w.heap.size s.H.length) (s.H++[ct.cj (cs.map AV.drop)]).length (w.alloc (.cells (a.eval x).cells t)) (.pointer (some ⟨w.heap.size,0,none⟩)) (.ref s.H.length 0):=by
  have:=VR.ref (gh:=gh.bg w.heap.size s.H.length) (w:=w.alloc (.cells (a.eval x).cells t)) (n:=(s.H++[ct.cj (cs.map AV.drop)]).length) s.H.length 0 (by simp)
  rw[hρ] at this;exact this
 refine⟨_,_,_,.inl ?_,⟨hW.zo hp (fun _ _ h=>by cases h) hB,hF.put st (fun i=>⟨id,id,fun _=>id⟩) (by simp) o.dst hd (.cK hv),jD hW hp⟩⟩
 simp[execOp,ho,Instr.box,newVar,newRow]
theorem MD(hW:aM G base s.H gh w)(hF:FR L nt gh w a s){o:Oper}{t:TypeId}{z:List AV}(ho:o.op=.alloc t){kp:Bool}(hz:(lB P t).map (fun z=>cond kp (z.map mS) z)=some z)
  (hd:∀ k,o.dst=some k->k<nt) :
  ∃ v' aK w',sP P a o w v' w'/\Out G base nt L gh w a s o.dst (.ref s.H.length 0) (s.fC ⟨s.H++[.cj (z.map AV.drop)],s.H.length⟩) v' aK w':=by
 obtain⟨i,zv,hi,Ng,agL⟩:=pN (gh:=gh) (n:=s.H.length) (w:=w) hz
 have bI:=agL.dropped
 have hp:dP w (w.alloc (.cells zv.cells t)) (.cells zv.cells t):=.alloc w _
 have st:=fR hW hp
 have hρ:(gh.bg w.heap.size s.H.length).ρ s.H.length=w.heap.size:=by simp[Gh.bg]
 have hB:gR (gh.bg w.heap.size s.H.length) (s.H.length+1) (w.alloc (.cells zv.cells t)) w.heap.size (.hb s.H.length) (fun j=>.hs s.H.length j) (z.map AV.drop):=by
  refine⟨by simp[Gh.bg,Gh.alloc],?_,_,t,hp.new,aqJ bI.1.symm,fun j v x hv hx=>?_⟩
  ·rintro o (ho|⟨_,ho⟩)
   ·have:=hW.nB _ o ho;omega
   ·exact ho
  ·obtain⟨h1,h2⟩:=bI.2 j v x hv hx
   exact⟨h2,.inl (h1.mono st (aqo _))⟩
 have hv:VR (gh.bg w.heap.size s.H.length) (s.H++[ct.cj (z.map AV.drop)]).length (w.alloc (.cells zv.cells t)) (.pointer (some ⟨w.heap.size,0,none⟩)) (.ref s.H.length 0):=by
  have:=VR.ref (gh:=gh.bg w.heap.size s.H.length) (w:=w.alloc (.cells zv.cells t)) (n:=(s.H++[ct.cj (z.map AV.drop)]).length) s.H.length 0 (by simp)
  rw[hρ] at this;exact this
 refine⟨_,_,_,.inl ?_,⟨hW.zo hp (fun _ _ h=>by cases h) hB,hF.put st (fun i=>⟨id,id,fun _=>id⟩) (by simp) o.dst hd (.cK hv),jD hW hp⟩⟩
 simp[execOp,ho,vW hi Ng]
theorem aM.open(hW:aM G base H gh w){loc:Nat}{ty:TypeId}{cs:List AV}(hH:H[loc]?=some (.box ty cs)):aM G base (H.set loc (.cj cs)) gh w:=by
 have aU:=(apw.1 hH).1
 have old:∀ {l:Nat} {o:ct},(H.set loc (.cj cs))[l]?=some o->(l=loc/\o=.cj cs)\/(l≠loc/\H[l]?=some o):=by
  intro l o h
  by_cases e:l=loc
  ·subst e
   rw[ap5 aU] at h
   exact .inl ⟨rfl,(aqi h).symm⟩
  ·rw[ap1 (fun h=>e h.symm)] at h
   exact .inr ⟨e,h⟩
 refine⟨hW.size,hW.nB,hW.oT,hW.aO,fun l kP Oi h=>?_,fun l kP Oi h=>?_,hW.xg,hW.bytes,fun l o h=>?_,fun l kP Oi h hf=>?_⟩
 ·rw[aqE]
  rcases old h with ⟨_,h⟩|⟨_,h⟩
  ·cases h
  ·exact hW.boxes l kP Oi h
 ·rcases old h with ⟨_,h⟩|⟨_,h⟩
  ·cases h
  ·exact hW.refs l kP Oi h
 ·rw[aqE]
  rcases old h with ⟨rfl,rfl⟩|⟨_,h⟩
  ·exact hW.boxes l ty cs hH
  ·exact hW.more l o h
 ·rcases old h with ⟨_,h⟩|⟨_,h⟩
  ·cases h
  ·exact hW.types l kP Oi h hf
theorem Lu(s:AS)(a:AV):(lf s a).T=s.T/\(lf s a).gen=s.gen/\(lf s a).H.length=s.H.length:=by
 unfold lf
 split
 ·split
  ·rename_i ty cs _
   cases Nat.beq ty aL<;>simp[AS.fC]
  ·exact⟨rfl,rfl,rfl⟩
 ·exact⟨rfl,rfl,rfl⟩
theorem aM.lf(hW:aM G base s.H gh w)(v:AV):aM G base (lf s v).H gh w:=by
 unfold Go.Abs.lf
 split
 ·split
  ·rename_i ty cs hH
   cases Nat.beq ty aL with
   | true=>exact hW.open hH
   | false=>exact hW
  ·exact hW
 ·exact hW
theorem MI(hW:aM G base s.H gh w)(hF:FR L nt gh w a s){o:Oper}{t:TypeId}{xa xv:Operand}{ya yv:ar}{sz:Nat}{s' : AS}(ho:o.op=.store t xa xv)(DW:ak nt xa=some ya)(P5:ak nt xv=some yv)(hs:dg P t=some sz)
  (he:gA (lf s (ya.addr G s.T)) sz (ya.addr G s.T) (yv.eval G s.T)=some s') (hd:∀ k,o.dst=some k->k<nt) :
  ∃ v' aK w',sP P a o w v' w'/\Out G base nt L gh w a s o.dst .undef (s'.bH yv) v' aK w':=by
 obtain⟨h1,h2,h3⟩:=Lu s (ya.addr G s.T)
 have lk:=hW.lf (ya.addr G s.T)
 generalize lf s (ya.addr G s.T)=q at h1 h2 h3 lk he
 have Af:FR L nt gh w a q:=⟨⟨hF.defers,hF.size,fun i hi=>by rw[h1,h2,h3];exact hF.slot i hi⟩,fun i hi=>hF.obj i (by rw[<- h1];exact hi)⟩
 rw[<- h1] at he
 obtain⟨v',aK,w',k1,k2⟩:=F0 (s:=q) lk Af ho DW P5 hs he hd
 exact⟨v',aK,w',k1,⟨k2.W,k2.F,by rw[<- h3];exact k2.E⟩⟩
theorem tf{o:Oper}{c:Call}{x y:Operand}{t u:TypeId}(ho:o.op=.call c)(gx:c.callee=.builtin .copy)(dF:c.args.toList=[x,y])(jy:c.argTypes.toList=[t,u]){v:Value}
  (cE:(Builtin.copy_ #[t,u] o.type #[a.eval x,a.eval y]).run P w=.ok v w'):(execOp a.eval o).run P w=.ok (.value v) w':=by
 have e1:c.args=#[x,y]:=by apply arF;simpa using dF
 have e2:c.argTypes=#[t,u]:=by apply arF;simpa using jy
 unfold execOp
 simp only[ho,resolve,gx,e1,e2,invoke,builtin,Sem.run_bind,Sem.run_pure,Result.andThen_ok,arG,apZ,aqe,cE]
theorem Hz{k j j' : Nat}(h:(List.range k)[j]?=some j'):j<k/\j'=j:=by
 rw[apw] at h
 obtain⟨h1,h2⟩:=h
 simp at h1 h2
 exact⟨h1,h2.symm⟩
theorem O1{n:Nat}{V:Value}{f:List (List AV)}(h:PR gh.S w V (.slice f false))(hh:fM 1 f=true){k:Nat}(hk:k<=f.length) :
  ∃ (ad:Option Addr) (ln cp:Nat) (sS:List Value),V=.slice ad ln cp/\ln=f.length/\sS.length=k/\(0<k->∃ q,ad=some q/\∀ j v,sS[j]?=some v->w.cell? (q.add j)=some v)/\(∀ r∈f.take k,r.length=1) /\
   ∀ (j:Nat) (u:Value) (x:AV),sS[j]?=some u->((f.take k).flatten)[j]?=some x->u.oneCell'=true/\PR gh.S w u x:=by
 cases h with
 | cW =>
  simp only[List.length_nil,Nat.le_zero] at hk
  subst hk
  exact⟨none,0,0,[],rfl,rfl,rfl,fun h=>absurd h (by omega),fun r hm=>by simp at hm,fun j u x h=>by simp at h⟩
 | slice b of ln cap sz _ g hn jP bI cP cy =>
  have gM:f≠[]->sz=1:=fun bC=>yE hh bI bC
  have ah1:∀ (i:Nat) (r:List AV),f[i]?=some r->r.length=1:=fun i r hi=>by
   rw[bI i r hi,gM (by rintro rfl;simp at hi)]
  have vat:∀ j,j<k->∃ r x,f[j]?=some r/\r[0]?=some x:=fun j hj=>by
   have hr:=apy (show j<f.length by omega)
   exact⟨_,_,hr,apy (by rw[ah1 _ _ hr];exact Nat.one_pos)⟩
  have cS:∀ r∈f.take k,r.length=1:=fun r hm=>by
   obtain⟨i,hi⟩:=aqb (arI hm);exact ah1 i r hi
  refine⟨some ⟨b,of,none⟩,ln,cap,(List.range k).map fun j=>g j 0,rfl,hn.symm,by simp,fun _=>⟨_,rfl,fun j v hv=>?_⟩,cS,fun j u x hu hx=>?_⟩
  ·simp only[apG,apt] at hv
   obtain⟨j',hJ,rfl⟩:=hv
   obtain⟨aU,rfl⟩:=Hz hJ
   obtain⟨r,x,h1,h2⟩:=vat _ aU
   obtain⟨_,k2,_⟩:=cP _ 0 r x h1 h2
   rw[gM (by rintro rfl;simp at h1),ar',aqO] at k2
   rw[gI];exact k2
  ·simp only[apG,apt] at hu
   obtain⟨j',hJ,rfl⟩:=hu
   obtain⟨aU,rfl⟩:=Hz hJ
   obtain⟨i,q,r,e1,e2,e3⟩:=xq (f.take k) _ x cS hx
   have hq:q=0:=by
    have:=(apw.1 e2).1
    rw[cS r (apF e1)] at this;omega
   subst hq
   rw[ar',aqO] at e3
   subst e3
   have e1' : f[j']?=some r:=by
    rw[apR,if_pos aU] at e1
    exact e1
   exact⟨(cP _ 0 r x e1' e2).2.2,cy _ 0 r x e1' e2⟩
theorem Pv(hW:aM G base s.H gh w)(hF:FR L nt gh w a s){o:Oper}{c:Call}{x y:Operand}{t u e:TypeId}{yx yy:ar}{z:AV}{s' : Option AS}
  (ho:o.op=.call c) (gx:c.callee=.builtin .copy) (dF:c.args.toList=[x,y]) (jy:c.argTypes.toList=[t,u]) (hu:P.underlying t=some (.slice e)) (hs:dg P e=some 1)
  (mR:ak nt x=some yx) (wC:ak nt y=some yy) (he:qe s (yx.addr G s.T) (yy.eval G s.T)=some (z,s')) (hd:∀ k,o.dst=some k->k<nt) :
  ∃ v' aK w',sP P a o w v' w'/\Out G base nt L gh w a s o.dst z (s'.getD s) v' aK w':=by
 have gM:(P.info? e).map (·.size)=some 1:=hs
 have hm:=arg_val hW hF mR
 unfold qe at he
 split at he
 ·
  rename_i l o0 n zz f own hX hY
  rw[hX] at hm
  obtain⟨aU,cap,hk,_,hA⟩:=VR.jA (hm:VR gh s.H.length w (a.eval x) (.sref l o0 n zz))
  have hp:=(cc hW hF wC hY rfl).iK
  split at he
  ·rename_i cs hH
   obtain⟨h0,tH⟩:=ab he
   clear he
   simp only[apv,apx] at tH
   obtain⟨rfl,rfl⟩:=tH
   simp only[Bool.and_eq_true,dX,apS,Nat.ble_eq] at h0
   obtain⟨⟨⟨rfl,hh⟩,mJ⟩,jm⟩:=h0
   obtain⟨hκ,hS,C,ty,hb,hC,fF⟩:=(hW.more l _ hH:gR gh s.H.length w (gh.ρ l) (.hb l) (fun j=>.hs l j) cs)
   have Be:Nat.min f.length n<=f.length:=Nat.min_le_left _ _
   have hkn:Nat.min f.length n<=n:=Nat.min_le_right _ _
   obtain⟨ad,ln,cp,sS,hV,qm,ZV,hq,ZQ,cy⟩:=O1 (n:=0) hp hh Be
   generalize hkk:Nat.min f.length n=k at *
   have fX:∀ u∈sS,u.oneCell'=true:=by
    intro u hu
    obtain⟨j,hj⟩:=aqb hu
    have DZ:j<k:=by rw[<- ZV];exact (apw.1 hj).1
    have pq:(f.take k).flatten.length=k:=by rw[nN _ ZQ];simp;omega
    exact (cy j u _ hj (apy (by rw[pq];exact DZ))).1
   have Qb:o0+sS.toArray.size<=C.size:=by simp;omega
   have cE:(Builtin.copy_ #[t,u] o.type #[a.eval x,a.eval y]).run P w=.ok (.int .i64 (k:Int)) (w.setRow (gh.ρ l) (fj C o0 sS.toArray)):=by
    rw[hA,hV]
    by_cases hk0:k=0
    ·have hv0:sS=[]:=aru.1 (by omega)
     have Oq:fj C o0 (#[]:Array Value)=C:=by simp[fj]
     rw[hv0,Oq,setRow_self w _ C ty (0,0) hb]
     have:=run_copy_none (P:=P) w t u o.type e (some ⟨gh.ρ l,o0,none⟩) ad n cap ln cp hu gM (by rw[qm,hkk];exact hk0)
     rw[this,hk0];rfl
    ·obtain⟨q,rfl,akw⟩:=hq (by omega)
     have:=run_copy_row (P:=P) w t u o.type e (gh.ρ l) o0 n cap q ln cp C ty sS hu gM hb (by rw[ZV,qm,hkk]) akw (by simpa using Qb) fX
     rw[this]
     simp[fj,ZV,goInt]
   have jI:∀ o,gh.S (gh.ρ l) o->(fj C o0 sS.toArray)[o]?=C[o]?:=fun o ho=>(hS o ho).elim
   have yK:=cY Qb
   have st:=nA hW hb yK jI s.H.length
   have hE:=zt hW hb yK jI (by rw[hκ];simp) (by rw[hκ];simp) s.H.length
   rw[hκ] at st
   have cS:(f.take k).flatten.length=k:=by
    rw[nN _ ZQ];simp;omega
   have hB:gR gh s.H.length (w.setRow (gh.ρ l) (fj C o0 sS.toArray)) (gh.ρ l) (.hb l) (fun j=>.hs l j) (putAt cs o0 (f.take k).flatten):=by
    refine⟨hκ,hS,_,ty,setRow_heap w _ C _ ty _ hb,by rw[yK,pG (by rw[cS];omega)];exact hC,fun j u x Bc xb=>?_⟩
    rw[jE Qb] at Bc
    rw[sG (by rw[cS];omega)] at xb
    simp only[aqX,ZV] at Bc
    rw[cS] at xb
    split at Bc
    ·rename_i hc
     rw[if_pos hc] at xb
     obtain⟨k1,k2⟩:=cy _ u x (by simpa using Bc) xb
     exact⟨k1,.inl (.plain _ _ (k2.mono st.S st.cell st.mp))⟩
    ·rename_i hc
     rw[if_neg hc] at xb
     obtain⟨k1,k2⟩:=fF j u x Bc xb
     exact⟨k1,k2.mono st (apz _) (by simp)⟩
   have CZ:aM G base (s.H.set l (.cj (putAt cs o0 (f.take k).flatten))) gh (w.setRow (gh.ρ l) (fj C o0 sS.toArray)) :=
    hW.u6 st aU (by intro k hk;simp[hk]) (fun b o ho=>by simpa using hW.nB b o ho) (fun b hb=>by simpa using hW.oT b hb) (fun _ _ h=>by cases h) hB (fun _ _ _ h=>.inl h)
   refine⟨.int .i64 k,gh,_,.inl (tf ho gx dF jy cE),CZ,?_,hE⟩
   exact hF.put (H':=s.H.set l (.cj (putAt cs o0 (f.take k).flatten))) (lo':=cond (Nat.blt l s.lo) l s.lo) st (fun i=>⟨by simp,by simp,by simp⟩) (by simp) o.dst hd (.cK (.plain _ _ (.int _ _)))
  ·cases he
 ·
  rename_i own f aoD hX hY
  simp only[apv,apx] at he
  obtain⟨rfl,rfl⟩:=he
  rw[hX] at hm
  have h1:∃ ad cp,a.eval x=.slice ad 0 cp:=by
   have hp:=VR.iK (hm:VR gh s.H.length w (a.eval x) (.slice [] false))
   generalize a.eval x=V at hp
   cases hp with
   | cW=>exact⟨_,_,rfl⟩
   | slice b of n cap sz _ f hn _ _ _ _=>simp at hn;subst hn;exact⟨_,_,rfl⟩
  have h2:∃ ad n cp,a.eval y=.slice ad n cp:=by
   have hp:=(cc hW hF wC hY rfl).iK
   generalize a.eval y=V at hp
   cases hp with
   | cW=>exact⟨_,_,_,rfl⟩
   | slice b of n cap sz _ f hn _ _ _ _=>exact⟨_,_,_,rfl⟩
  obtain⟨ad,cp,h1⟩:=h1
  obtain⟨ad',n',cp',h2⟩:=h2
  have cE:=run_copy_none (P:=P) w t u o.type e ad ad' 0 cp n' cp' hu gM (Nat.min_zero _)
  rw[<- h1,<- h2] at cE
  refine⟨.int .i64 0,gh,w,.inl (tf ho gx dF jy cE),?_⟩
  exact Out.pure hW hF hd (.cK (.plain _ _ (.int _ _)))
 ·cases he
end
end
end Go.Abs
