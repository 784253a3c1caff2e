/-
  A part of the proof of PrintScans: AbsMap3, AbsMap4, AbsMap5, AbsMap6, AbsArr, AbsCopy, AbsEvOp.
-/
import Derived.Maps.RangeRun
import Derived.Laws.MakeOwn
import Derived.Laws.IdiomCopy
import Derived.WalkSpells
import Derived.Test.YtocbgffdpfiidaaGreatDoorP03
set_option linter.unusedSimpArgs false
set_option linter.unusedVariables false
set_option linter.defProp false
namespace Go.Abs
section
section
variable {P:Program}{G:Nat->List AV}{base nt:Nat}{L:List Nat}{gh:Gh}{w w' : World}{a:Act}{s:AS}{H:ag}
theorem find_spec{a:List UInt8} : ∀ (es:List (List AV)),(∀ r,r∈es->∃ b,kL r=some b)->∃ o,fz [.s] [.str a] es=some o /\
  ((o=none/\∀ r,r∈es->kL r≠some a)\/∃ i r,o=some i/\es[i]?=some r/\kL r=some a)
 | [],_=>⟨none,rfl,.inl ⟨rfl,fun r h=>by cases h⟩⟩
 | r :: es,h=>by
  obtain⟨b,hb⟩:=h r (aid ..)
  obtain⟨q,rfl⟩:∃ q,r=.str b :: q:=by
   unfold kL at hb
   split at hb
   ·injection hb with hb;subst hb;exact⟨_,rfl⟩
   ·cases hb
  obtain⟨o,ho,hs⟩:=find_spec (a:=a) es (fun r hr=>h r (ai4 _ hr))
  by_cases hab:a=b
  ·subst hab
   exact⟨some 0,by simp[fz,bH],.inr ⟨0,_,rfl,rfl,rfl⟩⟩
  ·have cS:(a==b)=false:=by simpa using hab
   refine⟨o.map (· + 1),by simp[fz,bH,cS,ho],?_⟩
   rcases hs with ⟨rfl,hs⟩|⟨i,r,rfl,h1,h2⟩
   ·refine .inl ⟨rfl,fun r hr=>?_⟩
    rcases aii.1 hr with rfl|hr
    ·simp only[kL];intro h;injection h with h;exact hab h.symm
    ·exact hs r hr
   ·exact .inr ⟨i+1,r,rfl,by simpa using h1,h2⟩
theorem apart_spec:∀ {es:List (List AV)},pX es=true->(∀ r,r∈es->∃ b,kL r=some b)/\∀ r r',r∈es->r'∈es->kL r=kL r'->r=r'
 | [],_=>⟨fun r h=>(by cases h),fun r r' h=>(by cases h)⟩
 | q :: es,h=>by
  simp only[pX,ahR] at h
  obtain⟨h1,h2⟩:=h
  obtain⟨i1,i2⟩:=apart_spec h2
  cases hq:kL q with
  | none=>rw[hq] at h1;cases h1
  | some a =>
   rw[hq] at h1
   simp only[ahU] at h1
   have cS:∀ r,r∈es->kL r≠some a:=by
    intro r hr hra
    have:=h1 r hr
    rw[hra] at this
    simp at this
   refine⟨fun r hr=>?_,fun r r' hr x6 he=>?_⟩
   ·rcases aii.1 hr with rfl|hr
    ·exact⟨a,hq⟩
    ·exact i1 r hr
   ·rcases aii.1 hr with e1|k1<;>rcases aii.1 x6 with e2|k2
    ·rw[e1,e2]
    ·rw[e1] at he;exact absurd (he.symm.trans hq) (cS r' k2)
    ·rw[e2] at he;exact absurd (he.trans hq) (cS r k1)
    ·exact i2 r r' k1 k2 he
theorem IH{a:List UInt8}{es rS:List (List AV)}(hp:rS.Perm es)(ha:pX es=true){o:Option Nat}(hf:fz [.s] [.str a] es=some o)(ok va:Bool)(zero:List AV)(kz:Nat) :
  ∃ o',fz [.s] [.str a] rS=some o'/\oL ok va zero kz rS o'=oL ok va zero kz es o:=by
 obtain⟨h1,h2⟩:=apart_spec ha
 obtain⟨o1,e1,s1⟩:=find_spec (a:=a) es h1
 rw[hf] at e1
 injection e1 with e1
 subst e1
 obtain⟨o',e2,s2⟩:=find_spec (a:=a) rS (fun r hr=>h1 r (hp.mem_iff.1 hr))
 refine⟨o',e2,?_⟩
 rcases s1 with ⟨rfl,s1⟩|⟨i,r,rfl,k1,k2⟩
 ·rcases s2 with ⟨rfl,_⟩|⟨i',r',rfl,k1',k2'⟩
  ·rfl
  ·exact absurd k2' (s1 r' (hp.mem_iff.1 (ahZ k1')))
 ·rcases s2 with ⟨rfl,s2⟩|⟨i',r',rfl,k1',k2'⟩
  ·exact absurd k2 (s2 r (hp.mem_iff.2 (ahZ k1)))
  ·have:r'=r:=h2 r' r (hp.mem_iff.1 (ahZ k1')) (ahZ k1) (k2'.trans k2.symm)
   subst this
   simp only[oL,List.getD,k1,k1']
theorem PX(hW:aF G base s.H gh w)(hF:FR L nt gh w a s){o:Oper}{t kt et:TypeId}{ks:List CK}{ka va:Bool}{vz:Nat}{zv:Value}{zero:List AV}(hT:DA P t kt et ks ka va vz zv zero){x i:Operand}{y yi:ak}{ok:Bool}{z:AV}{s' : Option AS}
  (ho:o.op=.lookup t x i ok) (hc:ah nt x=some y) (hi:ah nt i=some yi) (he:sB s ok ks.length ka va ks zero (y.addr G s.T) (yi.eval G s.T)=some (z,s')) :
  s'=none/\∃ v,(execOp a.eval o).run P w=.ok (.value v) w/\k8 gh s.H.length nt w s.T s.gen (dQ a) v z:=by
 simp only[sB,ahL] at he
 obtain⟨kc,oa,he⟩:=he
 obtain⟨h0,he⟩:=ab he
 simp only[ahR,dV,ah8,aiF] at h0
 obtain⟨hl,rT⟩:=h0
 have JZ:aq (yi.eval G s.T)=true:=by rw[<- ib];exact gq oa
 have hk:=bS hW hF hi rfl JZ
 have fin:∀ {M:Value} {zz:AV},a.eval x=M->(∃ v,(Instr.lookup t M (a.eval i) ok).run P w=.ok v w/\VR gh s.H.length w v zz)->∃ v,(execOp a.eval o).run P w=.ok (.value v) w/\k8 gh s.H.length nt w s.T s.gen (dQ a) v zz:=by
  rintro M zz rfl ⟨v,h1,h2⟩
  exact⟨v,by simp[execOp,ho,h1],.cB h2⟩
 have hm:=arg_val hW hF hc
 split at he
 ·rename_i hM
  simp only[ahM,ahN] at he
  obtain⟨rfl,rfl⟩:=he
  rw[hM] at hm
  refine⟨rfl,fin (M:=.map none) ?_ (At hT hk oa hl rT ok)⟩
  generalize a.eval x=V at hm
  cases (hm:VR gh s.H.length w V .cr) with
  | plain _ _ h=>cases h;rfl
 ·rename_i kG kF kQ es hM
  obtain⟨h1,nU⟩:=ab he
  clear he
  simp only[ahK,ahN] at nU
  obtain⟨r,hf,rfl,rfl⟩:=nU
  simp only[ahR,dV,ah8,aiF] at h1
  obtain⟨⟨⟨⟨rfl,rfl⟩,rfl⟩,xf⟩,I4⟩:=h1
  obtain⟨str,rfl,rfl⟩:∃ str,ks=[.s]/\kc=[.str str]:=by
   unfold RZ at I4
   split at I4
   ·exact⟨_,rfl,rfl⟩
   ·cases I4
  refine⟨rfl,?_⟩
  rw[hM] at hm
  have hp:PR gh.S w (a.eval x) (.l9 [CK.s].length ka va es):=by
   generalize a.eval x=V at hm
   cases (hm:VR gh s.H.length w V (.l9 [CK.s].length ka va es)) with
   | plain _ _ h=>exact h
  generalize hV:a.eval x=V at hp
  cases hp with
  | l9 b _ _ _ _ rS E ck f hS hb hI hpm bX =>
   have hE:=hI.size
   have bp:=hI.row
   obtain⟨o',hf',hlk⟩:=IH hpm xf hf ok va zero [CK.s].length
   rw[<- hlk]
   have hR:Rows gh s.H.length w E [CK.s].length ka va rS:=by
    refine⟨hE,fun i e r h1 h2=>⟨f i,(bp i e r h1 h2).2.2.2.1,fun j x hj _=>bX i j r x h2 hj⟩,fun i e r h1 h2=>?_⟩
    obtain⟨k1,_,k2,_,k3⟩:=bp i e r h1 h2
    refine⟨k1,k2,_,k3,fun j x hj=>?_⟩
    rw[ail] at hj
    have:=bX i _ r x h2 hj
    exact⟨VR.dropped (.plain _ _ this),this.dv⟩
   exact fin hV (C1 hT hk oa hl rT hb hR hf' ok)
 ·simp only[ahL,ahK,ahN] at he
  obtain⟨es,cv,r,hf,rfl,rfl⟩:=he
  refine⟨rfl,?_⟩
  have key:∃ b E ck,a.eval x=.map (some b)/\w.heap[b]?=some (.map E ck)/\Rows gh s.H.length w E ks.length ka va es:=by
   generalize hY:y.addr G s.T=Y at hm cv
   have hp:∀ kG kF kQ rS,Y=.di kG kF kQ rS->PR gh.S w (a.eval x) (.di kG kF kQ rS):=by
    rintro _ _ _ _ rfl
    generalize a.eval x=V at hm
    cases (hm:VR gh s.H.length w V (.di _ _ _ _)) with
    | plain _ _ h=>exact h
   unfold rF at cv
   split at cv
   ·obtain⟨h1,cv⟩:=ab cv
    injection cv with cv
    subst cv
    simp only[ahR,dV,ah8,aiF] at h1
    obtain⟨⟨rfl,rfl⟩,rfl⟩:=h1
    exact v8 (b:=0) (hp _ _ _ _ rfl)
   ·obtain⟨aZ,nT⟩:=VR.lM (hm:VR gh s.H.length w (a.eval x) (.mref _))
    split at cv
    ·rename_i hH
     obtain⟨h1,cv⟩:=ab cv
     injection cv with cv
     subst cv
     simp only[ahR,dV,ah8,aiF] at h1
     obtain⟨⟨rfl,rfl⟩,rfl⟩:=h1
     obtain⟨E,ck,hb,hR⟩:=v7 (hW.more _ _ hH).1
     exact⟨_,E,ck,nT,hb,hR⟩
    ·rename_i hH
     obtain⟨h1,cv⟩:=ab cv
     injection cv with cv
     subst cv
     simp only[ahR,dV,ah8,aiF] at h1
     obtain⟨⟨rfl,rfl⟩,rfl⟩:=h1
     obtain⟨b,E,ck,hv,hb,hR⟩:=v8 (b:=0) (n:=s.H.length) (hW.more _ _ hH:PR gh.S w _ _)
     exact⟨b,E,ck,nT.trans hv,hb,hR⟩
    ·cases cv
   ·cases cv
  obtain⟨b,E,ck,nT,hb,hR⟩:=key
  exact fin nT (C1 hT hk oa hl rT hb hR hf ok)
theorem find_eq:∀ {ks:List CK} {kc:List AV} {es:List (List AV)} {i:Nat} {r:List AV},fz ks kc es=some (some i)->es[i]?=some r->bH ks kc r=some true
 | ks,kc,[],i,r,h,_=>by simp[fz] at h
 | ks,kc,q :: es,i,r,h,hr=>by
  simp only[fz,ahL] at h
  obtain⟨b,hb,h⟩:=h
  cases b with
  | true=>simp at h;subst h;simp at hr;subst hr;exact hb
  | false =>
   simp only[ahW,ahK] at h
   obtain⟨o,ho,h⟩:=h
   cases o with
   | none=>simp at h
   | some j=>simp at h;subst h;exact find_eq ho (by simpa using hr)
theorem xA{n m:Nat}{c:CK}{u v:Value}{x y:AV}(hu:VR gh n w u x)(hv:PR gh.S w v y)(h:bH [c] [x] [y]=some true):Instr.sameBits m v u=true:=by
 cases c<;>cases x<;>try (cases h;done)
 all_goals (cases y<;>try (cases h;done))
 ·obtain rfl:=hu.ik
  cases hv
  simp[bH] at h
  cases m<;>simp[Instr.sameBits,h]
 ·obtain rfl:=hu.gQ
  cases hv
  simp only[bH] at h
  obtain⟨h0,h⟩:=ab h
  simp at h h0
  cases m<;>simp[Instr.sameBits,h,h0]
 ·obtain⟨p,rfl,rfl⟩:=hu.gS
  cases hv with
  | str q _ hq =>
   simp[bH] at h
   have:q=p:=by
    cases p;cases q
    congr 1
    exact ajR (by rw[hq];simp at h ⊢;rw[h])
   subst this
   have hb:(q==q)=true:=show (q.data==q.data)=true by simp
   cases m<;>simp[Instr.sameBits,hb]
theorem xS:∀ {ks:List CK} {X Y:List AV},bH ks X Y=some true->∀ (j:Nat) (c:CK),ks[j]?=some c->∃ x y,X[j]?=some x/\Y[j]?=some y/\bH [c] [x] [y]=some true
 | [],X,Y,h,j,c,hj=>by simp at hj
 | c0 :: ks,X,Y,h,j,c,hj=>by
  have one:∀ (x y:AV) (X' Y' : List AV) (e:Bool),X=x :: X'->Y=y :: Y'->bH [c0] [x] [y]=some e->(bH ks X' Y').map (e&&·)=some true->∃ x y,X[j]?=some x/\Y[j]?=some y/\bH [c] [x] [y]=some true:=by
   rintro x y X' Y' e rfl rfl h1 h2
   simp only[ahK,ahR] at h2
   obtain⟨b,hb,rfl,rfl⟩:=h2
   cases j with
   | zero=>simp at hj;subst hj;exact⟨x,y,rfl,rfl,h1⟩
   | succ j =>
    obtain⟨x',y',k1,k2,k3⟩:=xS hb j c (by simpa using hj)
    exact⟨x',y',by simpa using k1,by simpa using k2,k3⟩
  cases c0<;>cases X<;>try (cases h;done)
  all_goals (rename_i x X';cases x<;>try (cases h;done))
  all_goals (cases Y<;>try (cases h;done))
  all_goals (rename_i y Y';cases y<;>try (cases h;done))
  ·exact one _ _ _ _ _ rfl rfl (by simp[bH]) h
  ·simp only[bH] at h
   obtain⟨h0,h⟩:=ab h
   exact one _ _ _ _ _ rfl rfl (by simp only[bH,h0,cond_true];simp) h
  ·exact one _ _ _ _ _ rfl rfl (by simp[bH]) h
theorem Ku{kt:TypeId}{ks:List CK}{ka:Bool}(hK:yT P kt ks ka){n:Nat}{kv:Value}{k:AV}{kc:List AV}(hk:VR gh n w kv k)(oa:k.cells=some kc)(hl:kc.length=ks.length)(rT:ka=k.isAgg)
  {v:Value} {r:List AV} (hv:GX gh.S w ks.length ka v r) (he:bH ks kc r=some true):Instr.sameBits 10000 v kv=true:=by
 obtain⟨f,rfl,hf⟩:=hv
 have Ls:=xS he
 cases ka with
 | false =>
  have h1:=hK.kz rfl
  obtain⟨c,rfl⟩:=ai6.1 h1
  have V1:kc=[k]:=by
   cases k<;>first|(cases rT;done)|(injection oa with oa;exact oa.symm)|(cases oa;done)
  subst V1
  obtain⟨x,y,k1,k2,k3⟩:=Ls 0 c rfl
  simp at k1
  subst k1
  exact xA hk (hf 0 y k2 (by simp)) k3
 | true =>
  obtain⟨C,rfl⟩:=sd hk rT
  have hC:Row gh n w C kc:=by
   rcases pw hk oa with ⟨C',e,_,hr⟩|⟨_,h1⟩
   ·injection e with e;subst e;exact hr
   ·simp[Value.oneCell'] at h1
  show Instr.sameBits (9999+1) (.agg ((List.range ks.length).map f).toArray) (.agg C)=true
  simp only[Instr.sameBits,ahR,aiF,ahU]
  refine⟨by simp[hC.1,hl],fun p hp=>?_⟩
  obtain⟨j,hj⟩:=aif hp
  rw[ajx] at hj
  obtain⟨h1,h2⟩:=hj
  simp only[ah2,ahK] at h1
  obtain⟨i,hi,JY⟩:=h1
  obtain⟨aZ,ux⟩:=ahO.1 hi
  simp at aZ ux
  subst ux
  have hc:ks[j]?=some ks[j]:=ahP aZ
  obtain⟨x,y,k1,k2,k3⟩:=Ls j _ hc
  have hu:=hC.2 j p.2 x (by simpa using h2) k1
  obtain⟨p1,p2⟩:=p
  simp only at JY hu ⊢
  rw[<- JY]
  exact xA hu (hf j y k2 aZ) k3
theorem yP{n:Nat}{v:Value}{x:AV}{cs:List AV}(h:VR gh n w v x)(hc:x.cells=some cs):v=n8 x.isAgg cs.length (fun j=>v.cells.getD j undef)/\∀ (j:Nat) (y:AV),cs[j]?=some y->VR gh n w (v.cells.getD j undef) y/\(v.cells.getD j undef).oneCell'=true:=by
 have hr:=o5 h hc
 refine⟨?_,fun j y hj=>?_⟩
 ·rcases pw h hc with ⟨C,rfl,rfl,bp⟩|⟨rfl,dY⟩
  ·simp only[n8,AV.isAgg,cond_true,Value.cells]
   congr 1
   refine Array.ext (by simp[bp.1]) (fun i h1 h2=>by simp[h1])
  ·have FH:x.isAgg=false:=by
    cases x<;>first|rfl|skip
    obtain⟨C,rfl,_⟩:=h.iW
    simp[Value.oneCell'] at dY
   have hv:v.cells=#[v]:=by cases v<;>first|rfl|(simp[Value.oneCell'] at dY)
   simp[n8,FH,hv]
 ·have aZ:j<v.cells.size:=by rw[hr.1];exact (ahO.1 hj).1
  have hv:v.cells[j]?=some v.cells[j]:=ahY aZ
  obtain⟨h1,h2⟩:=hr.2 j _ y hv hj
  simp only[ajQ,hv,aiC]
  exact⟨h1,h2⟩
end
end
section
section
variable {P:Program}{G:Nat->List AV}{base nt:Nat}{L:List Nat}{gh:Gh}{w w' : World}{a:Act}{s:AS}{H:ag}
theorem lj{agg:Bool}{n:Nat}{f g:Nat->Value}(h:∀ j,j<n->f j=g j)(hn:agg=false->0<n):n8 agg n f=n8 agg n g:=by
 cases agg with
 | true =>
  simp only[n8,cond_true]
  congr 2
  exact aib fun j hj=>h j (by simpa using hj)
 | false=>exact h 0 (hn rfl)
def kY(E:Array MapEntry)(ck:Nat)(o:Option Nat)(kv vv:Value):Array MapEntry × Nat :=
 match o with
 | none=>(E.push { key:=kv,val:=vv,born:=ck },ck+1)
 | some i=>(E.modify i fun e=>{ e with key:=kv,val:=vv },ck)
theorem OK{n:Nat}{t kt et:TypeId}{ks:List CK}{ka va:Bool}{vz:Nat}{zv:Value}{zero:List AV}(hT:DA P t kt et ks ka va vz zv zero){kv vv:Value}{k:AV}{kc:List AV}(hk:VR gh n w kv k)(oa:k.cells=some kc)(hl:kc.length=ks.length)(rT:ka=k.isAgg)
  {b:Nat} {E:Array MapEntry} {ck:Nat} {es:List (List AV)} (hb:w.heap[b]?=some (.map E ck)) (hR:Rows gh n w E ks.length ka va es) {o:Option Nat} (hf:fz ks kc es=some o) :
  (Instr.mapUpdate t (.map (some b)) kv vv).run P w=.ok () (qs w b (kY E ck o kv vv).1 (kY E ck o kv vv).2):=by
 have pa:=sU hT.key hk oa hl rT false
 have JY:=wi hT.key hk oa hl rT (l:=E.toList) (by simpa using hR.size) (fun i e r h1 h2=>hR.key i e r (by simpa using h1) h2) hf
 cases o with
 | none =>
  have hs:=wm (P:=P) (w:=w) (E':=E.push { key:=kv,val:=vv,born:=ck }) (ck':=ck+1) hb
  simp[Instr.mapUpdate,run_underlying hT.ht,getObj,Sem.run,hb]
  simp[pa,JY,kY]
  exact hs
 | some i =>
  have hi:=uo hf
  have hiE:i<E.size:=by rw[hR.size];exact hi
  have hE:E[i]?=some E[i]:=ahY hiE
  have he:es[i]?=some es[i]:=ahP hi
  have ZT:=Ku hT.key hk oa hl rT (hR.key i _ _ hE he) (find_eq hf he)
  have hs:=wm (P:=P) (w:=w) (E':=E.modify i fun e=>{ e with key:=kv,val:=vv }) (ck':=ck) hb
  simp[Instr.mapUpdate,run_underlying hT.ht,getObj,Sem.run,hb]
  simp only[ah0] at JY
  simp[pa,JY,kY,hiE,Instr.keyThatStays,ZT]
  exact hs
theorem Yq{n l b kz:Nat}{ka va:Bool}{es:List (List AV)}{E:Array MapEntry}{ck:Nat}{f:Nat->Nat->Value}(hW:aF G base H gh w)(hκ:gh.κ b=.hb l)(hS:∀ o,¬ gh.S b o)(hb:w.heap[b]?=some (.map E ck))(hE:AQ E ck kz ka va es f)
  (h1:∀ (i j:Nat) (r:List AV) (x:AV),es[i]?=some r->r[j]?=some x->j<kz->PR gh.S w (f i j) x)
  (h2:∀ (i j:Nat) (r:List AV) (x:AV),es[i]?=some r->r[j]?=some x->kz<=j->(f i j).oneCell'=true/\(va=true->VR gh n w (f i j) x)/\CR gh n w (.hs l i) (f i j) x)
  {kc vc:List AV} {fk fv:Nat->Value} (hkz:kc.length=kz) (Pn:ka=false->kz=1) (Qu:va=false->vc.length=1) (YY:∀ (j:Nat) (x:AV),kc[j]?=some x->PR gh.S w (fk j) x)
  {o:Option Nat} (ho:∀ i,o=some i->i<es.length) (hvv:∀ (j:Nat) (x:AV),vc[j]?=some x->(fv j).oneCell'=true/\(va=true->VR gh n w (fv j) x)/\CR gh n w (.hs l (o.getD es.length)) (fv j) x) :
  xy gh n (qs w b (kY E ck o (n8 ka kz fk) (n8 va vc.length fv)).1 (kY E ck o (n8 ka kz fk) (n8 va vc.length fv)).2) b (.hb l) (fun i=>.hs l i) kz ka va (sV es o (kc++vc)):=by
 have st:=Cx (E':=(kY E ck o (n8 ka kz fk) (n8 va vc.length fv)).1) (ck':=(kY E ck o (n8 ka kz fk) (n8 va vc.length fv)).2) hW hb hS n
 rw[hκ] at st
 let idx:=o.getD es.length
 let f' : Nat->Nat->Value:=fun i j=>if i=idx then (if j<kz then fk j else fv (j-kz)) else f i j
 have bp:∀ i r,(sV es o (kc++vc))[i]?=some r->(i=idx/\r=kc++vc)\/(i≠idx/\es[i]?=some r):=by
  intro i r hr
  cases o with
  | none =>
   simp only[sV] at hr
   by_cases aZ:i<es.length
   ·rw[ah6 aZ] at hr
    exact .inr ⟨by show i≠es.length;omega,hr⟩
   ·rw[aic (by omega)] at hr
    have hz:i=es.length:=by
     have:=(ahO.1 hr).1
     simp at this;omega
    subst hz
    simp at hr
    exact .inl ⟨rfl,hr.symm⟩
  | some i0 =>
   simp only[sV] at hr
   rw[aiI] at hr
   split at hr
   ·rename_i e
    subst e
    split at hr
    ·injection hr with hr
     exact .inl ⟨rfl,hr.symm⟩
    ·cases hr
   ·rename_i e
    exact .inr ⟨ajs e,hr⟩
 have Hp:kz<=(kc++vc).length/\(ka=false->kz=1)/\(va=false->(kc++vc).length=kz+1)/\n8 ka kz fk=n8 ka kz (f' idx)/\n8 va vc.length fv=n8 va ((kc++vc).length-kz) (fun j=>f' idx (kz+j)):=by
  rw[List.length_append,hkz]
  refine⟨by omega,Pn,fun h=>by rw[Qu h],lj (fun j hj=>?_) (fun h=>by rw[Pn h];omega),?_⟩
  ·simp only[f',if_pos rfl,if_pos hj]
  ·rw[Nat.add_sub_cancel_left]
   refine lj (fun j hj=>?_) (fun h=>by rw[Qu h];omega)
   have e:¬ kz+j<kz:=by omega
   simp only[f',if_pos rfl,if_neg e,Nat.add_sub_cancel_left]
 refine⟨hκ,hS,_,_,f',C7 hb,?_,fun i j r x hi hj hl=>?_,fun i j r x hi hj hl=>?_⟩
 ·cases o with
  | none =>
   refine⟨by simp[kY,sV,hE.size],by simp[kY,hE.clk],fun i e he=>?_,fun i e he=>?_,fun i j e e' he AJ AI=>?_,fun i e r he hr=>?_⟩
   ·simp only[kY] at he
    rw[ajq] at he
    split at he
    ·rename_i Z4;injection he with he;subst he;rw[Z4];exact hE.clk
    ·exact hE.at' i e he
   ·simp only[kY] at he ⊢
    rw[ajq] at he
    split at he
    ·injection he with he;subst he;simp
    ·have:=hE.born i e he;omega
   ·simp only[kY] at he AJ
    rw[ajq] at he AJ
    split at he<;>split at AJ
    ·omega
    ·injection he with he;subst he
     have:=hE.born j e' AJ
     simp only at AI;omega
    ·injection AJ with AJ;subst AJ
     have:=hE.born i e he
     simp only at AI;omega
    ·exact hE.apart i j e e' he AJ AI
   ·simp only[kY] at he
    rw[ajq] at he
    rcases bp i r hr with ⟨hi,rfl⟩|⟨hi,hr⟩
    ·have ku:i=es.length:=hi
     rw[if_pos (by rw[hE.size];exact ku)] at he
     injection he with he
     subst he
     subst hi
     exact Hp
    ·have ku:i≠es.length:=hi
     rw[if_neg (by rw[hE.size];exact ku)] at he
     obtain⟨k1,k2,k3,k4,k5⟩:=hE.row i e r he hr
     refine⟨k1,k2,k3,?_,?_⟩
     ·rw[k4];refine lj (fun j _=>?_) (fun h=>by rw[k2 h];omega)
      simp only[f',if_neg hi]
     ·rw[k5];refine lj (fun j _=>?_) (fun h=>by rw[k3 h];omega)
      simp only[f',if_neg hi]
  | some i0 =>
   have sG:∀ {i:Nat} {e:MapEntry},(E.modify i0 fun e=>{ e with key:=n8 ka kz fk,val:=n8 va vc.length fv })[i]?=some e->∃ e0,E[i]?=some e0/\e=if i=i0 then { e0 with key:=n8 ka kz fk,val:=n8 va vc.length fv } else e0:=by
    intro i e he
    rw[Array.getElem?_modify] at he
    split at he
    ·rename_i IZ
     simp only[ahK] at he
     obtain⟨e0,h0,rfl⟩:=he
     exact⟨e0,h0,by rw[if_pos IZ.symm]⟩
    ·rename_i IZ
     exact⟨e,he,by rw[if_neg (ajs IZ)]⟩
   have Hi:∀ {i:Nat} {e e0:MapEntry},(e=if i=i0 then { e0 with key:=n8 ka kz fk,val:=n8 va vc.length fv } else e0)->e.born=e0.born:=by
    intro i e e0 h
    rw[h];split<;>rfl
   refine⟨by simp[kY,sV,hE.size],by simp[kY,hE.clk],fun i e he=>?_,fun i e he=>?_,fun i j e e' he AJ AI=>?_,fun i e r he hr=>?_⟩
   ·obtain⟨e0,h0,h⟩:=sG he
    rw[Hi h]
    exact hE.at' i e0 h0
   ·obtain⟨e0,h0,h⟩:=sG he
    rw[Hi h]
    exact hE.born i e0 h0
   ·obtain⟨e0,h0,h⟩:=sG he
    obtain⟨e0',JU,h'⟩:=sG AJ
    rw[Hi h,Hi h'] at AI
    exact hE.apart i j e0 e0' h0 JU AI
   ·obtain⟨e0,h0,h⟩:=sG he
    rcases bp i r hr with ⟨hi,rfl⟩|⟨hi,hr⟩
    ·have ku:i=i0:=hi
     rw[if_pos ku] at h
     subst h
     subst hi
     exact Hp
    ·have ku:i≠i0:=hi
     rw[if_neg ku] at h
     subst h
     obtain⟨k1,k2,k3,k4,k5⟩:=hE.row i e r h0 hr
     refine⟨k1,k2,k3,?_,?_⟩
     ·rw[k4];refine lj (fun j _=>?_) (fun h=>by rw[k2 h];omega)
      simp only[f',if_neg hi]
     ·rw[k5];refine lj (fun j _=>?_) (fun h=>by rw[k3 h];omega)
      simp only[f',if_neg hi]
 ·rcases bp i r hi with ⟨rfl,rfl⟩|⟨cS,hr⟩
  ·rw[ah6 (by omega)] at hj
   simp only[f',if_pos rfl,if_pos hl]
   exact (YY j x hj).mono st.S st.cell st.mp
  ·simp only[f',if_neg cS]
   exact (h1 i j r x hr hj hl).mono st.S st.cell st.mp
 ·rcases bp i r hi with ⟨rfl,rfl⟩|⟨cS,hr⟩
  ·rw[aic (by omega),hkz] at hj
   have e:¬ j<kz:=by omega
   simp only[f',if_pos rfl,if_neg e]
   obtain⟨k1,k2,k3⟩:=hvv (j-kz) x hj
   exact⟨k1,fun h=>(k2 h).mono st (ahQ _),k3.mono st (ahQ _) (by simp)⟩
  ·simp only[f',if_neg cS]
   obtain⟨k1,k2,k3⟩:=h2 i j r x hr hj hl
   exact⟨k1,fun h=>(k2 h).mono st (ahQ _),k3.mono st (ahQ _) (by simp)⟩
theorem oD{l:Nat}{x:AV}(h:x.plain=true):aR l x=true:=by
 cases x<;>first|exact h|(simp[AV.plain] at h;done)|(simp only[aR,AV.drop];exact h)|(simp[aR,AV.drop,AV.plain] at h ⊢;done)|skip
 rename_i f fs cs
 cases fs<;>cases cs<;>first|rfl|(simp[AV.plain] at h)
theorem G8(hW:aF G base s.H gh w)(hF:FR L nt gh w a s){o:Oper}{t kt et:TypeId}{ks:List CK}{ka va:Bool}{vz:Nat}{zv:Value}{zero:List AV}(hT:DA P t kt et ks ka va vz zv zero){xm xk xv:Operand}{ym yk yv:ak}{s' : AS}
  (ho:o.op=.mapUpdate t xm xk xv\/o.op=.insert t xm xk xv) (YU:ah nt xm=some ym) (hck:ah nt xk=some yk) (Uf:ah nt xv=some yv)
  (he:sC s ks.length ka va vz ks (ym.addr G s.T) (yk.eval G s.T) (yv.eval G s.T)=some s') (hd:∀ k,o.dst=some k->k<nt) :
  ∃ v' aD w',qD P a o w v' w'/\Out G base nt L gh w a s o.dst .undef (s'.cm yv) v' aD w':=by
 have hm:=arg_val hW hF YU
 unfold sC at he
 generalize hY:ym.addr G s.T=Y at hm he
 cases Y<;>simp only at he<;>try (cases he;done)
 rename_i l
 obtain⟨aZ,nT⟩:=VR.lM (hm:VR gh s.H.length w (a.eval xm) (.mref l))
 split at he
 ·rename_i kG kF kQ es hH
  simp only[ahL] at he
  obtain⟨kc,oa,vc,Qw,Uh⟩:=he
  obtain⟨h0,nU⟩:=ab Uh
  clear Uh
  simp only[ahR,dV,ah8,aiF] at h0
  obtain⟨⟨⟨⟨⟨⟨⟨⟨hl,Wl⟩,rfl⟩,rfl⟩,rfl⟩,rT⟩,hva⟩,Uy⟩,Ul⟩:=h0
  simp only[ahK] at nU
  obtain⟨oi,hf,rfl⟩:=nU
  have acV:aq (yk.eval G s.T)=true:=by rw[<- ib];exact gq oa
  have acW:aq (yv.eval G s.T)=true:=gq Qw
  have V0:=bS hW hF hck rfl acV
  obtain⟨jL,nS,tX,Dt,Pv,kq⟩:=mI hW hF Uf acW (.hs l (oi.getD es.length)) (by simp)
  have hρ:jL.ρ l=gh.ρ l:=Pv.ρ l aZ
  have hk:=V0.mono Pv (ahQ _)
  obtain⟨⟨hκ,hS,E,ck,f,hb,hE,h1,h2⟩,fh⟩:=nS.more l _ hH
  obtain⟨E2,PH,iV,hR⟩:=v7 (nS.more l _ hH).1
  have hEE:E2=E/\PH=ck:=by
   rw[hb] at iV
   injection iV with iV
   injection iV with e1 e2
   exact⟨e1.symm,e2.symm⟩
  obtain⟨rfl,rfl⟩:=hEE
  obtain⟨Pp,Qk⟩:=yP hk oa
  have fY:∃ fv:Nat->Value,a.eval xv=n8 va vc.length fv/\∀ (j:Nat) (x:AV),(cond va (vc.map AV.drop) vc)[j]?=some x->(fv j).oneCell'=true/\(va=true->VR jL s.H.length w (fv j) x)/\CR jL s.H.length w (.hs l (oi.getD es.length)) (fv j) x:=by
   cases aaw:va with
   | true =>
    have FH:(yv.eval G s.T).isAgg=true:=by rw[<- hva,aaw]
    have LJ:VR jL s.H.length w (a.eval xv) (yv.eval G s.T):=by
     rcases kq with h|⟨e,h,_⟩
     ·exact h
     ·rw[h] at FH;cases FH
    obtain⟨Qu,Qv⟩:=yP LJ Qw
    rw[FH] at Qu
    refine⟨_,Qu,fun j x hj=>?_⟩
    simp only[cond_true,ah2,ahK] at hj
    obtain⟨y,hy,rfl⟩:=hj
    obtain⟨m1,m2⟩:=Qv j y hy
    exact⟨m2,fun _=>m1.dropped,.inl m1.dropped⟩
   | false =>
    have FH:(yv.eval G s.T).isAgg=false:=by rw[<- hva,aaw]
    have adB:vc=[yv.eval G s.T]:=by
     generalize yv.eval G s.T=V at Qw FH
     cases V<;>first|(cases FH;done)|(injection Qw with Qw;exact Qw.symm)|(cases Qw;done)
    refine⟨fun _=>a.eval xv,by simp[n8],fun j x hj=>?_⟩
    rw[adB] at hj
    cases j with
    | succ j=>simp at hj
    | zero =>
     simp at hj
     subst hj
     refine⟨?_,(fun h=>by cases h),kq⟩
     rcases kq with h|⟨e,_,hp,_⟩
     ·exact h.dv (fun cs e=>by rw[e] at FH;cases FH) (fun cs e=>by rw[e] at Qw;cases Qw)
     ·exact hp.dv
  obtain⟨fv,hvv,Qx⟩:=fY
  have xZ:(cond va (vc.map AV.drop) vc).length=vc.length:=by cases va<;>simp
  have adD:va=false->(cond va (vc.map AV.drop) vc).length=1:=fun h=>by rw[xZ,Wl];exact hT.vz1 h
  have cg:=OK (vv:=a.eval xv) hT hk oa hl rT hb hR hf
  have ac8:a.eval xk=n8 ka ks.length (fun j=>(a.eval xk).cells.getD j undef):=by rw[rT,<- hl];exact Pp
  have hMA:=Yq (n:=s.H.length) (l:=l) (fk:=fun j=>(a.eval xk).cells.getD j undef) (fv:=fv) (vc:=cond va (vc.map AV.drop) vc) (o:=oi) nS hκ hS hb hE h1 h2 hl (fun h=>hT.key.kz h) adD
   (fun j x hj=>(Qk j x hj).1.iS (ahU.1 Ul x (ahZ hj))) (fun i hi=>by subst hi;exact uo hf) Qx
  rw[xZ,<- ac8,<- hvv] at hMA
  have tP:=Cx (E':=(kY E2 PH oi (a.eval xk) (a.eval xv)).1) (ck':=(kY E2 PH oi (a.eval xk) (a.eval xv)).2) nS hb hS s.H.length
  rw[hκ] at tP
  have ZO:((sV es oi (kc++cond va (vc.map AV.drop) vc)).all fun r=>r.all (aR l))=true:=by
   have mb:(kc++cond va (vc.map AV.drop) vc).all (aR l)=true:=by
    rw[akq,ahR]
    refine⟨ahU.2 fun x hx=>oD (ahU.1 Ul x hx),?_⟩
    cases va with
    | false=>exact Uy
    | true =>
     refine ahU.2 fun x hx=>?_
     obtain⟨y,hy,rfl⟩:=aia.1 hx
     exact mw (ahU.1 Uy y hy)
   refine ahU.2 fun r hr=>?_
   cases oi with
   | none =>
    simp only[sV,ahS,ah4] at hr
    rcases hr with hr|rfl
    ·exact ahU.1 fh r hr
    ·exact mb
   | some i =>
    simp only[sV] at hr
    rcases List.mem_or_eq_of_mem_set hr with hr|rfl
    ·exact ahU.1 fh r hr
    ·exact mb
  have fA:(qs w (jL.ρ l) (kY E2 PH oi (a.eval xk) (a.eval xv)).1 (kY E2 PH oi (a.eval xk) (a.eval xv)).2).heap.size=w.heap.size:=by simp[qs]
  have zJ:=nS.uD (o:=.map ks.length ka va (sV es oi (kc++cond va (vc.map AV.drop) vc))) tP aZ (by intro k hk;simp[hk]) (fun b o ho=>by rw[fA];exact nS.lX b o ho) (fun b hb=>by rw[fA];exact nS.mH b hb) (fun _ _ h=>by cases h) ⟨hMA,ZO⟩ (fun _ _ _ h=>.inl h)
  have hS:=fM s yv
  have vo:Ext s.H.length jL w jL (qs w (jL.ρ l) (kY E2 PH oi (a.eval xk) (a.eval xv)).1 (kY E2 PH oi (a.eval xk) (a.eval xv)).2):=⟨tP.mono (fun r h=>by rw[h];simp[nh]),fun b hb=>hb⟩
  have BZ:FR L nt jL _ a ((s.cm yv).fa ⟨s.H.set l (.map ks.length ka va (sV es oi (kc++cond va (vc.map AV.drop) vc))),l⟩):=tX.grown (by rw[hS.1];exact tP) (fun i=>⟨by simp,by simp,by simp⟩) (by rw[hS.1];simp)
  refine⟨undef,jL,qs w (jL.ρ l) (kY E2 PH oi (a.eval xk) (a.eval xv)).1 (kY E2 PH oi (a.eval xk) (a.eval xv)).2,.inr ⟨?_,rfl⟩,?_⟩
  rotate_left
  ·rw[sX]
   exact Out.skip (s1:=(s.cm yv).fa ⟨s.H.set l (.map ks.length ka va (sV es oi (kc++cond va (vc.map AV.drop) vc))),l⟩) zJ BZ (Dt.trans vo (ahQ _)) hd
  ·rcases ho with ho|ho<;>simp[execOp,ho,nT,<- hρ,cg]
 ·cases he
end
end
section
section
variable {P:Program}{G:Nat->List AV}{base nt:Nat}{L:List Nat}{gh:Gh}{w w' : World}{a:Act}{s:AS}{H:ag}
theorem As{o:Oper}{c:Call}{x:Operand}{t:TypeId}(ho:o.op=.call c)(fX:c.callee=.builtin .len)(dq:c.args.toList=[x])(jx:c.argTypes.toList=[t]){v:Value}
  (cg:(Builtin.len_ #[t] o.type #[a.eval x]).run P w=.ok v w'):(execOp a.eval o).run P w=.ok (.value v) w':=by
 have e1:c.args=#[x]:=by apply ajR;simpa using dq
 have e2:c.argTypes=#[t]:=by apply ajR;simpa using jx
 unfold execOp
 simp only[ho,resolve,fX,e1,e2,invoke,builtin,Sem.run_bind,Sem.run_pure,Result.andThen_ok,ajX,ah1,ah3,cg]
theorem R'(hW:aF G base s.H gh w)(hF:FR L nt gh w a s){x:Operand}{y:ak}(hc:ah nt x=some y):(y.addr G s.T=.cr->a.eval x=.map none) /\
  (∀ kz ka va es,y.addr G s.T=.di kz ka va es->PR gh.S w (a.eval x) (.di kz ka va es))/\∀ l,y.addr G s.T=.mref l->l<s.H.length/\a.eval x=.map (some (gh.ρ l)):=by
 have hm:=arg_val hW hF hc
 refine⟨fun h=>?_,fun kz ka va es h=>?_,fun l h=>?_⟩
 ·rw[h] at hm
  generalize a.eval x=V at hm
  cases (hm:VR gh s.H.length w V .cr) with
  | plain _ _ h=>cases h;rfl
 ·rw[h] at hm
  generalize a.eval x=V at hm
  cases (hm:VR gh s.H.length w V (.di _ _ _ _)) with
  | plain _ _ h=>exact h
 ·rw[h] at hm
  exact VR.lM hm
theorem Ld(hW:aF G base s.H gh w)(hF:FR L nt gh w a s){x:Operand}{y:ak}(hc:ah nt x=some y){kz:Nat}{ka va:Bool}{es:List (List AV)}(h:y.addr G s.T=.l9 kz ka va es):PR gh.S w (a.eval x) (.l9 kz ka va es):=by
 have hm:=arg_val hW hF hc
 rw[h] at hm
 generalize a.eval x=V at hm
 cases (hm:VR gh s.H.length w V (.l9 _ _ _ _)) with
 | plain _ _ h=>exact h
end
end
end Go.Abs
namespace Go.Abs
open Go.ChangeMaps (setBlock)
section
section
variable {P:Program}{G:Nat->List AV}{base nt:Nat}{L:List Nat}{gh:Gh}{w w' : World}{a:Act}{s:AS}{H:ag}
theorem CM{α:Type}{key:α->Nat} : ∀ (l:List α) (x:α),x∈l->(∀ (i j:Nat) (a b:α),l[i]?=some a->l[j]?=some b->key a=key b->i=j)->l.Perm (x :: l.filter fun y=>decide (key y≠key x))
 | [],x,h,_=>by cases h
 | y :: l,x,h,hd=>by
  have ZX:∀ (i j:Nat) (a b:α),l[i]?=some a->l[j]?=some b->key a=key b->i=j:=fun i j a b h1 h2 h3=>by
   have:=hd (i+1) (j+1) a b (by simpa using h1) (by simpa using h2) h3
   omega
  by_cases Ht:key y=key x
  ·have fh:l.filter (fun z=>decide (key z≠key x))=l:=by
    refine List.filter_eq_self.2 fun z hz=>?_
    obtain⟨j,hj⟩:=aif hz
    simp only[ah8]
    intro e
    have:=hd 0 (j+1) y z rfl (by simpa using hj) (Ht.trans e.symm)
    omega
   have hxe:x=y:=by
    rcases aii.1 h with h|h
    ·exact h
    ·obtain⟨j,hj⟩:=aif h
     have:=hd 0 (j+1) y x rfl (by simpa using hj) Ht
     omega
   subst hxe
   rw[akm,if_neg (by simp),fh]
  ·have hxl:x∈l:=by
    rcases aii.1 h with h|h
    ·subst h;exact absurd rfl Ht
    ·exact h
   have ih:=CM l x hxl ZX
   rw[akm,if_pos (by simpa using Ht)]
   exact (List.Perm.cons y ih).trans (List.Perm.swap x y _)
theorem xn(hW:aF G base H gh w){b:Nat}{o:Obj}{w1:World}(Wm:w1=w\/w1=w.drew)(aZ:b<w.heap.size)(hS:∀ o,¬ gh.S b o)(hnc:∀ C ty fr,w.heap[b]?≠some (.cells C ty fr))(n:Nat):Step (fun r=>r=gh.κ b) n gh w gh (setBlock w1 b o):=by
 have nV:(setBlock w1 b o).heap=w.heap.setIfInBounds b o:=by rcases Wm with rfl|rfl<;>rfl
 have zN:∀ b',b'≠b->(setBlock w1 b o).heap[b']?=w.heap[b']?:=fun b' h=>by rw[nV];simp[ajs h]
 have cS:∀ b' o,gh.S b' o->b'≠b:=fun b' o h=>by rintro rfl;exact hS o h
 refine⟨fun _ _ h=>h,fun b' o h=>cell_of_heap (zN b' (cS b' o h)),by rw[nV];simp,?_,?_,?_,fun b' fE hn=>?_,fun b' fE=>?_,fun _ _=>rfl,fun b' ty m hm=>?_,fun b' E1 c1 hs hm=>?_⟩
 ·rcases Wm with rfl|rfl<;>rfl
 ·rcases Wm with rfl|rfl<;>rfl
 ·rcases Wm with rfl|rfl<;>rfl
 ·have ud:b'≠b:=by rintro rfl;exact hn rfl
  exact⟨.inl (zN b' ud),rfl,fun _ h=>h⟩
 ·have:w.heap.size<=b':=by first|exact fE|(rw[nV] at fE;simpa using fE)
  exact hW.bq b' this
 ·obtain⟨C,fr,h1,h2⟩:=hm
  have ud:b'≠b:=by rintro rfl;exact hnc C ty fr h1
  exact⟨C,fr,by rw[zN b' ud];exact h1,h2⟩
 ·rw[zN b' (cS b' 0 hs)];exact hm
theorem pI{x:AV}(h:x.plain=true):x.drop=x:=by
 cases x<;>try rfl
 rename_i e own
 cases own
 ·rfl
 ·simp[AV.plain] at h
def Gh.Fu(gh:Gh)(b:Nat):Gh:={ gh with S:=fun b' o=>gh.S b' o\/(b'=b/\o=0) }
theorem Gi(hW:aF G base s.H gh w)(hF:FR L nt gh w a s){l kz:Nat}{ka va:Bool}{es:List (List AV)}(hH:s.H[l]?=some (.map kz ka va es))(ue:(es.all fun r=>r.all AV.plain)=true) :
  ∃ jL,aF G base (s.H.set l (.di kz ka va es)) jL w/\FR L nt jL w a (s.fa ⟨s.H.set l (.di kz ka va es),l⟩)/\Ext s.H.length gh w jL w/\jL.ρ l=gh.ρ l/\PR jL.S w (.map (some (gh.ρ l))) (.di kz ka va es):=by
 have aZ:l<s.H.length:=(ahO.1 hH).1
 obtain⟨⟨hκ,hS,E,ck,f,hb,hE,h1,h2⟩,_⟩:=hW.more l _ hH
 have Lj:gh.ρ l<w.heap.size:=(ahT.1 hb).1
 have st:∀ n,Step (fun r=>r=.hb l) n gh w (gh.Fu (gh.ρ l)) w:=fun n=>by
  refine⟨fun b o h=>.inl h,fun _ _ _=>rfl,ahQ _,rfl,rfl,rfl,fun b hb hn=>⟨.inl rfl,rfl,fun o ho=>?_⟩,fun b hb=>hW.bq b hb,fun _ _=>rfl,fun _ _ _ h=>h,fun _ _ _ _ h=>h⟩
  rcases ho with ho|⟨rfl,_⟩
  ·exact ho
  ·exact absurd hκ hn
 have hP:PR (gh.Fu (gh.ρ l)).S w (.map (some (gh.ρ l))) (.di kz ka va es):=by
  refine .di (gh.ρ l) kz ka va es E ck f (.inr ⟨rfl,rfl⟩) hb hE (fun i j r x hi hj=>?_)
  have hx:=ahU.1 (ahU.1 ue r (ahZ hi)) x (ahZ hj)
  have hp:PR gh.S w (f i j) x:=by
   by_cases aZ:j<kz
   ·exact h1 i j r x hi hj aZ
   ·have:=((h2 i j r x hi hj (by omega)).2.2).dropped
    rw[pI hx] at this
    exact this.iS hx
  exact hp.mono (st 0).S (st 0).cell (st 0).mp
 refine⟨gh.Fu (gh.ρ l),?_,?_,⟨(st _).mono (fun r h=>by rw[h];exact⟨by simp,by simp⟩),fun b hb=>hb⟩,rfl,hP⟩
 ·refine hW.uD (st _) aZ (by intro k hk;simp[hk]) (fun b o ho=>?_) hW.mH (fun _ _ h=>by cases h) hP (fun b o m ho=>?_)
  ·rcases ho with ho|⟨rfl,_⟩
   ·exact hW.lX b o ho
   ·exact Lj
  ·rcases ho with ho|⟨rfl,rfl⟩
   ·exact .inl ho
   ·exact .inr (fun hc=>by simp[World.cell?,hb] at hc)
 ·exact hF.grown (st _) (fun i=>⟨by simp,by simp,by simp⟩) (by simp)
theorem CX(hW:aF G base s.H gh w)(hF:FR L nt gh w a s){o:Oper}{kz:Nat}{ka va:Bool}(hd:∀ k,o.dst=some k->k<nt/\k∈L) :
  ∀ (m:Option Nat) (since:Nat) (es:List (List AV)),(execOp a.eval o).run P w=.ok (.value (.pointer (some ⟨w.heap.size,0,none⟩))) (w.alloc (.mapIter m since #[] since)) ->
   ((m=none/\es=[])\/∃ m0 E ck f,m=some m0/\gh.S m0 0/\w.heap[m0]?=some (.map E ck)/\since=ck/\∃ rS:List (List AV),rW E ck kz ka va rS f/\es.Perm rS/\(∀ (i j:Nat) (r:List AV) (x:AV),rS[i]?=some r->r[j]?=some x->PR gh.S w (f i j) x)) ->
   ∃ v' aD w',qD P a o w v' w'/\Out G base nt L gh w a s o.dst (.iter s.gen kz ka va [] es) { s with gen:=s.gen+1 } v' aD w':=by
  intro m since es cg hm
  have hp:=dp.alloc w (.mapIter m since #[] since)
  have cS:=qG o.dst
  have st:=fP hW hp cS (fun _=>False) s.H.length
  have BY:FR L nt (gh.alloc w.heap.size (Dr o.dst) fun _=>False) (w.alloc (.mapIter m since #[] since)) a s:=hF.grown (H':=s.H) (lo':=s.lo) st (fun i=>⟨id,id,fun _=>id⟩) (ahQ _)
  have j0:=hW.alloc hp cS (fun _=>False) (fun _ _ h=>h.elim)
  refine⟨.pointer (some ⟨w.heap.size,0,none⟩),_,_,.inl cg,j0,BY.Ok (gen':=s.gen+1) (aiD _) (fun b hb=>j0.bq b hb) o.dst (fun k hk=>(hd k hk).1) (.inr ⟨⟨s.gen,ahQ _,rfl⟩,fun k hk=>(hd k hk).2⟩) ?_,k9 hW hp cS _ _⟩
  intro k hk
  refine⟨ajZ _,w.heap.size,rfl,?_⟩
  rw[hk] at st ⊢
  refine⟨by simp[Gh.alloc,Dr],?_,m,since,#[],since,hp.new,?_⟩
  ·rintro o (ho|⟨_,ho⟩)
   ·have:=hW.lX _ o ho;omega
   ·exact ho
  ·rcases hm with ⟨rfl,rfl⟩|⟨m0,E,ck,f,rfl,h1,h2,rfl,rS,h3,hpm,h4⟩
   ·exact .inl ⟨rfl,rfl,rfl,rfl⟩
   ·refine .inr ⟨m0,E,rS,since,f,rfl,st.S _ _ h1,st.mp _ _ _ h1 h2,h3,rfl,rfl,fun i j r x hi hj=>(h4 i j r x hi hj).mono st.S st.cell st.mp,.inl ⟨rfl,rfl⟩,?_⟩
    have:((E.toList.zip rS).filter fun p=>!(#[]:Array Nat).contains p.1.born)=E.toList.zip rS:=List.filter_eq_self.2 fun p _=>by simp
    rw[this]
    have hz:(E.toList.zip rS).map (·.2)=rS:=List.map_snd_zip (by have:=h3.size;simp;omega)
    rw[hz]
    exact hpm
theorem Vt(hW:aF G base s.H gh w)(hF:FR L nt gh w a s){o:Oper}{t kt et:TypeId}{x:Operand}{y:ak}{kz:Nat}{ka va:Bool}{z:AV}{s' : Option AS}{cf:cz}(ho:o.op=.range t x)(hc:ah nt x=some y)(ht:P.underlying t=some (.map kt et))
  (he:ai G cf s (.Y9 kz ka va y)=some (z,s')) (hd:∀ k,o.dst=some k->k<nt/\k∈L) :
  ∃ v' aD w',qD P a o w v' w'/\Out G base nt L gh w a s o.dst z (s'.getD s) v' aD w':=by
 obtain⟨m1,m2,m3⟩:=R' hW hF hc
 have key:=CX (P:=P) hW hF (o:=o) (kz:=kz) (ka:=ka) (va:=va) hd
 simp only[ai] at he
 split at he
 ·rename_i hY
  simp only[ahM,ahN] at he
  obtain⟨rfl,rfl⟩:=he
  refine key none 0 [] ?_ (.inl ⟨rfl,rfl⟩)
  simp[execOp,ho,m1 hY,Instr.range,run_underlying ht,newObj,Sem.run]
 ·rename_i hY
  obtain⟨h0,nU⟩:=ab he
  clear he
  simp only[ahR,dV,ah8,aiF] at h0
  obtain⟨⟨rfl,rfl⟩,rfl⟩:=h0
  simp only[ahM,ahN] at nU
  obtain⟨rfl,rfl⟩:=nU
  have hp:=m2 _ _ _ _ hY
  generalize hA:a.eval x=V at hp
  cases hp with
  | di b _ _ _ _ E ck f hS hb hE bX =>
   refine key (some b) ck _ ?_ (.inr ⟨b,E,ck,f,rfl,hS,hb,rfl,_,hE.iter,List.Perm.refl _,bX⟩)
   simp[execOp,ho,hA,Instr.range,run_underlying ht,newObj,getObj,Sem.run,hb]
 ·rename_i hY
  obtain⟨h0,nU⟩:=ab he
  clear he
  simp only[ahR,dV,ah8,aiF] at h0
  obtain⟨⟨rfl,rfl⟩,rfl⟩:=h0
  simp only[ahM,ahN] at nU
  obtain⟨rfl,rfl⟩:=nU
  have hp:=Ld hW hF hc hY
  generalize hA:a.eval x=V at hp
  cases hp with
  | l9 b _ _ _ _ rS E ck f hS hb hE hpm bX =>
   refine key (some b) ck _ ?_ (.inr ⟨b,E,ck,f,rfl,hS,hb,rfl,_,hE,hpm.symm,bX⟩)
   simp[execOp,ho,hA,Instr.range,run_underlying ht,newObj,getObj,Sem.run,hb]
 ·rename_i l hY
  split at he
  ·rename_i kG kF kQ es hH
   obtain⟨h0,nU⟩:=ab he
   clear he
   simp only[ahR,dV,ah8,aiF] at h0
   obtain⟨⟨⟨rfl,rfl⟩,rfl⟩,ue⟩:=h0
   simp only[ahM,ahN] at nU
   obtain⟨rfl,rfl⟩:=nU
   obtain⟨aZ,nT⟩:=m3 l hY
   obtain⟨jL,nS,tX,Dt,hρ,hP⟩:=Gi hW hF hH ue
   generalize hV:Value.map (some (gh.ρ l))=V at hP
   cases hP with
   | di b _ _ _ _ E ck f hS hb hE bX =>
    injection hV with hV
    injection hV with hV
    subst hV
    obtain⟨v',aD,w',k1,k2⟩:=CX (P:=P) (s:=s.fa ⟨s.H.set l (.di kz ka va es),l⟩) nS tX (o:=o) hd (some (gh.ρ l)) ck es (by
     simp[execOp,ho,nT,Instr.range,run_underlying ht,newObj,getObj,Sem.run,hb]) (.inr ⟨_,E,ck,f,rfl,hS,hb,rfl,_,hE.iter,List.Perm.refl _,bX⟩)
    exact⟨v',aD,w',k1,k2.W,k2.F,Dt.trans k2.E (by simp[AS.fa])⟩
  ·cases he
 ·cases he
theorem BN:∀ (l:List MapEntry) (e:MapEntry),e∈l->(∀ x∈l,x.born=e.born->x=e)->l.find? (fun x=>x.born==e.born)=some e
 | [],e,h,_=>by cases h
 | x :: l,e,h,hu=>by
  rw[List.find?_cons]
  by_cases hx:x.born=e.born
  ·have:=hu x (by simp) hx
   subst this
   simp
  ·have hb:(x.born==e.born)=false:=by simpa using hx
   rw[hb]
   rcases aii.1 h with h|h
   ·subst h;exact absurd rfl hx
   ·exact BN l e h (fun y hy=>hu y (by simp[hy]))
theorem G6{n:Nat}{va:Bool}{m:Nat}{g:Nat->Value}{cs:List AV}(hm:cs.length=m)(h1:va=false->m=1)(h:∀ (j:Nat) (x:AV),cs[j]?=some x->PR gh.S w (g j) x):VR gh n w (n8 va m g) (p8 va cs) :=
 N5 hm h1 (fun j x hj=>⟨VR.dropped (.plain _ _ (h j x hj)),(h j x hj).dv⟩)
theorem Bw{n ck kz i:Nat}{ka va:Bool}{E:Array MapEntry}{es:List (List AV)}{f:Nat->Nat->Value}(hE:rW E ck kz ka va es f)(bX:∀ (i j:Nat) (r:List AV) (x:AV),es[i]?=some r->r[j]?=some x->PR gh.S w (f i j) x)
  {e:MapEntry} {r:List AV} (he:E[i]?=some e) (hr:es[i]?=some r):VR gh n w e.key (p8 ka (r.take kz))/\VR gh n w e.val (p8 va (r.drop kz)):=by
 obtain⟨k1,k2,k3,k4,k5⟩:=hE.row i e r he hr
 rw[k4,k5]
 refine⟨G6 (by simp;omega) k2 (fun j x hj=>?_),G6 (by simp) (fun h=>by rw[k3 h];omega) (fun j x hj=>?_)⟩
 ·rw[ah5] at hj
  split at hj
  ·exact bX i j r x hr hj
  ·cases hj
 ·rw[ail] at hj
  exact bX i (kz+j) r x hr hj
theorem HM(hF:FR L nt gh w a s){t g kz:Nat}{ka va:Bool}{cur:List AV}{todo:List (List AV)}(ht:t<nt)(hT:s.T t=.iter g kz ka va cur todo):g<s.gen/\∃ b,dQ a t=.pointer (some ⟨b,0,none⟩)/\rV gh w b (.bx t) kz ka va cur todo:=by
 have h:=hF.slot t ht
 rw[hT] at h
 exact h
theorem Vr(hW:aF G base s.H gh w)(hF:FR L nt gh w a s){o:Oper}{it:Operand}{y:ak}{z:AV}{s' : Option AS}{cf:cz}(ho:o.op=.entry it)(hc:ah nt it=some y)(he:ai G cf s (.YQ y)=some (z,s')) :
  s'=none/\∃ v,(execOp a.eval o).run P w=.ok (.value v) w/\k8 gh s.H.length nt w s.T s.gen (dQ a) v z:=by
 cases y with
 | tmp t =>
  obtain⟨rfl,ht⟩:=gZ hc
  simp only[ai] at he
  split at he
  ·rename_i g kz ka va cur todo hT
   obtain⟨h0,he⟩:=ab he
   simp only[ahR,aiq,ajn,aj3] at h0
   simp only[ahM,ahN] at he
   obtain⟨rfl,rfl⟩:=he
   obtain⟨_,b,hb,_,_,m,since,seen,last,YX,hm⟩:=HM hF ht hT
   refine⟨rfl,?_⟩
   rcases hm with ⟨_,_,_,Ln⟩|⟨m0,E,es,ck,f,rfl,hS,JV,hE,rfl,rfl,bX,Ln,_⟩
   ·exact absurd Ln h0.2
   ·rcases Ln with ⟨_,Ln⟩|⟨st,i,e,ra,hEi,hbe,acS⟩
    ·exact absurd Ln h0.2
    ·obtain⟨v1,v2⟩:=Bw (n:=s.H.length) hE bX hEi acS
     have ada:e∈E.toList:=by
      have:E.toList[i]?=some e:=by rw[aik];exact hEi
      exact ahZ this
     have Z0:E.find? (fun x=>x.born==e.born)=some e:=by
      rw[<- Array.find?_toList]
      refine BN _ e ada (fun x hx hxb=>?_)
      obtain⟨j,hj⟩:=aif hx
      rw[aik] at hj
      have:=hE.apart j i x e hj hEi hxb
      subst this
      rw[hEi] at hj;injection hj with hj;exact hj.symm
     have nT:a.eval (.tmp t)=.pointer (some ⟨b,0,none⟩):=hb
     refine⟨.tuple #[e.key,e.val],?_,.cB (.tuple _ _ rfl (fun j u x hu hx=>?_))⟩
     ·subst hbe
      simp[execOp,ho,nT,Instr.entry,getObj,Sem.run,YX]
      simp[ra,JV,Sem.run,Z0]
     ·match j with
      | 0=>injection hu with hu;injection hx with hx;subst hu hx;exact v1
      | 1=>injection hu with hu;injection hx with hx;subst hu hx;exact v2
      | j+2=>simp at hx
  ·cases he
 | _=>simp only[ai] at he;cases he
theorem Jh{E:Array MapEntry}{es:List (List AV)}{seen:Array Nat}{ck kz i:Nat}{ka va:Bool}{f:Nat->Nat->Value}(hE:rW E ck kz ka va es f){e:MapEntry}{r:List AV}(he:E[i]?=some e)(hr:es[i]?=some r)(hs:seen.contains e.born=false) :
  (((E.toList.zip es).filter fun p=>!seen.contains p.1.born).map (·.2)).Perm (r :: ((E.toList.zip es).filter fun p=>!(seen.push e.born).contains p.1.born).map (·.2)):=by
 have hz:(E.toList.zip es)[i]?=some (e,r):=by rw[ajx];exact⟨by rw[aik];exact he,hr⟩
 have h1:=CM (key:=fun p:MapEntry × List AV=>p.1.born) (E.toList.zip es) (e,r) (ahZ hz) (fun j k p q hj hk hpq=>by
  rw[ajx,aik] at hj hk
  exact hE.apart j k p.1 q.1 hj.1 hk.1 hpq)
 have h2:=h1.filter (fun p=>!seen.contains p.1.born)
 rw[akm,if_pos (by show (!seen.contains e.born)=true;rw[hs];rfl),List.filter_filter] at h2
 have h3:=h2.map (·.2)
 rw[ah1] at h3
 refine h3.trans (List.Perm.of_eq ?_)
 congr 2
 refine List.filter_congr fun p _=>?_
 by_cases hp:p.1.born=e.born
 ·simp[hp]
 ·simp[hp]
theorem PY(hW:aF G base s.H gh w)(hF:FR L nt gh w a s){o:Oper}{it:Operand}{t g kz:Nat}{ka va:Bool}{cur:List AV}{todo:List (List AV)}(ho:o.op=.next it false)(hc:ah nt it=some (.tmp t))(hT:s.T t=.iter g kz ka va cur todo)(hL:t∈L)
  (hd:∀ k,o.dst=some k->k<nt) (K:Act->World->Prop) (Q:Exit->Act->World->Prop)
  (hK0:todo=[]->∀ v' aD w',Out G base nt L gh w a s o.dst (.tuple [.bool false]) s v' aD w'->K (a.put o.dst v') w')
  (hK1:∀ r rest,todo.Perm (r :: rest)->∀ v' aD w',Out G base nt L gh w a s o.dst (.tuple [.bool true,p8 ka (r.take kz),p8 va (r.drop kz)]) (s.br t (.iter g kz ka va r rest)) v' aD w'->K (a.put o.dst v') w'):o.wp P a w K Q:=by
 obtain⟨rfl,ht⟩:=gZ hc
 obtain⟨hg,b,hb,hκ,hS,m,since,seen,last,YX,hm⟩:=HM hF ht hT
 have nT:a.eval (.tmp t)=.pointer (some ⟨b,0,none⟩):=hb
 have Lp:∀ {n:Nat},VR gh n w (.tuple #[.bool false]) (.tuple [.bool false]):=fun {n}=>.tuple _ _ rfl (fun j u x hu hx=>by
  match j with
  | 0=>injection hu with hu;injection hx with hx;subst hu hx;exact .plain _ _ (.bool _)
  | j+1=>simp at hx)
 rcases hm with ⟨rfl,rfl,_,_⟩|⟨m0,E,es,ck,f,rfl,hSm,JV,hE,rfl,rfl,bX,_,x5⟩
 ·refine qD.wp (.inl ?_) (hK0 rfl (.tuple #[.bool false]) gh w (Out.pure hW hF hd (.cB Lp)))
  simp[execOp,ho,nT,Instr.next,getObj,Sem.run,YX]
 ·rcases run_next_at (P:=P) w o.type b m0 last last seen E last YX JV (fun x hx=>by
   obtain⟨j,hj⟩:=aif hx
   rw[aik] at hj
   exact hE.born j x hj) (ahQ _) with ⟨hz,cg⟩|⟨e,hem,w1,Wm,cg⟩
  ·have I2:todo=[]:=by
    have hl:((E.toList.zip es).filter fun p=>!seen.contains p.1.born)=[]:=by
     refine List.filter_eq_nil_iff.2 fun p hp cS=>?_
     have hpe:p.1∈E.toList:=(List.of_mem_zip (a:=p.1) (b:=p.2) hp).1
     have:p.1∈(leftOf E seen).toList:=by
      unfold leftOf
      simp only[Array.toList_filter,akr]
      exact⟨hpe,cS⟩
     have h0:(leftOf E seen).toList=[]:=List.eq_nil_of_length_eq_zero (by simpa using hz)
     rw[h0] at this
     cases this
    rw[hl] at x5
    exact x5.eq_nil
   refine qD.wp (.inl ?_) (hK0 I2 (.tuple #[.bool false]) gh w (Out.pure hW hF hd (.cB Lp)))
   simp[execOp,ho,nT,cg]
  ·unfold leftOf at hem
   simp only[Array.toList_filter,akr] at hem
   obtain⟨heE,pA⟩:=hem
   obtain⟨i,hi⟩:=aif heE
   rw[aik] at hi
   have VZ:i<es.length:=by rw[<- hE.size];exact (ahT.1 hi).1
   have hr:es[i]?=some es[i]:=ahP VZ
   have adg:seen.contains e.born=false:=by simpa using pA
   have aau:=Jh hE hi hr adg
   have sF:b<w.heap.size:=(ahT.1 YX).1
   have st:=xn (o:=.mapIter (some m0) last (seen.push e.born) last) hW Wm sF hS (fun C ty fr h=>by rw[YX] at h;cases h) s.H.length
   rw[hκ] at st
   have nV:(setBlock w1 b (.mapIter (some m0) last (seen.push e.born) last)).heap=w.heap.setIfInBounds b (.mapIter (some m0) last (seen.push e.born) last):=by rcases Wm with rfl|rfl<;>rfl
   have fA:(setBlock w1 b (.mapIter (some m0) last (seen.push e.born) last)).heap.size=w.heap.size:=by rw[nV];simp
   have j0:aF G base s.H gh (setBlock w1 b (.mapIter (some m0) last (seen.push e.born) last)):=hW.step st (fun l=>⟨by simp,by simp⟩) (fun b o h=>by rw[fA];exact hW.lX b o h) (fun b h=>by rw[fA];exact hW.mH b h) (fun _ _ _ h=>.inl h)
   have ZL:Ext s.H.length gh w gh (setBlock w1 b (.mapIter (some m0) last (seen.push e.born) last)):=⟨st.mono (fun r h=>by rw[h];simp[nh]),fun _ h=>h⟩
   have hIt:rV gh (setBlock w1 b (.mapIter (some m0) last (seen.push e.born) last)) b (.bx t) kz ka va es[i] (((E.toList.zip es).filter fun p=>!(seen.push e.born).contains p.1.born).map (·.2)):=by
    refine⟨hκ,hS,some m0,last,seen.push e.born,last,by rw[nV];simp[sF],.inr ⟨m0,E,es,last,f,rfl,hSm,st.mp _ _ _ hSm JV,hE,rfl,rfl,fun i j r x h1 h2=>(bX i j r x h1 h2).mono st.S st.cell st.mp,.inr ⟨e.born,i,e,by simp,hi,rfl,hr⟩,List.Perm.refl _⟩⟩
   have BY:FR L nt gh (setBlock w1 b (.mapIter (some m0) last (seen.push e.born) last)) a (s.br t (.iter g kz ka va es[i] (((E.toList.zip es).filter fun p=>!(seen.push e.born).contains p.1.born).map (·.2)))) :=
    hF.br (H':=s.H) (lo':=s.lo) st (ahQ _) (fun i hi=>⟨by simpa using hi,by simp,by simp⟩) (.inl ⟨ht,by rw[hT];rfl⟩) (fun _=>⟨hg,b,hb,hIt⟩)
   obtain⟨v1,v2⟩:=Bw (n:=s.H.length) hE bX hi hr
   have hv:VR gh s.H.length (setBlock w1 b (.mapIter (some m0) last (seen.push e.born) last)) (.tuple #[.bool true,e.key,e.val]) (.tuple [.bool true,p8 ka (es[i].take kz),p8 va (es[i].drop kz)]):=by
    refine .tuple _ _ rfl (fun j u x hu hx=>?_)
    match j with
    | 0=>injection hu with hu;injection hx with hx;subst hu hx;exact .plain _ _ (.bool _)
    | 1=>injection hu with hu;injection hx with hx;subst hu hx;exact v1.mono st (ahQ _)
    | 2=>injection hu with hu;injection hx with hx;subst hu hx;exact v2.mono st (ahQ _)
    | j+3=>simp at hx
   have hO:Out G base nt L gh w a s o.dst (.tuple [.bool true,p8 ka (es[i].take kz),p8 va (es[i].drop kz)]) (s.br t (.iter g kz ka va es[i] (((E.toList.zip es).filter fun p=>!(seen.push e.born).contains p.1.born).map (·.2)))) (.tuple #[.bool true,e.key,e.val]) gh (setBlock w1 b (.mapIter (some m0) last (seen.push e.born) last)) :=
    Out.of (s1:=s.br t (.iter g kz ka va es[i] (((E.toList.zip es).filter fun p=>!(seen.push e.born).contains p.1.born).map (·.2)))) (gen':=s.gen) j0 BY ZL (ahQ _) hd (.inl rfl) (fun k hk=>lZ rfl (.inl hv))
   refine qD.wp (.inl ?_) (hK1 es[i] _ (x5.trans aau) (.tuple #[.bool true,e.key,e.val]) gh _ hO)
   simp[execOp,ho,nT,cg]
end
end
end Go.Abs
namespace Go.Abs
section
section
variable {P:Program}{G:Nat->List AV}{base nt:Nat}{L:List Nat}{gh jL:Gh}{w w' : World}{a:Act}{s:AS}{H:ag}
theorem uq{α:Type}{sz:Nat} : ∀ (e:List (List α)) (idx:Nat) (x:α),(∀ r∈e,r.length=sz)->e.flatten[idx]?=some x->∃ i j r,e[i]?=some r/\r[j]?=some x/\idx=i*sz+j
 | [],_,_,_,h=>by simp at h
 | r :: e,idx,x,hr,h=>by
  rw[aiz] at h
  by_cases hl:idx<r.length
  ·rw[ah6 hl] at h;exact⟨0,idx,r,rfl,h,by simp⟩
  ·rw[aic (by omega)] at h
   obtain⟨i,j,r',h1,h2,h3⟩:=uq e _ x (fun r h=>hr r (by simp[h])) h
   have:=hr r (by simp)
   exact⟨i+1,j,r',by simpa using h1,h2,by rw[aip];omega⟩
theorem lG{α:Type}{sz:Nat} : ∀ (e:List (List α)),(∀ r∈e,r.length=sz)->e.flatten.length=e.length*sz
 | [],_=>by simp
 | r :: e,hr=>by
  have:=hr r (by simp)
  have ih:=lG e (fun r h=>hr r (by simp[h]))
  simp only[aiz,List.length_append,List.length_cons,aip];omega
theorem re{l m:Nat}{x:AV}(h:fF l x=true)(hl:l<=m):fF m x=true:=by
 cases x<;>first|exact h|(simp only[fF,aiq] at h ⊢;omega)
theorem tA{l m:Nat}{x:AV}(h:jG l x=true)(hl:l<=m):jG m x=true:=by
 unfold jG at h ⊢
 split
 ·exact ahU.2 fun y hy=>re (ahU.1 h y hy) hl
 ·rename_i hn
  split at h
  ·exact absurd rfl (hn _)
  ·exact re h hl
theorem B5{l m:Nat}{x:AV}(h:aR l x=true)(hl:l<=m):aR m x=true:=by
 cases x
 case func f fs cs =>
  simp only[aR,ahR,ahU] at h ⊢
  exact⟨fun y hy=>tA (h.1 y hy) hl,fun y hy=>tA (h.2 y hy) hl⟩
 all_goals first|exact h|(simp only[aR,aiq] at h ⊢;omega)
theorem aF.arr(hW:aF G base H gh w){aD:Gh}{touch:aW->Prop}(st:Step touch H.length gh w aD w'){H' : ag}(hlen:H'.length=H.length)
  (hold:∀ (loc:Nat) (o:dm),H'[loc]?=some o->(H[loc]?=some o/\¬ touch (.hb loc)/\∀ j,¬ touch (.hs loc j))\/o=.dead)
  (hs:∀ b o,aD.S b o->gh.S b o) (hk:∀ b,aD.κ b≠.none->base<=b/\b<w'.heap.size) {cs:List AV}
  (hB:fH aD (H.length+1) w' (aD.ρ H.length) (.hb H.length) (fun j=>.hs H.length j) cs) (hr:cs.all (aR H.length)=true):aF G base (H'++[.box cN cs]) aD w':=by
 have last:∀ {loc:Nat} {o:dm},(H'++[dm.box cN cs])[loc]?=some o->(loc<H.length/\H'[loc]?=some o)\/(loc=H.length/\o=.box cN cs):=by
  intro loc o hl
  by_cases aZ:loc<H'.length
  ·rw[ah6 aZ] at hl;exact .inl ⟨by omega,hl⟩
  ·rw[aic (by omega)] at hl
   have hz:loc=H'.length:=by
    have:=(ahO.1 hl).1
    simp at this;omega
   subst hz
   simp at hl
   exact .inr ⟨hlen,hl.symm⟩
 have hln:(H'++[dm.box cN cs]).length=H.length+1:=by simp[hlen]
 refine⟨ait hW.size st.size,fun b o ho=>aiP (hW.lX b o (hs b o ho)) st.size,hk,fun g j x hx=>?_,fun loc ty ds hl=>?_,fun loc ty ds hl=>?_,fun g hg=>(hW.uj g hg).imp fun ty h=>st.len g ty _ h,hW.iY st (fun b o m h=>.inl (hs b o h)),fun loc o hl=>?_,fun loc ty ds hl hf=>?_⟩
 ·obtain⟨v,h1,h2,h3⟩:=hW.aP g j x hx
  exact⟨v,(st.cell g j h3).trans h1,h2.mono st.S st.cell st.mp,st.S g j h3⟩
 ·rw[hln]
  rcases last hl with ⟨aZ,hl⟩|⟨rfl,ho⟩
  ·rcases hold loc _ hl with ⟨h0,h1,h2⟩|h0
   ·rw[st.ρ loc aZ];exact (hW.boxes loc ty ds h0).mono st (aiD _) h1 h2
   ·cases h0
  ·injection ho with e1 e2
   subst e1 e2
   exact hB
 ·rcases last hl with ⟨aZ,hl⟩|⟨rfl,ho⟩
  ·rcases hold loc _ hl with ⟨h0,_⟩|h0
   ·exact hW.refs loc ty ds h0
   ·cases h0
  ·injection ho with e1 e2
   subst e1 e2
   exact hr
 ·rw[hln]
  rcases last hl with ⟨aZ,hl⟩|⟨rfl,rfl⟩
  ·rcases hold loc _ hl with ⟨h0,h1,h2⟩|rfl
   ·rw[st.ρ loc aZ];exact (hW.more loc o h0).mono st (aiD _) h1 h2
   ·trivial
  ·trivial
 ·rcases last hl with ⟨aZ,hl⟩|⟨rfl,ho⟩
  ·rcases hold loc _ hl with ⟨h0,_⟩|h0
   ·rw[st.ρ loc aZ];exact st.len _ _ _ (hW.types loc ty ds h0 hf)
   ·cases h0
  ·injection ho with e1 e2
   exact absurd e1 hf
def Gh.rename(gh:Gh)(l n b:Nat):Gh where
 S:=gh.S
 κ:=fun x=>match gh.κ x with
  | .hb i=>if i=l then .hb n else .hb i
  | .hs i j=>if i=l then .hs n j else .hs i j
  | k=>k
 ρ:=fun i=>if i=n then b else gh.ρ i
theorem OF{l n b x:Nat}(h:gh.κ x≠.hb l/\∀ j,gh.κ x≠.hs l j):(gh.rename l n b).κ x=gh.κ x:=by
 simp only[Gh.rename]
 generalize gh.κ x=k at h
 cases k with
 | hb i=>simp only;rw[if_neg (fun e=>h.1 (by rw[e]))]
 | hs i j=>simp only;rw[if_neg (fun e=>h.2 j (by rw[e]))]
 | _=>rfl
theorem tM{l n b x:Nat} : (gh.rename l n b).κ x=.none↔gh.κ x=.none:=by
 simp only[Gh.rename]
 generalize gh.κ x=k
 cases k with
 | hb i=>simp only;split<;>simp
 | hs i j=>simp only;split<;>simp
 | _=>simp
theorem nI{l n b x:Nat} : (gh.rename l n b).κ x=.outer↔gh.κ x=.outer:=by
 simp only[Gh.rename]
 generalize gh.κ x=k
 cases k with
 | hb i=>simp only;split<;>simp
 | hs i j=>simp only;split<;>simp
 | _=>simp
def gF(l:Nat)(r:aW):Prop:=r=.hb l\/∃ j,r=.hs l j
theorem Step.renamed{touch:aW->Prop}{m l n b:Nat}(st:Step touch m gh w jL w')(hn:m<=n)(ht:∀ r,touch r->gF l r):Step (gF l) m gh w (jL.rename l n b) w':=by
 refine⟨st.S,st.cell,st.size,st.os,st.tape,st.output,fun x hx j6=>?_,fun x hx=>?_,fun loc hl=>?_,st.len,st.mp⟩
 ·obtain⟨k1,k2,k3⟩:=st.xB x hx (fun h=>j6 (ht _ h))
  refine⟨k1,?_,k3⟩
  rw[OF (by rw[k2];exact⟨fun h=>j6 (.inl h),fun j h=>j6 (.inr ⟨j,h⟩)⟩),k2]
 ·intro h
  exact st.fresh x hx (nI.1 h)
 ·show (if loc=n then _ else _)=_
  rw[if_neg (by omega)]
  exact st.ρ loc hl
theorem CR.rename{m m' l n b j:Nat}{v:Value}{x:AV}(h:CR gh m w (.hs l j) v x)(hf:∀ b,w.heap.size<=b->gh.κ b≠.outer)(hm:m<=n)(Dx:m<=m'):CR (gh.rename l n b) m' w (.hs n j) v x:=by
 have st:Step (gF l) m gh w (gh.rename l n b) w:=Step.renamed (touch:=fun _=>False) (Step.refl _ _ _ _ hf) hm (fun _ h=>h.elim)
 rcases h with h|⟨e,rfl,h1,b',cap,C,ty,lo,hi,sz,hv,hk,he,hb,hC,hr,hl,hh,hS⟩
 ·exact .inl (h.mono st Dx)
 ·exact .inr ⟨e,rfl,h1,b',cap,C,ty,lo,hi,sz,hv,by simp[Gh.rename,hk],he,hb,hC,hr,hl,hh,hS⟩
theorem wH(l:Nat)(i:Nat):¬ gF l (.bx i)/\¬ gF l (.sl i)/\∀ j,¬ gF l (.sc i j):=by
 refine⟨?_,?_,fun j=>?_⟩<;>(rintro (h|⟨_,h⟩)<;>cases h)
theorem AB(l:Nat)(r:aW)(h:gF l r):nh r:=by
 rcases h with rfl|⟨j,rfl⟩<;>exact⟨by simp,by simp⟩
theorem Out.arr(hF:FR L nt gh w a s){d:Option Nat}(hd:∀ k,d=some k->k<nt){aD:Gh}{l:Nat}(st:Step (gF l) s.H.length gh w aD w')(ho:∀ b,aD.κ b=.outer->gh.κ b=.outer){H' : ag}{lo k cap z:Nat}(hlen:H'.length=s.H.length){cs:List AV}
  (hW:aF G base (H'++[.box cN cs]) aD w') (hk:k<=cap) (hz:∃ ty,nj w' (aD.ρ s.H.length) ty (0+cap*z)) :
  Out G base nt L gh w a s d (.sref s.H.length 0 k z) (s.fa ⟨H'++[.box cN cs],lo⟩) (.slice (some ⟨aD.ρ s.H.length,0,none⟩) k cap) aD w':=by
 have hv:VR aD (H'++[dm.box cN cs]).length w' (.slice (some ⟨aD.ρ s.H.length,0,none⟩) k cap) (.sref s.H.length 0 k z):=.sref _ 0 k cap z (by simp[hlen]) hk (fun _=>hz)
 exact⟨hW,hF.put st (wH l) (by simp[hlen]) d hd (.cB hv),⟨st.mono (AB l),ho⟩⟩
theorem o9{sz:Nat}{A:Array Value}{E:List (List AV)}{S:Nat->Nat->Prop}(h:fW S w sz A E){j:Nat}{x:AV}(hx:E.flatten[j]?=some x):∃ v,A[j]?=some v/\PR S w v x:=by
 obtain⟨i,k,r,h1,h2,rfl⟩:=uq E j x (fun r hm=>by obtain⟨i,hi⟩:=aif hm;exact h.2.1 i r hi) hx
 exact h.2.2 i k r x h1 h2
theorem yq{n:Nat}{p:aW}{V:Value}(h:CR gh n w p V (.slice [] true)):∃ ao,V=.slice ao 0 0:=by
 rcases h with h|⟨e',heq,_,b,cap,C,ty,lo,hi,gY,fY,hk,cS,_⟩
 ·cases h with
  | plain _ _ h=>cases h
  | full ao k _ h hz =>
   cases h with
   | cy=>exact⟨none,rfl⟩
   | slice b o _ _ gY _ _ hn=>simp at hn;subst hn;exact⟨_,rfl⟩
 ·injection heq with h1;subst h1;exact absurd rfl cS
theorem TC{t e:TypeId}{sz:Nat}(ht:P.underlying t=some (.slice e))(ao:Option Addr):Src P sz t (.slice ao 0 0) 0 [] w:=by
 refine⟨.inl ⟨_,ht⟩,fun _=>rfl,?_,?_,by simp,fun _ h=>by cases h⟩
 ·cases ao with
  | none=>exact run_firstCells_none w _ 0 0 0
  | some ad=>exact run_firstCells_some w _ 0 ad 0 0 [] (by simp) (fun j v h=>by simp at h)
 ·cases ao with
  | none=>exact run_firstCells_none w.drew _ 0 0 0
  | some ad=>exact run_firstCells_some w.drew _ 0 ad 0 0 [] (by simp) (fun j v h=>by simp at h)
theorem mB{f:List (List AV)}(h:fg f=true){x:AV}(hx:x∈f.flatten):x.plain=true:=by
 obtain⟨r,hr,hx⟩:=List.mem_flatten.1 hx
 exact ahU.1 (ahU.1 h r hr) x hx
theorem j5{x:AV}(h:x.plain=true)(n:Nat):aR n x=true:=oD h
theorem BD(hW:aF G base s.H gh w)(hF:FR L nt gh w a s){o:Oper}{c:Call}{x y:Operand}{t u e:TypeId}{sz bytes:Nat}{yx yy:ak}{z:AV}{s' : Option AS}
  (ho:o.op=.call c) (fX:c.callee=.builtin .append) (dq:c.args.toList=[x,y]) (jx:c.argTypes.toList=[t,u]) (hT:s9 P t e sz bytes) (hu:(∃ e',P.underlying u=some (.slice e'))\/P.underlying u=some .string)
  (l8:ah nt x=some yx) (vt:ah nt y=some yy) (he:ja s sz bytes (yx.addr G s.T) (yy.eval G s.T)=some (z,s')) (hd:∀ k,o.dst=some k->k<nt) :
  ∃ v' aD w',qD P a o w v' w'/\Out G base nt L gh w a s o.dst z (s'.getD s) v' aD w':=by
 have dI:=fun b hb=>hW.bq (gh:=gh) b hb
 simp only[ja,ahL] at he
 obtain⟨f,hf,he⟩:=he
 obtain⟨i,zv,hi,_,rfl,_⟩:=hT.hi
 have fresh:∀ ao,a.eval x=.slice ao 0 0->cond (!f.isEmpty&&cF i.size bytes [] f&&fg f) (some (AV.sref s.H.length 0 f.length i.size,some (s.fa ⟨s.H++[.box cN f.flatten],s.H.length⟩))) none=some (z,s') ->
   ∃ v' aD w',qD P a o w v' w'/\Out G base nt L gh w a s o.dst z (s'.getD s) v' aD w':=by
  intro ao hV he
  obtain⟨h0,he⟩:=ab he
  simp only[ahM,ahN] at he
  obtain⟨rfl,rfl⟩:=he
  simp only[ahR,cF,aiq,ahX,Nat.zero_add,ajn,aj3] at h0
  obtain⟨⟨cS,⟨⟨FI,iV⟩,_⟩,hh⟩,ue⟩:=h0
  obtain⟨news,hs,cv⟩:=pv (P:=P) hW hF vt hf hh hu
  have aeJ:0<f.length:=aj2.2 cS
  obtain⟨qH,C',cg,ig,IV,uf⟩:=grow (P:=P) (ty:=o.type) (ao:=ao) (sLen:=0) (sCap:=0) hT (TC (w:=w) hT.ht ao).cellsD (by simp) hs (by omega) (by omega) (by simpa using FI)
  have kU:dp w (w.drew.alloc (.cells C' e)) (.cells C' e):=.drew w _
  have wz:=fp hW kU
  have st:Step (gF s.H.length) s.H.length gh w (gh.bg w.heap.size s.H.length) (w.drew.alloc (.cells C' e)):=wz.mono (fun _ h=>h.elim)
  have hρ:(gh.bg w.heap.size s.H.length).ρ s.H.length=w.heap.size:=by simp[Gh.bg]
  have Z1:f.flatten.length<=C'.size:=by
   have h1:f.flatten.length=f.length*i.size:=lG f (fun r hm=>by obtain⟨k,hk⟩:=aif hm;exact cv.2.1 k r hk)
   rw[h1,IV]
   exact ah7 _ (by omega)
  have hB:fH (gh.bg w.heap.size s.H.length) (s.H.length+1) (w.drew.alloc (.cells C' e)) ((gh.bg w.heap.size s.H.length).ρ s.H.length) (.hb s.H.length) (fun j=>.hs s.H.length j) f.flatten:=by
   rw[hρ]
   refine⟨by simp[Gh.bg,Gh.alloc],?_,C',e,kU.new,Z1,fun j v x hv hx=>?_⟩
   ·rintro o (ho|⟨_,ho⟩)
    ·have:=hW.lX _ o ho;omega
    ·exact ho
   ·obtain⟨v',nW,hp⟩:=o9 cv hx
    have aZ:=(ahT.1 nW).1
    rw[uf j (by simpa using aZ)] at hv
    simp only[ajg] at hv
    rw[nW] at hv
    injection hv with hv
    subst hv
    exact⟨hp.dv,.inl (.plain _ _ (hp.mono st.S st.cell st.mp))⟩
  have hr:f.flatten.all (aR s.H.length)=true:=ahU.2 fun x hx=>j5 (mB ue hx) _
  have j0:=hW.arr wz (H':=s.H) rfl (fun loc o h=>.inl ⟨h,id,fun _=>id⟩) (fun b o h=>h.elim id (fun h=>h.2.elim)) (fun b hb=>by
   rw[kU.size]
   have fE:(if b=w.heap.size then aW.hb s.H.length else gh.κ b)≠.none:=hb
   split at fE
   ·have:=hW.size;omega
   ·have:=hW.mH b fE;omega) hB hr
  refine⟨_,gh.bg w.heap.size s.H.length,w.drew.alloc (.cells C' e),.inl (fj ho fX dq jx (by rw[hV];exact cg)),?_⟩
  have:=Out.arr (lo:=s.H.length) (k:=0+f.length) (cap:=qH) (z:=i.size) hF hd st (fun b hb=>(jq hW kU).out b hb) rfl j0 ig ⟨e,by rw[hρ];exact⟨C',(0,0),kU.new,by rw[IV,Nat.zero_add]⟩⟩
  rw[hρ,Nat.zero_add] at this
  rw[Nat.zero_add]
  exact this
 split at he
 ·rename_i hx
  have kq:∃ p,CR gh s.H.length w p (a.eval x) (.slice [] true):=by
   cases yx with
   | tmp t0 =>
    obtain⟨rfl,ht⟩:=gZ l8
    have Lg:s.T t0=.slice [] true:=by
     simp only[ak.addr] at hx
     split at hx<;>first|cases hx|exact hx
    exact⟨_,yZ hF ht Lg⟩
   | bC v =>
    simp only[ak.addr] at hx
    subst hx
    cases x with
    | tmp k =>
     simp only[ah] at l8
     rcases aiE (Nat.blt k nt) with hb|hb<;>rw[hb] at l8<;>simp at l8
    | const u =>
     simp only[ah,ahK] at l8
     obtain⟨zz,hz,h⟩:=l8
     injection h with h
     subst h
     exact⟨.none,.inl (hN hz)⟩
    | global g=>simp[ah] at l8
    | func f=>simp[ah] at l8
   | aP g=>simp[ak.addr] at hx
   | fn f=>simp[ak.addr] at hx
  obtain⟨_,kq⟩:=kq
  obtain⟨ao,hV⟩:=yq kq
  exact fresh ao hV he
 ·rename_i hx
  exact fresh none (me hW hF l8 hx rfl).jU he
 ·rename_i l of n zz hx
  split at he
  ·rename_i ty cs hH
   obtain⟨h0,he⟩:=ab he
   simp only[ahM,ahN] at he
   obtain⟨rfl,rfl⟩:=he
   simp only[ahR,dV,ah8,aiq] at h0
   obtain⟨⟨⟨⟨⟨⟨rfl,rfl⟩,fq⟩,FI⟩,iV⟩,hh⟩,ue⟩:=h0
   obtain⟨news,hs,cv⟩:=pv (P:=P) hW hF vt hf hh hu
   obtain⟨aZ,cap,aeO,hzB,hV⟩:=VR.il (me hW hF l8 hx rfl)
   obtain⟨tyb,Cb,frb,AI,hCb⟩:=hzB (by have:=hT.pos;omega)
   obtain⟨hκ,hS,C,J5,hb,hle,bI⟩:=hW.boxes l ty cs hH
   rw[hb] at AI
   injection AI with AI
   injection AI with e1 e2 e3
   subst e1 e2 e3
   rw[Nat.zero_add] at hCb
   have rm:(C.toList.take (n*i.size)).length=n*i.size:=by simp;omega
   have hold:∀ {j:Nat} {x:AV},cs[j]?=some x->∃ v,C[j]?=some v/\v.oneCell'=true/\CR gh s.H.length w (.hs l j) v x:=by
    intro j x hj
    have h1:=(ahO.1 hj).1
    have hv:C[j]?=some C[j]:=ahY (by omega)
    obtain⟨k1,k2⟩:=bI j _ x hv hj
    exact⟨_,hv,k1,k2⟩
   have dY:∀ v∈C.toList.take (n*i.size),v.oneCell'=true:=by
    intro v hv
    obtain⟨j,hj⟩:=aif hv
    have h1:j<n*i.size:=by rw[<- rm];exact (ahO.1 hj).1
    rw[ah5,if_pos h1] at hj
    obtain⟨v',k1,k2,_⟩:=hold (ahP (show j<cs.length by omega))
    rw[aik,k1] at hj
    injection hj with hj
    subst hj
    exact k2
   have LF:Src P i.size t (.slice (some ⟨gh.ρ l,0,none⟩) n cap) n (C.toList.take (n*i.size)) w:=.ofSlice w hT.ht ⟨gh.ρ l,0,none⟩ n cap _ rm (fun j u hj=>by
    rw[addr_add,Nat.zero_add,cell_of_row w _ j C J5 _ hb]
    rw[ah5] at hj
    split at hj
    ·simpa using hj
    ·cases hj) dY
   have n7:news.length=f.length*i.size:=hs.newsLen
   have FL:f.flatten.length=f.length*i.size:=lG f (fun r hm=>by obtain⟨k,hk⟩:=aif hm;exact cv.2.1 k r hk)
   have hrefs:(cs++f.flatten).all (aR s.H.length)=true:=by
    rw[akq,ahR]
    refine⟨ahU.2 fun x hx=>?_,ahU.2 fun x hx=>j5 (mB ue hx) _⟩
    exact B5 (ahU.1 (hW.refs l ty cs hH) x hx) (by omega)
   have Ug:∀ {touch:aW->Prop},(∀ r,touch r->gF l r)->∀ (loc:Nat) (o:dm),(s.H.set l .dead)[loc]?=some o->(s.H[loc]?=some o/\¬ touch (.hb loc)/\∀ j,¬ touch (.hs loc j))\/o=.dead:=by
    intro touch ht loc o h
    rw[aiI] at h
    split at h
    ·injection h with h;exact .inr h.symm
    ·rename_i cS
     refine .inl ⟨h,fun k=>?_,fun j k=>?_⟩
     ·rcases ht _ k with k|⟨_,k⟩
      ·injection k with k;exact cS k.symm
      ·cases k
     ·rcases ht _ k with k|⟨_,k⟩
      ·cases k
      ·injection k with k;exact cS k.symm
   by_cases hgr:cap<n+f.length
   ·
    obtain⟨qH,C',cg,ig,IV,uf⟩:=grow (P:=P) (ty:=o.type) hT LF.cellsD rm hs hgr iV FI
    have kU:dp w (w.drew.alloc (.cells C' e)) (.cells C' e):=.drew w _
    have wz:=fP hW kU (p:=.hb l) (by simp) (fun _=>False) s.H.length
    have st:=wz.renamed (n:=s.H.length) (b:=w.heap.size) (l:=l) (ahQ _) (fun _ h=>h.elim)
    have hρ:((gh.alloc w.heap.size (.hb l) fun _=>False).rename l s.H.length w.heap.size).ρ s.H.length=w.heap.size:=by simp[Gh.rename]
    have VU:∀ b,(w.drew.alloc (.cells C' e)).heap.size<=b->(gh.alloc w.heap.size (.hb l) fun _=>False).κ b≠.outer:=fun b hb=>by
     have hb0:=kU.size ▸ hb
     show (if b=w.heap.size then aW.hb l else gh.κ b)≠_
     rw[if_neg (by omega)]
     exact hW.bq b (by omega)
    have hB:fH ((gh.alloc w.heap.size (.hb l) fun _=>False).rename l s.H.length w.heap.size) (s.H.length+1) (w.drew.alloc (.cells C' e)) (((gh.alloc w.heap.size (.hb l) fun _=>False).rename l s.H.length w.heap.size).ρ s.H.length) (.hb s.H.length) (fun j=>.hs s.H.length j) (cs++f.flatten):=by
     rw[hρ]
     refine⟨by simp[Gh.rename,Gh.alloc],?_,C',e,kU.new,?_,fun j v x hv hx=>?_⟩
     ·rintro o (ho|⟨_,ho⟩)
      ·have:=hW.lX _ o ho;omega
      ·exact ho
     ·rw[List.length_append,fq,FL,IV,<- aip]
      exact ah7 _ ig
     ·have hj:j<(C.toList.take (n*i.size)++news).toArray.size:=by
       have:=(ahO.1 hx).1
       rw[List.length_append,fq,FL] at this
       simp only[ai7,List.length_append,rm,n7];exact this
      rw[uf j hj] at hv
      simp only[ah9,aiw,rm] at hv
      rw[aiw,fq] at hx
      split at hv
      ·rename_i h1
       rw[if_pos h1] at hx
       obtain⟨v',k1,k2,k3⟩:=hold hx
       rw[ah5,if_pos h1,aik,k1] at hv
       injection hv with hv
       subst hv
       exact⟨k2,(k3.mono wz (ahQ _) id).rename VU (ahQ _) (aiD _)⟩
      ·rename_i h1
       rw[if_neg h1] at hx
       obtain⟨v',k1,k2⟩:=o9 cv hx
       simp only[ah9] at k1
       rw[k1] at hv
       injection hv with hv
       subst hv
       exact⟨k2.dv,.inl (.plain _ _ (k2.mono st.S st.cell st.mp))⟩
    have j0:=hW.arr st (H':=s.H.set l .dead) (by simp) (Ug (fun _ h=>h)) (fun b o h=>h.elim id (fun h=>h.2.elim)) (fun b hb=>by
     rw[kU.size]
     have FI:(gh.alloc w.heap.size (.hb l) fun _=>False).κ b≠.none:=fun h=>hb (tM.2 h)
     have fE:(if b=w.heap.size then aW.hb l else gh.κ b)≠.none:=FI
     split at fE
     ·have:=hW.size;omega
     ·have:=hW.mH b fE;omega) hB hrefs
    refine⟨_,(gh.alloc w.heap.size (.hb l) fun _=>False).rename l s.H.length w.heap.size,w.drew.alloc (.cells C' e),.inl (fj ho fX dq jx (by rw[hV];exact cg)),?_⟩
    have:=Out.arr (lo:=l) (k:=n+f.length) (cap:=qH) (z:=i.size) hF hd st (fun b hb=>by
     have FI:=nI.1 hb
     have fE:(if b=w.heap.size then aW.hb l else gh.κ b)=.outer:=FI
     split at fE
     ·cases fE
     ·exact fE) (by simp) j0 ig ⟨e,by rw[hρ];exact⟨C',(0,0),kU.new,by rw[IV,Nat.zero_add]⟩⟩
    rw[hρ] at this
    exact this
   ·
    have lJ:n+f.length<=cap:=by omega
    have gU:n*i.size+news.length<=C.size:=by rw[n7,hCb,<- aip];exact ah7 _ lJ
    have cg:=room (P:=P) (ty:=o.type) hT hs hb (aiB _) lJ gU
    have jN:n*i.size+news.toArray.size<=C.size:=by simpa using gU
    have j6:∀ o,gh.S (gh.ρ l) o->(dA C (n*i.size) news.toArray)[o]?=C[o]?:=fun o ho=>(hS o ho).elim
    have wz:=jX hW hb (cC jN) j6 s.H.length
    rw[hκ] at wz
    have st:=wz.renamed (n:=s.H.length) (b:=gh.ρ l) (l:=l) (ahQ _) (fun r h=>.inl h)
    have hρ:(gh.rename l s.H.length (gh.ρ l)).ρ s.H.length=gh.ρ l:=by simp[Gh.rename]
    have fA:(w.setRow (gh.ρ l) (dA C (n*i.size) news.toArray)).heap.size=w.heap.size:=by simp
    have sF:gh.ρ l<w.heap.size:=(ahT.1 hb).1
    have VU:∀ b,(w.setRow (gh.ρ l) (dA C (n*i.size) news.toArray)).heap.size<=b->gh.κ b≠.outer:=fun b hb=>hW.bq b (by rw[fA] at hb;exact hb)
    have hB:fH (gh.rename l s.H.length (gh.ρ l)) (s.H.length+1) (w.setRow (gh.ρ l) (dA C (n*i.size) news.toArray)) ((gh.rename l s.H.length (gh.ρ l)).ρ s.H.length) (.hb s.H.length) (fun j=>.hs s.H.length j) (cs++f.flatten):=by
     rw[hρ]
     refine⟨by simp[Gh.rename,hκ],hS,_,J5,setRow_heap w _ C _ J5 _ hb,?_,fun j v x hv hx=>?_⟩
     ·rw[List.length_append,fq,FL,cC jN,hCb,<- aip]
      exact ah7 _ lJ
     ·rw[iA jN] at hv
      have FP:=(ahO.1 hx).1
      rw[List.length_append,fq,FL] at FP
      rw[aiw,fq] at hx
      simp only[ai7] at hv
      split at hx
      ·rename_i h1
       rw[if_neg (by omega)] at hv
       obtain⟨v',k1,k2,k3⟩:=hold hx
       rw[k1] at hv
       injection hv with hv
       subst hv
       exact⟨k2,(k3.mono wz (ahQ _) (by simp)).rename VU (ahQ _) (aiD _)⟩
      ·rename_i h1
       rw[if_pos (by omega)] at hv
       obtain⟨v',k1,k2⟩:=o9 cv hx
       rw[k1] at hv
       injection hv with hv
       subst hv
       exact⟨k2.dv,.inl (.plain _ _ (k2.mono st.S st.cell st.mp))⟩
    have j0:=hW.arr st (H':=s.H.set l .dead) (by simp) (Ug (fun _ h=>h)) (fun b o h=>h) (fun b hb=>by
     rw[fA]
     exact hW.mH b (fun h=>hb (tM.2 h))) hB hrefs
    refine⟨_,gh.rename l s.H.length (gh.ρ l),w.setRow (gh.ρ l) (dA C (n*i.size) news.toArray),.inl (fj ho fX dq jx (by rw[hV];exact cg)),?_⟩
    have:=Out.arr (lo:=l) (k:=n+f.length) (cap:=cap) (z:=i.size) hF hd st (fun b hb=>nI.1 hb) (by simp) j0 lJ ⟨J5,by rw[hρ];exact⟨_,(0,0),setRow_heap w _ C _ J5 _ hb,by rw[cC jN,hCb,Nat.zero_add]⟩⟩
    rw[hρ] at this
    exact this
  ·cases he
 ·cases he
theorem Fj(hW:aF G base s.H gh w)(hF:FR L nt gh w a s){o:Oper}{c:Call}{x y:Operand}{t u e:TypeId}{sz bytes:Nat}{yx yy:ak}{z:AV}{s' : Option AS}
  (ho:o.op=.call c) (fX:c.callee=.builtin .append) (dq:c.args.toList=[x,y]) (jx:c.argTypes.toList=[t,u]) (hT:s9 P t e sz bytes) (hu:(∃ e',P.underlying u=some (.slice e'))\/P.underlying u=some .string)
  (l8:ah nt x=some yx) (vt:ah nt y=some yy) (he:jl s sz bytes (yx.addr G s.T) (yy.eval G s.T)=some (z,s')) (hd:∀ k,o.dst=some k->k<nt) :
  ∃ v' aD w',qD P a o w v' w'/\Out G base nt L gh w a s o.dst z (s'.getD s) v' aD w':=by
 unfold jl at he
 split at he
 ·rename_i v hn
  simp only[ahM,ahN] at he
  obtain⟨rfl,rfl⟩:=he
  obtain⟨i,zv,hi,_,rfl,_⟩:=hT.hi
  have LL:((∃ o,yy.eval G s.T=.slice [] o)\/yy.eval G s.T=.ay)->∃ news,Src P i.size u (a.eval y) 0 news w:=by
   rintro (⟨o,hY⟩|hY)
   ·obtain⟨news,k1,_⟩:=pv (P:=P) (sz:=i.size) (f:=[]) hW hF vt (by rw[hY];rfl) rfl hu
    exact⟨news,k1⟩
   ·rw[(bS hW hF vt hY rfl).jU]
    refine⟨[],hu,fun _=>rfl,run_firstCells_none w _ 0 0 0,run_firstCells_none w.drew _ 0 0 0,by simp,fun _ h=>by cases h⟩
  have key:(∃ ao,a.eval x=.slice ao 0 0/\VR gh s.H.length w (a.eval x) v)/\((∃ o,yy.eval G s.T=.slice [] o)\/yy.eval G s.T=.ay):=by
   generalize hY:yy.eval G s.T=Y at hn
   generalize hX:yx.addr G s.T=X at hn
   unfold Oe at hn
   split at hn
   ·have mG:∃ ao,a.eval x=.slice ao 0 0:=by
     have kq:∃ p,CR gh s.H.length w p (a.eval x) (.slice [] true):=by
      cases yx with
      | tmp t0 =>
       obtain⟨rfl,ht⟩:=gZ l8
       have Lg:s.T t0=.slice [] true:=by
        simp only[ak.addr] at hX
        split at hX<;>first|cases hX|exact hX
       exact⟨_,yZ hF ht Lg⟩
      | bC v =>
       simp only[ak.addr] at hX
       subst hX
       cases x with
       | tmp k =>
        simp only[ah] at l8
        rcases aiE (Nat.blt k nt) with hb|hb<;>rw[hb] at l8<;>simp at l8
       | const u =>
        simp only[ah,ahK] at l8
        obtain⟨zz,hz,h⟩:=l8
        injection h with h
        subst h
        exact⟨.none,.inl (hN hz)⟩
       | global g=>simp[ah] at l8
       | func f=>simp[ah] at l8
      | aP g=>simp[ak.addr] at hX
      | fn f=>simp[ak.addr] at hX
     obtain⟨_,kq⟩:=kq
     exact yq kq
    obtain⟨ao,JW⟩:=mG
    have LJ:=me hW hF l8 hX rfl
    split at hn
    ·injection hn with hn;subst hn;exact⟨⟨ao,JW,LJ⟩,.inl ⟨_,rfl⟩⟩
    ·injection hn with hn;subst hn;exact⟨⟨ao,JW,LJ⟩,.inr rfl⟩
    ·cases hn
   ·have LJ:=me hW hF l8 hX rfl
    split at hn
    ·injection hn with hn;subst hn;exact⟨⟨none,LJ.jU,LJ⟩,.inl ⟨_,rfl⟩⟩
    ·injection hn with hn;subst hn;exact⟨⟨none,LJ.jU,LJ⟩,.inr rfl⟩
    ·cases hn
   ·cases hn
  obtain⟨Wo,hyc⟩:=key
  have LL:=LL hyc
  obtain⟨ao,hV,hv⟩:=Wo
  obtain⟨news,hs⟩:=LL
  have hnn:news=[]:=by have:=hs.newsLen;simp at this;exact this
  subst hnn
  refine⟨a.eval x,gh,w,.inl (fj ho fX dq jx ?_),Out.pure hW hF hd (.cB hv)⟩
  rw[hV]
  exact run_append_nothing w t u o.type e i hT.ht hi ao 0 0 (ahQ _) _ hs
 ·exact BD hW hF ho fX dq jx hT hu l8 vt he hd
theorem BG(hW:aF G base s.H gh w)(hF:FR L nt gh w a s){o:Oper}{t e:TypeId}{len sz:Nat}{parts:Array (Nat × Operand)}{z:List AV}{E:List (List AV)}{ps:List (Nat × ak)}
  (ho:o.op=.buildSlice t len parts) (hu:P.underlying t=some (.slice e)) (hs:cY P e=some sz) (hz:fB P e=some z) (hp:jj nt parts.toList=some ps)
  (zP:len*sz<=16777216) (Qz:z.length=sz) (B7:0<sz) (ue:fg E=true)
  (he:ca sz (List.replicate len (z.map AV.drop)) (ps.map fun p=>(p.1,(p.2.eval G s.T).drop))=some E) (hd:∀ k,o.dst=some k->k<nt) :
  ∃ v' aD w',qD P a o w v' w'/\Out G base nt L gh w a s o.dst (.sref s.H.length 0 E.length sz) (s.fa ⟨s.H++[.box cN E.flatten],s.H.length⟩) v' aD w':=by
 obtain⟨C',cg,cv,tB⟩:=tJ (P:=P) hW hF hu hs hz hp zP Qz B7 he
 have kU:=dp.alloc w (.cells C' e)
 have wz:=fp hW kU
 have st:Step (gF s.H.length) s.H.length gh w (gh.bg w.heap.size s.H.length) (w.alloc (.cells C' e)):=wz.mono (fun _ h=>h.elim)
 have hρ:(gh.bg w.heap.size s.H.length).ρ s.H.length=w.heap.size:=by simp[Gh.bg]
 have FL:E.flatten.length=E.length*sz:=lG E (fun r hm=>by obtain⟨k,hk⟩:=aif hm;exact cv.2.1 k r hk)
 have hB:fH (gh.bg w.heap.size s.H.length) (s.H.length+1) (w.alloc (.cells C' e)) ((gh.bg w.heap.size s.H.length).ρ s.H.length) (.hb s.H.length) (fun j=>.hs s.H.length j) E.flatten:=by
  rw[hρ]
  refine⟨by simp[Gh.bg,Gh.alloc],?_,C',e,kU.new,by rw[FL,cv.1];exact ahQ _,fun j v x hv hx=>?_⟩
  ·rintro o (ho|⟨_,ho⟩)
   ·have:=hW.lX _ o ho;omega
   ·exact ho
  ·obtain⟨v',nW,hp⟩:=o9 cv hx
   rw[nW] at hv
   injection hv with hv
   subst hv
   exact⟨hp.dv,.inl (.plain _ _ (hp.mono st.S st.cell st.mp))⟩
 have hr:E.flatten.all (aR s.H.length)=true:=ahU.2 fun x hx=>j5 (mB ue hx) _
 have j0:=hW.arr wz (H':=s.H) rfl (fun loc o h=>.inl ⟨h,id,fun _=>id⟩) (fun b o h=>h.elim id (fun h=>h.2.elim)) (fun b hb=>by
  rw[kU.size]
  have fE:(if b=w.heap.size then aW.hb s.H.length else gh.κ b)≠.none:=hb
  split at fE
  ·have:=hW.size;omega
  ·have:=hW.mH b fE;omega) hB hr
 refine⟨.slice (some ⟨w.heap.size,0,none⟩) len len,gh.bg w.heap.size s.H.length,w.alloc (.cells C' e),.inl ?_,?_⟩
 ·have:(parts.map fun x=>(x.1,a.eval x.2))=parts.map fun p=>(p.1,a.eval p.2):=rfl
  simp[execOp,ho,cg]
 ·have:=Out.arr (lo:=s.H.length) (k:=E.length) (cap:=len) (z:=sz) hF hd st (fun b hb=>(jq hW kU).out b hb) rfl j0 (ajm tB) ⟨e,by rw[hρ];exact⟨_,(0,0),kU.new,by rw[cv.1,tB,Nat.zero_add]⟩⟩
  rw[hρ,<- tB] at this
  rw[<- tB]
  exact this
theorem KX(hW:aF G base s.H gh w)(hF:FR L nt gh w a s){o:Oper}{t e:TypeId}{i:TypeInfo}{zv:Value}{zero:List AV}{x y:Operand}{yx:ak}{z:AV}{s' : Option AS}
  (ho:o.op=.makeSlice t x y) (Ht:Au x y=true) (ht:P.underlying t=some (.slice e)) (hi:P.info? e=some i) (hz:i.zero=some zv) (Y7:cV zv.cells.toList=some zero) (hzs:zv.cells.size=i.size) (B7:0<i.size)
  (l8:ah nt x=some yx) (he:o8 s i.size i.bytes (zero.map AV.drop) (yx.eval G s.T)=some (z,s')) (hd:∀ k,o.dst=some k->k<nt) :
  ∃ v' aD w',qD P a o w v' w'/\Out G base nt L gh w a s o.dst z (s'.getD s) v' aD w':=by
 simp only[o8,ahL] at he
 obtain⟨k,hk,he⟩:=he
 obtain⟨h0,he⟩:=ab he
 simp only[ahM,ahN] at he
 obtain⟨rfl,rfl⟩:=he
 simp only[ahR,aiq] at h0
 obtain⟨FI,iV⟩:=h0
 obtain⟨kd,I0⟩:=jg hW hF l8 hk
 have hyx:a.eval y=a.eval x:=by
  cases x<;>cases y<;>simp only[Au] at Ht<;>try (cases Ht;done)
  rw[aiK Ht]
 have cg:=run_make (P:=P) w t e i zv ht hi hz kd kd (k:Int) (k:Int) (by omega) (by omega) (by
  have:(i.bytes:Int)*k=((k*i.bytes:Nat):Int):=by rw[aj7];simp
  rw[this];omega) (by omega)
 have kU:dp w (w.alloc (.cells (madeCells zv.cells (k*i.size)) e)) (.cells (madeCells zv.cells (k*i.size)) e):=.alloc w _
 have wz:=fp hW kU
 have st:Step (gF s.H.length) s.H.length gh w (gh.bg w.heap.size s.H.length) (w.alloc (.cells (madeCells zv.cells (k*i.size)) e)):=wz.mono (fun _ h=>h.elim)
 have hρ:(gh.bg w.heap.size s.H.length).ρ s.H.length=w.heap.size:=by simp[Gh.bg]
 obtain⟨Qz,LM⟩:=iO (gh:=gh) (n:=s.H.length) (w:=w) Y7
 have aaF:zero.length=i.size:=by rw[<- hzs];simpa using Qz.symm
 have Uw:∀ r∈List.replicate k (zero.map AV.drop),r.length=i.size:=fun r hr=>by rw[aj5 hr];simpa using aaF
 have FL:(List.replicate k (zero.map AV.drop)).flatten.length=k*i.size:=by rw[lG _ Uw];simp
 have ue:∀ x,x∈(List.replicate k (zero.map AV.drop)).flatten->x.plain=true:=by
  intro x hx
  obtain⟨r,hr,hx⟩:=List.mem_flatten.1 hx
  rw[aj5 hr] at hx
  obtain⟨y,hy,rfl⟩:=aia.1 hx
  exact lq Y7 y hy
 have hB:fH (gh.bg w.heap.size s.H.length) (s.H.length+1) (w.alloc (.cells (madeCells zv.cells (k*i.size)) e)) ((gh.bg w.heap.size s.H.length).ρ s.H.length) (.hb s.H.length) (fun j=>.hs s.H.length j) (List.replicate k (zero.map AV.drop)).flatten:=by
  rw[hρ]
  refine⟨by simp[Gh.bg,Gh.alloc],?_,_,e,kU.new,by rw[FL,size_madeCells];exact ahQ _,fun j v x hv hx=>?_⟩
  ·rintro o (ho|⟨_,ho⟩)
   ·have:=hW.lX _ o ho;omega
   ·exact ho
  ·obtain⟨m,q,r,h1,h2,rfl⟩:=uq _ j x Uw hx
   have hr:r=zero.map AV.drop:=aj5 (ahZ h1)
   subst hr
   have hq:q<i.size:=by rw[<- aaF];simpa using (ahO.1 h2).1
   simp only[ah2,ahK] at h2
   obtain⟨y,hy,rfl⟩:=h2
   have FP:=(ahT.1 hv).1
   rw[size_madeCells] at FP
   simp only[madeCells,Array.getElem?_map,Array.getElem?_range,if_pos FP,ah0,ahM] at hv
   have V5:(m*i.size+q) % zv.cells.size=q:=by rw[hzs,aj7,Nat.mul_add_mod,Nat.mod_eq_of_lt hq]
   rw[V5] at hv
   have hqz:q<zv.cells.size:=by omega
   have hc:zv.cells[q]?=some zv.cells[q]:=ahY hqz
   have Qv:v=zv.cells[q]:=by rw[<- hv];exact getElem!_pos zv.cells q hqz
   subst Qv
   obtain⟨k1,k2⟩:=LM q _ y (by rw[aik];exact hc) hy
   exact⟨k2,.inl ((k1.dropped).mono st (aiD _))⟩
 have hr:(List.replicate k (zero.map AV.drop)).flatten.all (aR s.H.length)=true:=ahU.2 fun x hx=>j5 (ue x hx) _
 have j0:=hW.arr wz (H':=s.H) rfl (fun loc o h=>.inl ⟨h,id,fun _=>id⟩) (fun b o h=>h.elim id (fun h=>h.2.elim)) (fun b hb=>by
  rw[kU.size]
  have fE:(if b=w.heap.size then aW.hb s.H.length else gh.κ b)≠.none:=hb
  split at fE
  ·have:=hW.size;omega
  ·have:=hW.mH b fE;omega) hB hr
 refine⟨.slice (some ⟨w.heap.size,0,none⟩) k k,gh.bg w.heap.size s.H.length,w.alloc (.cells (madeCells zv.cells (k*i.size)) e),.inl ?_,?_⟩
 ·have e1:(k:Int).toNat=k:=by simp
  rw[e1] at cg
  simp only[execOp,ho,hyx,I0]
  simp[cg]
 ·have:=Out.arr (lo:=s.H.length) (k:=k) (cap:=k) (z:=i.size) hF hd st (fun b hb=>(jq hW kU).out b hb) rfl j0 (ahQ _) ⟨e,by rw[hρ];exact⟨_,(0,0),kU.new,by rw[size_madeCells,Nat.zero_add]⟩⟩
  rw[hρ] at this
  exact this
end
end
section
section
variable {P:Program}{G:Nat->List AV}{base nt:Nat}{L:List Nat}{gh jL:Gh}{w w' : World}{a:Act}{s:AS}{H:ag}
theorem PZ(hW:aF G base s.H gh w)(hF:FR L nt gh w a s){o:Oper}{op:BinOp}{t u:TypeId}{x y:Operand}{ix:ak}{neg b:Bool}
  (ho:o.op=.binOp op t x y u) (hc:ah nt x=some ix) (hn:Gn P op t y=some neg) (he:Od (ix.eval G s.T)=some b) :
  ∃ v,(execOp a.eval o).run P w=.ok (.value v) w/\k8 gh s.H.length nt w s.T s.gen (dQ a) v (.bool (neg != b)):=by
 unfold Gn at hn
 split at hn
 ·rename_i e hu
  have hx:∃ ad n c,a.eval x=.slice ad n c/\ad.isNone=b:=by
   generalize hX:ix.eval G s.T=X at he
   unfold Od at he
   split at he
   ·injection he with he
    subst he
    have hv:=bS hW hF hc hX rfl
    generalize a.eval x=V at hv
    cases hv with
    | plain _ _ h=>cases h;exact⟨_,_,_,rfl,rfl⟩
   ·injection he with he
    subst he
    rename_i r es own
    have hp:=(bS hW hF hc hX rfl).fZ
    generalize a.eval x=V at hp
    cases hp with
    | slice b of n cap sz _ f hn ig bp bI bX=>exact⟨_,_,_,rfl,rfl⟩
   ·cases he
  obtain⟨ad,n,c,hA,hb⟩:=hx
  have hg:(eqGuard op t x (.const (.slice none 0 0)) (.slice ad n c) (.slice none 0 0)).run P w=.ok () w:=dF (by intro c;simp) (.inl (by simp))
  split at hn
  ·injection hn with hn
   subst hn
   have hr:=Lib.run_eql_slice_nil w t e ad n c 0 0 hu
   refine⟨.bool ad.isNone,?_,.cB (.plain _ _ ?_)⟩
   ·simp only[execOp,ho,hA,show a.eval (.const (.slice none 0 0))=.slice none 0 0 from rfl,Sem.run_bind,hg,hr,Result.andThen_ok,Sem.run_pure]
   ·rw[hb];cases b<;>exact .bool _
  ·injection hn with hn
   subst hn
   have hr:=run_neq_slice_nil_any w t e ad n c 0 0 hu
   refine⟨.bool (!ad.isNone),?_,.cB (.plain _ _ ?_)⟩
   ·simp only[execOp,ho,hA,show a.eval (.const (.slice none 0 0))=.slice none 0 0 from rfl,Sem.run_bind,hg,hr,Result.andThen_ok,Sem.run_pure]
   ·rw[hb];cases b<;>exact .bool _
  ·cases hn
 ·cases hn
theorem PS(hW:aF G base s.H gh w)(hF:FR L nt gh w a s){o:Oper}{t:TypeId}{x:Operand}{y:ak}{cs:List AV}(ho:o.op=.box t x)(hc:ah nt x=some y)(fq:(y.eval G s.T).drop.cells=some cs)
  (hd:∀ k,o.dst=some k->k<nt) :
  ∃ v' aD w',qD P a o w v' w'/\Out G base nt L gh w a s o.dst (.ref s.H.length 0) (s.fa ⟨s.H++[.dM (cs.map AV.drop)],s.H.length⟩) v' aD w':=by
 have bp:=(mY hW hF hc cs fq).dropped
 have hp:dp w (w.alloc (.cells (a.eval x).cells t)) (.cells (a.eval x).cells t):=.alloc w _
 have st:=fp hW hp
 have hρ:(gh.bg w.heap.size s.H.length).ρ s.H.length=w.heap.size:=by simp[Gh.bg]
 have hB:fH (gh.bg w.heap.size s.H.length) (s.H.length+1) (w.alloc (.cells (a.eval x).cells t)) w.heap.size (.hb s.H.length) (fun j=>.hs s.H.length j) (cs.map AV.drop):=by
  refine⟨by simp[Gh.bg,Gh.alloc],?_,_,t,hp.new,ajm bp.1.symm,fun j v x hv hx=>?_⟩
  ·rintro o (ho|⟨_,ho⟩)
   ·have:=hW.lX _ o ho;omega
   ·exact ho
  ·obtain⟨h1,h2⟩:=bp.2 j v x hv hx
   exact⟨h2,.inl (h1.mono st (aiD _))⟩
 have hv:VR (gh.bg w.heap.size s.H.length) (s.H++[dm.dM (cs.map AV.drop)]).length (w.alloc (.cells (a.eval x).cells t)) (.pointer (some ⟨w.heap.size,0,none⟩)) (.ref s.H.length 0):=by
  have:=VR.ref (gh:=gh.bg w.heap.size s.H.length) (w:=w.alloc (.cells (a.eval x).cells t)) (n:=(s.H++[dm.dM (cs.map AV.drop)]).length) s.H.length 0 (by simp)
  rw[hρ] at this;exact this
 refine⟨_,_,_,.inl ?_,⟨hW.CT hp (fun _ _ h=>by cases h) hB,hF.put st (fun i=>⟨id,id,fun _=>id⟩) (by simp) o.dst hd (.cB hv),jq hW hp⟩⟩
 simp[execOp,ho,Instr.box,newVar,newRow]
theorem pN{o:Oper}{c:Call}{x y:Operand}{t u:TypeId}(ho:o.op=.call c)(fX:c.callee=.builtin .copy)(dq:c.args.toList=[x,y])(jx:c.argTypes.toList=[t,u]){v:Value}
  (cg:(Builtin.copy_ #[t,u] o.type #[a.eval x,a.eval y]).run P w=.ok v w'):(execOp a.eval o).run P w=.ok (.value v) w':=by
 have e1:c.args=#[x,y]:=by apply ajR;simpa using dq
 have e2:c.argTypes=#[t,u]:=by apply ajR;simpa using jx
 unfold execOp
 simp only[ho,resolve,fX,e1,e2,invoke,builtin,Sem.run_bind,Sem.run_pure,Result.andThen_ok,ajX,ah1,ah3,cg]
theorem CW{k j j' : Nat}(h:(List.range k)[j]?=some j'):j<k/\j'=j:=by
 rw[ahO] at h
 obtain⟨h1,h2⟩:=h
 simp at h1 h2
 exact⟨h1,h2.symm⟩
theorem KE{n:Nat}{V:Value}{f:List (List AV)}(h:PR gh.S w V (.slice f false))(hh:fC 1 f=true){k:Nat}(hk:k<=f.length) :
  ∃ (ad:Option Addr) (ln cp:Nat) (pD:List Value),V=.slice ad ln cp/\ln=f.length/\pD.length=k/\(0<k->∃ q,ad=some q/\∀ j v,pD[j]?=some v->w.cell? (q.add j)=some v)/\(∀ r∈f.take k,r.length=1) /\
   ∀ (j:Nat) (u:Value) (x:AV),pD[j]?=some u->((f.take k).flatten)[j]?=some x->u.oneCell'=true/\PR gh.S w u x:=by
 cases h with
 | cy =>
  simp only[ahX,Nat.le_zero] at hk
  subst hk
  exact⟨none,0,0,[],rfl,rfl,rfl,fun h=>absurd h (by omega),fun r hm=>by simp at hm,fun j u x h=>by simp at h⟩
 | slice b of ln cap sz _ g hn ig bp bI bX =>
  have fA:f≠[]->sz=1:=fun cS=>vu hh bp cS
  have abE:∀ (i:Nat) (r:List AV),f[i]?=some r->r.length=1:=fun i r hi=>by
   rw[bp i r hi,fA (by rintro rfl;simp at hi)]
  have vat:∀ j,j<k->∃ r x,f[j]?=some r/\r[0]?=some x:=fun j hj=>by
   have hr:=ahP (show j<f.length by omega)
   exact⟨_,_,hr,ahP (by rw[abE _ _ hr];exact Nat.one_pos)⟩
  have cv:∀ r∈f.take k,r.length=1:=fun r hm=>by
   obtain⟨i,hi⟩:=aif (aiO hm);exact abE i r hi
  refine⟨some ⟨b,of,none⟩,ln,cap,(List.range k).map fun j=>g j 0,rfl,hn.symm,by simp,fun _=>⟨_,rfl,fun j v hv=>?_⟩,cv,fun j u x hu hx=>?_⟩
  ·simp only[ah2,ahK] at hv
   obtain⟨j',tZ,rfl⟩:=hv
   obtain⟨aZ,rfl⟩:=CW tZ
   obtain⟨r,x,h1,h2⟩:=vat _ aZ
   obtain⟨_,k2,_⟩:=bI _ 0 r x h1 h2
   rw[fA (by rintro rfl;simp at h1),aji,ajl] at k2
   rw[addr_add];exact k2
  ·simp only[ah2,ahK] at hu
   obtain⟨j',tZ,rfl⟩:=hu
   obtain⟨aZ,rfl⟩:=CW tZ
   obtain⟨i,q,r,e1,e2,e3⟩:=uq (f.take k) _ x cv hx
   have hq:q=0:=by
    have:=(ahO.1 e2).1
    rw[cv r (ahZ e1)] at this;omega
   subst hq
   rw[aji,ajl] at e3
   subst e3
   have e1' : f[j']?=some r:=by
    rw[ah5,if_pos aZ] at e1
    exact e1
   exact⟨(bI _ 0 r x e1' e2).2.2,bX _ 0 r x e1' e2⟩
theorem KT(hW:aF G base s.H gh w)(hF:FR L nt gh w a s){o:Oper}{c:Call}{x y:Operand}{t u e:TypeId}{yx yy:ak}{z:AV}{s' : Option AS}
  (ho:o.op=.call c) (fX:c.callee=.builtin .copy) (dq:c.args.toList=[x,y]) (jx:c.argTypes.toList=[t,u]) (hu:P.underlying t=some (.slice e)) (hs:cY P e=some 1)
  (l8:ah nt x=some yx) (vt:ah nt y=some yy) (he:kS s (yx.addr G s.T) (yy.eval G s.T)=some (z,s')) (hd:∀ k,o.dst=some k->k<nt) :
  ∃ v' aD w',qD P a o w v' w'/\Out G base nt L gh w a s o.dst z (s'.getD s) v' aD w':=by
 have fA:(P.info? e).map (·.size)=some 1:=hs
 have hm:=arg_val hW hF l8
 unfold kS at he
 split at he
 ·
  rename_i l o0 n zz f own hX hY
  rw[hX] at hm
  obtain⟨aZ,cap,hk,_,hA⟩:=VR.il (hm:VR gh s.H.length w (a.eval x) (.sref l o0 n zz))
  have hp:=(bS hW hF vt hY rfl).fZ
  split at he
  ·rename_i cs hH
   obtain⟨h0,nU⟩:=ab he
   clear he
   simp only[ahM,ahN] at nU
   obtain⟨rfl,rfl⟩:=nU
   simp only[ahR,dV,ah8,aiq] at h0
   obtain⟨⟨⟨rfl,hh⟩,ue⟩,gU⟩:=h0
   obtain⟨hκ,hS,C,ty,hb,hC,fq⟩:=(hW.more l _ hH:fH gh s.H.length w (gh.ρ l) (.hb l) (fun j=>.hs l j) cs)
   have uc:Nat.min f.length n<=f.length:=Nat.min_le_left _ _
   have hkn:Nat.min f.length n<=n:=Nat.min_le_right _ _
   obtain⟨ad,ln,cp,pD,hV,hln,Wl,hq,Uu,bX⟩:=KE (n:=0) hp hh uc
   generalize YY:Nat.min f.length n=k at *
   have dY:∀ u∈pD,u.oneCell'=true:=by
    intro u hu
    obtain⟨j,hj⟩:=aif hu
    have FP:j<k:=by rw[<- Wl];exact (ahO.1 hj).1
    have FL:(f.take k).flatten.length=k:=by rw[lG _ Uu];simp;omega
    exact (bX j u _ hj (ahP (by rw[FL];exact FP))).1
   have Lr:o0+pD.toArray.size<=C.size:=by simp;omega
   have cg:(Builtin.copy_ #[t,u] o.type #[a.eval x,a.eval y]).run P w=.ok (.int .i64 (k:Int)) (w.setRow (gh.ρ l) (dA C o0 pD.toArray)):=by
    rw[hA,hV]
    by_cases V0:k=0
    ·have hv0:pD=[]:=ajC.1 (by omega)
     have FT:dA C o0 (#[]:Array Value)=C:=by simp[dA]
     rw[hv0,FT,setRow_self w _ C ty (0,0) hb]
     have:=run_copy_none (P:=P) w t u o.type e (some ⟨gh.ρ l,o0,none⟩) ad n cap ln cp hu fA (by rw[hln,YY];exact V0)
     rw[this,V0];rfl
    ·obtain⟨q,rfl,adu⟩:=hq (by omega)
     have:=run_copy_row (P:=P) w t u o.type e (gh.ρ l) o0 n cap q ln cp C ty pD hu fA hb (by rw[Wl,hln,YY]) adu (by simpa using Lr) dY
     rw[this]
     simp[dA,Wl,goInt]
   have j6:∀ o,gh.S (gh.ρ l) o->(dA C o0 pD.toArray)[o]?=C[o]?:=fun o ho=>(hS o ho).elim
   have B8:=cC Lr
   have st:=jX hW hb B8 j6 s.H.length
   have hE:=vZ hW hb B8 j6 (by rw[hκ];simp) (by rw[hκ];simp) s.H.length
   rw[hκ] at st
   have cv:(f.take k).flatten.length=k:=by
    rw[lG _ Uu];simp;omega
   have hB:fH gh s.H.length (w.setRow (gh.ρ l) (dA C o0 pD.toArray)) (gh.ρ l) (.hb l) (fun j=>.hs l j) (putAt cs o0 (f.take k).flatten):=by
    refine⟨hκ,hS,_,ty,setRow_heap w _ C _ ty _ hb,by rw[B8,nf (by rw[cv];omega)];exact hC,fun j u x xY ua=>?_⟩
    rw[iA Lr] at xY
    rw[pn (by rw[cv];omega)] at ua
    simp only[ai7,Wl] at xY
    rw[cv] at ua
    split at xY
    ·rename_i hc
     rw[if_pos hc] at ua
     obtain⟨k1,k2⟩:=bX _ u x (by simpa using xY) ua
     exact⟨k1,.inl (.plain _ _ (k2.mono st.S st.cell st.mp))⟩
    ·rename_i hc
     rw[if_neg hc] at ua
     obtain⟨k1,k2⟩:=fq j u x xY ua
     exact⟨k1,k2.mono st (ahQ _) (by simp)⟩
   have zJ:aF G base (s.H.set l (.dM (putAt cs o0 (f.take k).flatten))) gh (w.setRow (gh.ρ l) (dA C o0 pD.toArray)) :=
    hW.uD st aZ (by intro k hk;simp[hk]) (fun b o ho=>by simpa using hW.lX b o ho) (fun b hb=>by simpa using hW.mH b hb) (fun _ _ h=>by cases h) hB (fun _ _ _ h=>.inl h)
   refine⟨.int .i64 k,gh,_,.inl (pN ho fX dq jx cg),zJ,?_,hE⟩
   exact hF.put (H':=s.H.set l (.dM (putAt cs o0 (f.take k).flatten))) (lo':=cond (Nat.blt l s.lo) l s.lo) st (fun i=>⟨by simp,by simp,by simp⟩) (by simp) o.dst hd (.cB (.plain _ _ (.int _ _)))
  ·cases he
 ·
  rename_i own f agY hX hY
  simp only[ahM,ahN] at he
  obtain⟨rfl,rfl⟩:=he
  rw[hX] at hm
  have h1:∃ ad cp,a.eval x=.slice ad 0 cp:=by
   have hp:=VR.fZ (hm:VR gh s.H.length w (a.eval x) (.slice [] false))
   generalize a.eval x=V at hp
   cases hp with
   | cy=>exact⟨_,_,rfl⟩
   | slice b of n cap sz _ f hn _ _ _ _=>simp at hn;subst hn;exact⟨_,_,rfl⟩
  have h2:∃ ad n cp,a.eval y=.slice ad n cp:=by
   have hp:=(bS hW hF vt hY rfl).fZ
   generalize a.eval y=V at hp
   cases hp with
   | cy=>exact⟨_,_,_,rfl⟩
   | slice b of n cap sz _ f hn _ _ _ _=>exact⟨_,_,_,rfl⟩
  obtain⟨ad,cp,h1⟩:=h1
  obtain⟨Zb,n',cp',h2⟩:=h2
  have cg:=run_copy_none (P:=P) w t u o.type e ad Zb 0 cp n' cp' hu fA (Nat.min_zero _)
  rw[<- h1,<- h2] at cg
  refine⟨.int .i64 0,gh,w,.inl (pN ho fX dq jx cg),?_⟩
  exact Out.pure hW hF hd (.cB (.plain _ _ (.int _ _)))
 ·cases he
end
end
section
theorem qP(bR:List Nat)(d:Option Nat)(g:ak)(ys:List ak):qO bR d g ys=.call g ys:=by
 unfold qO
 cases gL bR d<;>rfl
section
variable {P:Program}{G:Nat->List AV}{base nt:Nat}{L:List Nat}{gh:Gh}{w w' : World}{a:Act}{s:AS}{H:ag}
theorem tG{locals:List Nat}{d:Option Nat}(h:isLocal locals d=true):∃ k,d=some k/\k∈locals:=by
 cases d with
 | none=>cases h
 | some k=>exact⟨k,rfl,by simpa [isLocal] using h⟩
theorem qm{l:List Nat}{d:Option Nat}(h:gL l d=true):∃ k,d=some k/\k∈l:=by
 cases d with
 | none=>cases h
 | some k=>exact⟨k,rfl,by simpa [gL] using h⟩
theorem Jj{k:jZ}{V:Value}{e:List (List AV)}{z:AV}{t:TypeId}{ao:Option Addr}{cap:Nat}(hV:V=.slice ao e.length cap)(ht:match k with|.str=>P.underlying t=some .string|.sl=>∃ e,P.underlying t=some (.slice e)|.arr m=>∃ e,P.underlying t=some (.array m e))
  (he:jH k (.slice e false)=some z) (ty:TypeId) {n:Nat} : ∃ v,(Builtin.len_ #[t] ty #[V]).run P w=.ok v w/\VR gh n w v z:=by
 subst hV
 cases k<;>simp only[jH,ahM,reduceCtorEq] at he<;>subst he
 ·obtain⟨e',ht⟩:=ht
  exact⟨.int .i64 e.length,by simp[Builtin.len_,run_underlying ht,goInt],.plain _ _ (.int _ _)⟩
 ·obtain⟨e',ht⟩:=ht
  exact⟨.int .i64 _,by simp[Builtin.len_,run_underlying ht,goInt],.plain _ _ (.int _ _)⟩
theorem T4(hW:aF G base s.H gh w)(hF:FR L nt gh w a s){o:Oper}{c:Call}{x y:Operand}{ix iy:ak}{mx:Bool}{z:AV}(ho:o.op=.call c)(fX:c.callee=.builtin (cond mx .max .min))(dq:c.args.toList=[x,y])
  (hx:ah nt x=some ix) (hy:ah nt y=some iy) (he:N' mx (ix.eval G s.T) (iy.eval G s.T)=some z):∃ v,(execOp a.eval o).run P w=.ok (.value v) w/\k8 gh s.H.length nt w s.T s.gen (dQ a) v z:=by
 generalize hX:ix.eval G s.T=X at he
 generalize hY:iy.eval G s.T=Y at he
 unfold N' at he
 split at he
 ·obtain⟨h0,he⟩:=ab he
  injection he with he
  subst he
  have h1:=(bS hW hF hx hX rfl).gQ
  have h2:=(bS hW hF hy hY rfl).gQ
  have e1:c.args=#[x,y]:=by apply ajR;simpa using dq
  cases mx
  ·refine⟨_,?_,.cB (.plain _ _ (.int _ _))⟩
   unfold execOp
   simp only[ho,resolve,fX,e1,invoke,builtin,Sem.run_bind,Sem.run_pure,Result.andThen_ok,ajX,ah1,ah3,ahW,h1,h2,Builtin.min_,Builtin.min2,List.foldlM_cons,List.foldlM_nil]
  ·refine⟨_,?_,.cB (.plain _ _ (.int _ _))⟩
   unfold execOp
   simp only[ho,resolve,fX,e1,invoke,builtin,Sem.run_bind,Sem.run_pure,Result.andThen_ok,ajX,ah1,ah3,cond_true,h1,h2,Builtin.max_,Builtin.max2,List.foldlM_cons,List.foldlM_nil]
 ·cases he
theorem R6{m:Nat}{V:Value}{t e:TypeId}(ht:P.underlying t=some (.array m e))(ty:TypeId){n:Nat} : ∃ v,(Builtin.len_ #[t] ty #[V]).run P w=.ok v w/\VR gh n w v (.int .i64 m) :=
 ⟨.int .i64 _,by simp[Builtin.len_,run_underlying ht,goInt],.plain _ _ (.int _ _)⟩
theorem Fl(hW:aF G base s.H gh w)(hF:FR L nt gh w a s){o:Oper}{c:Call}{x:Operand}{t:TypeId}{y:ak}{k:jZ}{z:AV}{s' : Option AS}{cf:cz}
  (ho:o.op=.call c) (fX:c.callee=.builtin .len) (dq:c.args.toList=[x]) (jx:c.argTypes.toList=[t]) (hc:ah nt x=some y)
  (ht:match k with|.str=>P.underlying t=some .string|.sl=>∃ e,P.underlying t=some (.slice e)|.arr m=>∃ e,P.underlying t=some (.array m e))
  (he:ai G cf s (.len k y)=some (z,s')):s'=none/\∃ v,(execOp a.eval o).run P w=.ok (.value v) w/\k8 gh s.H.length nt w s.T s.gen (dQ a) v z:=by
 simp only[ai] at he
 have fin:∀ {zz:AV},(∃ v,(Builtin.len_ #[t] o.type #[a.eval x]).run P w=.ok v w/\VR gh s.H.length w v zz)->∃ v,(execOp a.eval o).run P w=.ok (.value v) w/\k8 gh s.H.length nt w s.T s.gen (dQ a) v zz :=
  fun ⟨v,h1,h2⟩=>⟨v,As ho fX dq jx h1,.cB h2⟩
 split at he
 ·rename_i tt g hy
  split at he
  ·rename_i g' e hT
   obtain⟨h0,he⟩:=ab he
   have AL:g=g':=by simpa [dV] using h0
   simp only[ahK,ahN] at he
   obtain⟨z',hz,rfl,rfl⟩:=he
   refine⟨rfl,fin ?_⟩
   have hv:=arg_val hW hF hc
   rw[hy] at hv
   obtain⟨hb,_,hr⟩:=(hv:_/\_/\_)
   have nT:=hr (by rw[hT,<- AL];rfl)
   obtain⟨ad,cap,hV,_⟩:=lY hF hb hT
   exact Jj (nT.trans hV) ht hz o.type
  ·cases he
 ·simp only[ahK,ahN] at he
  obtain⟨z',hz,rfl,rfl⟩:=he
  refine⟨rfl,fin ?_⟩
  cases k with
  | arr m =>
   obtain⟨e,ht⟩:=ht
   simp only[jH,ahM] at hz
   subst hz
   exact R6 ht o.type
  | _ =>
   have JZ:aq (y.addr G s.T)=true:=by
    generalize y.addr G s.T=Y at hz
    cases Y<;>first|rfl|(simp[jH] at hz)
   exact PV (me hW hF hc rfl JZ) ht hz o.type
theorem u9{cf:cz}(ij:dn P G cf)(hW:aF G base s.H gh w)(hF:FR L nt gh w a s){bR locals muts:List Nat}{o:Oper}{io:dR}(bn:cn P bR locals muts nt o.dst o.op=some io)
  (vp:∀ x,x∈locals->x∈L) (uu:∀ x,x∈muts->x∈L) {z:AV} {s' : Option AS} (he:ai G cf s io=some (z,s')) (hd:∀ k,o.dst=some k->k<nt) (K:Act->World->Prop) (Q:Exit->Act->World->Prop)
  (hK:∀ v' aD w',Out G base nt L gh w a s o.dst z (s'.getD s) v' aD w'->K (a.put o.dst v') w'):o.wp P a w K Q:=by
 have fin:s'=none->(∃ v,(execOp a.eval o).run P w=.ok (.value v) w/\k8 gh s.H.length nt w s.T s.gen (dQ a) v z)->o.wp P a w K Q:=by
  rintro rfl ⟨v,h1,h2⟩
  exact qD.wp (.inl h1) (hK v gh w (Out.pure hW hF hd h2))
 have nZ:(∃ v' aD w',qD P a o w v' w'/\Out G base nt L gh w a s o.dst z (s'.getD s) v' aD w')->o.wp P a w K Q:=by
  rintro ⟨v',aD,w',h1,h2⟩
  exact qD.wp h1 (hK v' aD w' h2)
 have aag:∀ x y,(o.op=.move x\/o.op=.assign x)->ah nt x=some y->io=.mov (gL bR o.dst) (gL muts o.dst) (cond (gL muts o.dst) (z6 y) y)->o.wp P a w K Q:=by
  intro x y ho hc ri
  subst ri
  simp only[ai] at he
  by_cases I2:∃ v,y=.bC v/\gL muts o.dst=true
  ·obtain⟨v,rfl,hm⟩:=I2
   rw[hm] at he
   simp only[cond_true,z6,kN,ahM,ahN,ak.eval] at he
   obtain⟨rfl,rfl⟩:=he
   refine fin rfl ⟨a.eval x,?_,.cB ?_⟩
   ·rcases ho with ho|ho<;>simp[execOp,ho]
   ·cases x with
    | tmp k =>
     simp only[ah] at hc
     rcases aiE (Nat.blt k nt) with hb|hb<;>rw[hb] at hc<;>simp at hc
    | const u =>
     simp only[ah,ahK] at hc
     obtain⟨zz,hz,h⟩:=hc
     injection h with h
     subst h
     exact zi hz
    | global g=>simp[ah] at hc
    | func f=>simp[ah] at hc
  have LG:cond (gL muts o.dst) (z6 y) y=y:=by
   cases hm:gL muts o.dst with
   | false=>rfl
   | true=>cases y<;>first|rfl|exact absurd ⟨_,rfl,hm⟩ I2
  rw[LG] at he
  cases s' with
  | none =>
   refine fin rfl ⟨a.eval x,?_,Vs hW hF hc he⟩
   rcases ho with ho|ho<;>simp[execOp,ho]
  | some s' =>
   refine nZ (zB hW hF ho hc he hd (fun h k hk=>?_))
   obtain⟨k',h1,h2⟩:=qm h
   rw[h1] at hk;injection hk with hk;subst hk
   exact uu _ h2
 cases cE:o.op with
 | move x =>
  rw[cE] at bn
  simp only[cn,ahK] at bn
  obtain⟨y,hc,rfl⟩:=bn
  exact aag x y (.inl cE) hc rfl
 | assign x =>
  rw[cE] at bn
  simp only[cn,ahK] at bn
  obtain⟨y,hc,rfl⟩:=bn
  exact aag x y (.inr cE) hc rfl
 | pick c x y =>
  rw[cE] at bn
  simp only[cn,ahL,ahK] at bn
  obtain⟨ic,hc,ix,hx,iy,hy,rfl⟩:=bn
  simp only[ai] at he
  split at he
  ·rename_i t ht
   simp only[ahM,ahN] at he
   obtain⟨rfl,rfl⟩:=he
   exact fin rfl (P0 hW hF cE hc hx hy ht)
  ·cases he
 | alloc t =>
  rw[cE] at bn
  simp only[cn,ahL] at bn
  obtain⟨zz,hz,bn⟩:=bn
  cases hl:isLocal locals o.dst with
  | true =>
   rw[hl] at bn
   simp only[cond_true,ahM] at bn
   subst bn
   simp only[ai,ahM,ahN] at he
   obtain⟨rfl,rfl⟩:=he
   obtain⟨k,hk,uc⟩:=tG hl
   exact nZ (IA hW hF cE hz (fun k' pz=>⟨hd k' pz,by rw[hk] at pz;injection pz with e;subst e;exact vp _ uc⟩))
  | false =>
   rw[hl] at bn
   simp only[ahW,ahM] at bn
   subst bn
   simp only[ai,ahM,ahN] at he
   obtain⟨rfl,rfl⟩:=he
   exact nZ (Iz hW hF cE hz hd)
 | box t x =>
  rw[cE] at bn
  simp only[cn,ahK] at bn
  obtain⟨y,hc,rfl⟩:=bn
  cases hl:isLocal locals o.dst with
  | true =>
   rw[hl] at he
   simp only[cond_true,ai,ahK,ahN] at he
   obtain⟨cs,fq,rfl,rfl⟩:=he
   obtain⟨k,hk,uc⟩:=tG hl
   exact nZ (PQ hW hF cE hc fq (fun k' pz=>⟨hd k' pz,by rw[hk] at pz;injection pz with e;subst e;exact vp _ uc⟩))
  | false =>
  rw[hl,ahW] at he
  rcases aiE (K6 500000 muts o.dst) with hm|hm
  ·rw[hm] at he
   simp only[cond_true,ai,ahL] at he
   obtain⟨cs,fq,he⟩:=he
   obtain⟨h0,he⟩:=ab he
   simp only[ahM,ahN] at he
   obtain⟨rfl,rfl⟩:=he
   exact nZ (PS hW hF cE hc fq hd)
  ·rw[hm] at he
   simp only[ahW,ai,ahL] at he
   obtain⟨cs,fq,he⟩:=he
   obtain⟨h0,he⟩:=ab he
   simp only[ahM,ahN] at he
   obtain⟨rfl,rfl⟩:=he
   exact nZ (Vq hW hF cE hc fq h0 hd)
 | build t parts =>
  rw[cE] at bn
  simp only[cn,ahL] at bn
  obtain⟨zz,hz,bn⟩:=bn
  split at bn
  ·rename_i fs hu
   obtain⟨h0,bn⟩:=ab bn
   simp only[ahK] at bn
   obtain⟨ps,hp,rfl⟩:=bn
   simp only[ai,ahK,ahN] at he
   obtain⟨Z,hZ,rfl,rfl⟩:=he
   exact fin rfl (tW hW hF cE hz hu hp (Option.isSome_iff_exists.1 h0) hZ)
  ·rename_i n e hu
   simp only[ahL,ahK] at bn
   obtain⟨sz,hs,ps,hp,rfl⟩:=bn
   simp only[ai,ahK,ahN] at he
   obtain⟨Z,hZ,rfl,rfl⟩:=he
   exact fin rfl (vb hW hF cE hz hu hs hp hZ)
  ·cases bn
 | buildSlice t len parts =>
  rw[cE] at bn
  simp only[cn] at bn
  split at bn
  ·rename_i e hu
   simp only[ahL] at bn
   obtain⟨sz,hs,zz,hz,ps,hp,bn⟩:=bn
   obtain⟨h0,bn⟩:=ab bn
   injection bn with bn
   subst bn
   simp only[ahR,aiq,dV,ah8,aih] at h0
   cases hl:isLocal locals o.dst with
   | true =>
    rw[hl] at he
    simp only[cond_true,ai,ahL] at he
    obtain⟨E,hE,he⟩:=he
    obtain⟨pb,he⟩:=ab he
    simp only[ahM,ahN] at he
    obtain⟨rfl,rfl⟩:=he
    exact nZ (BG hW hF cE hu hs hz hp h0.1.1 h0.1.2 h0.2 pb hE hd)
   | false =>
   rw[hl] at he
   simp only[ahW,ai,ahL] at he
   obtain⟨E,hE,he⟩:=he
   obtain⟨pb,he⟩:=ab he
   simp only[ahM,ahN] at he
   obtain⟨rfl,rfl⟩:=he
   exact nZ (Fo hW hF cE hu hs hz hp pb (fun h=>aiK h) h0.1.1 h0.1.2 h0.2 hE hd)
  ·cases bn
 | load t x =>
  rw[cE] at bn
  simp only[cn,ahL,ahK] at bn
  obtain⟨y,hc,g,hg,sz,hs,rfl⟩:=bn
  simp only[ai] at he
  cases s' with
  | none =>
   obtain⟨v,h1,h2⟩:=PW (P:=P) hW hF hc hg hs he
   exact fin rfl ⟨v,by simp[execOp,cE,h1],h2⟩
  | some s'=>exact nZ (zA hW hF cE hc hg hs he hd)
 | store t x y =>
  rw[cE] at bn
  simp only[cn,ahL,ahK] at bn
  obtain⟨ya,Hj,yv,Uf,sz,hs,rfl⟩:=bn
  simp only[ai,ahK,ahN] at he
  obtain⟨s1,he,rfl,rfl⟩:=he
  exact nZ (KZ hW hF cE Hj Uf hs he hd)
 | nilCheck x =>
  rw[cE] at bn
  simp only[cn,ahK] at bn
  obtain⟨y,hc,rfl⟩:=bn
  simp only[ai] at he
  obtain⟨h0,he⟩:=ab he
  simp only[ahM,ahN] at he
  obtain⟨rfl,rfl⟩:=he
  exact fin rfl (BH hW hF cE hc h0)
 | binOp op t x y u =>
  rw[cE] at bn
  simp only[cn,ahL] at bn
  obtain⟨ix,hx,iy,hy,bn⟩:=bn
  split at bn
  ·rename_i neg hn
   injection bn with bn
   subst bn
   simp only[ai,ahK,ahN] at he
   obtain⟨b,hb,rfl,rfl⟩:=he
   exact fin rfl (PZ hW hF cE hx hn hb)
  ·injection bn with bn
   subst bn
   simp only[ai,ahK,ahN] at he
   obtain⟨z',hz,rfl,rfl⟩:=he
   exact fin rfl (Vp hW hF cE hx hy hz)
 | unOp op t x =>
  rw[cE] at bn
  simp only[cn,ahK] at bn
  obtain⟨y,hc,rfl⟩:=bn
  simp only[ai,ahK,ahN] at he
  obtain⟨z',hz,rfl,rfl⟩:=he
  exact fin rfl (ZB hW hF cE hc hz)
 | convert st dt x =>
  rw[cE] at bn
  simp only[cn,ahL] at bn
  obtain⟨y,hc,bn⟩:=bn
  split at bn
  ·rename_i k' k h1 h2
   injection bn with bn
   subst bn
   simp only[ai,ahK,ahN] at he
   obtain⟨z',hz,rfl,rfl⟩:=he
   exact fin rfl (K0 hW hF cE hc h1 h2 hz)
  ·rename_i h1 h2
   injection bn with bn
   subst bn
   simp only[ai,ahK,ahN] at he
   obtain⟨z',hz,rfl,rfl⟩:=he
   exact fin rfl (Fp hW hF cE hc h1 h2 hz)
  ·rename_i e h1 h2
   split at bn
   ·rename_i hE
    injection bn with bn
    subst bn
    simp only[ai,ahK,ahN] at he
    obtain⟨z',hz,rfl,rfl⟩:=he
    exact fin rfl (BE hW hF cE hc h1 hE h2 hz)
   ·cases bn
  ·cases bn
 | makeInterface t x =>
  rw[cE] at bn
  simp[cn] at bn
 | makeFunc f first captured =>
  rw[cE] at bn
  simp only[cn,ahL,ahK] at bn
  obtain⟨fs,h1,cs,h2,rfl⟩:=bn
  simp only[ai] at he
  obtain⟨h0,he⟩:=ab he
  simp only[ahM,ahN] at he
  obtain⟨rfl,rfl⟩:=he
  simp only[ahR] at h0
  exact fin rfl (ID hW hF cE h1 h2 h0.1 h0.2)
 | slice t x lo hi mx =>
  rw[cE] at bn
  simp only[cn,ahL] at bn
  obtain⟨ix,hc,I8,h1,Dy,h2,x9,h3,bn⟩:=bn
  split at bn
  ·rename_i hu
   injection bn with bn
   subst bn
   simp only[ai,ahK,ahN] at he
   obtain⟨z',hz,rfl,rfl⟩:=he
   exact fin rfl (zD hW hF cE hc h1 h2 h3 hu hz)
  ·rename_i e hu
   simp only[ahK] at bn
   obtain⟨sz,hs,rfl⟩:=bn
   simp only[ai,ahK,ahN] at he
   obtain⟨z',hz,rfl,rfl⟩:=he
   exact fin rfl (BI hW hF cE hc h1 h2 h3 hu hs hz)
  ·rename_i n e hu
   simp only[ahL] at bn
   obtain⟨sz,hs,bn⟩:=bn
   obtain⟨h0,bn⟩:=ab bn
   injection bn with bn
   subst bn
   simp only[ai,ahK,ahN] at he
   obtain⟨z',hz,rfl,rfl⟩:=he
   exact fin rfl (zC hW hF cE hc h1 h2 h3 hu hs (by simpa [aih] using h0) hz)
  ·cases bn
 | fieldAddr t x f =>
  rw[cE] at bn
  simp only[cn,ahL] at bn
  obtain⟨ix,hc,bn⟩:=bn
  split at bn
  ·rename_i fs hu
   simp only[ahL] at bn
   obtain⟨q,hq,sz,hs,bn⟩:=bn
   obtain⟨h0,bn⟩:=ab bn
   injection bn with bn
   subst bn
   simp only[ai] at he
   obtain⟨hl,he⟩:=ab he
   simp only[ahK,ahN] at he
   obtain⟨z',hz,rfl,rfl⟩:=he
   exact fin rfl (zy hW hF cE hc hu hq hs (by simpa [aih] using h0) hl hz)
  ·cases bn
 | field t x f =>
  rw[cE] at bn
  simp[cn] at bn
 | indexAddr t x i =>
  rw[cE] at bn
  simp only[cn,ahL] at bn
  obtain⟨ix,hc,ii,hi,bn⟩:=bn
  split at bn
  ·rename_i e hu
   simp only[ahK] at bn
   obtain⟨sz,hs,rfl⟩:=bn
   simp only[ai] at he
   split at he
   ·rename_i el own hy
    simp only[ahL] at he
    obtain⟨k,hk,r,hr,he⟩:=he
    obtain⟨h0,he⟩:=ab he
    simp only[ahM,ahN] at he
    obtain⟨rfl,rfl⟩:=he
    exact fin rfl (PU hW hF cE hc hi hu hs hk hy hr (by simpa [dV] using h0))
   ·rename_i l of m hy
    simp only[ahL] at he
    obtain⟨k,hk,he⟩:=he
    obtain⟨h0,he⟩:=ab he
    simp only[ahM,ahN] at he
    obtain⟨rfl,rfl⟩:=he
    exact fin rfl (IC hW hF cE hc hi hu hs hk hy (by simpa [aih] using h0))
   ·rename_i b g hy
    split at he
    ·rename_i g' el hT
     obtain⟨h0,he⟩:=ab he
     have AL:g=g':=by simpa [dV] using h0
     simp only[ahL] at he
     obtain⟨k,hk,r,hr,he⟩:=he
     obtain⟨h0,he⟩:=ab he
     simp only[ahM,ahN] at he
     obtain⟨rfl,rfl⟩:=he
     exact fin rfl (KW hW hF cE hc hi hu hs hk hy (by rw[hT,AL]) hr (by simpa [dV] using h0))
    ·cases he
   ·cases he
  ·rename_i n e hu
   simp only[ahK] at bn
   obtain⟨sz,hs,rfl⟩:=bn
   simp only[ai,ahL] at he
   obtain⟨k,hk,he⟩:=he
   obtain⟨h0,he⟩:=ab he
   simp only[ahR,aih] at h0
   simp only[ahK,ahN] at he
   obtain⟨z',hz,rfl,rfl⟩:=he
   exact fin rfl (KV hW hF cE hc hi hu hs hk h0.1 h0.2 hz)
  ·cases bn
 | index t x i =>
  rw[cE] at bn
  simp only[cn,ahL] at bn
  obtain⟨ix,hc,ii,hi,bn⟩:=bn
  split at bn
  ·rename_i hu
   injection bn with bn
   subst bn
   simp only[ai] at he
   split at he
   ·rename_i l hz
    simp only[ahL,ahK,ahN] at he
    obtain⟨k,hk,b,hb,rfl,rfl⟩:=he
    exact fin rfl (BF hW hF cE hc hi hu hk hz hb)
   ·cases he
  ·rename_i n e hu
   simp only[ahL,ahK] at bn
   obtain⟨sz,hs,g,hg,rfl⟩:=bn
   simp only[ai,ahL] at he
   obtain⟨k,hk,he⟩:=he
   obtain⟨h0,he⟩:=ab he
   split at he
   ·rename_i cs hz
    simp only[ahK,ahN] at he
    obtain⟨z',hl,rfl,rfl⟩:=he
    exact fin rfl (KU hW hF cE hc hi hu hs hg hk (by simpa [aih] using h0) hz hl)
   ·cases he
  ·cases bn
 | extract x i =>
  rw[cE] at bn
  simp only[cn,ahK] at bn
  obtain⟨y,hc,rfl⟩:=bn
  simp only[ai] at he
  split at he
  ·rename_i vs hz
   simp only[ahK,ahN] at he
   obtain⟨z',Uz,rfl,rfl⟩:=he
   exact fin rfl (Fk hW hF cE hc hz Uz)
  ·cases he
 | call c =>
  rw[cE] at bn
  simp only[cn,qN] at bn
  split at bn
  ·rename_i fx fX
   simp only[ahL,ahK] at bn
   obtain⟨yf,l8,ys,vt,Uj⟩:=bn
   rw[qP] at Uj
   subst Uj
   simp only[ai] at he
   split at he
   ·rename_i f fs cs VV
    obtain⟨h0,he⟩:=ab he
    simp only[ahK,ahN] at he
    obtain⟨⟨r,ch⟩,hr,rfl,rfl⟩:=he
    exact PT ij hW hF cE fX l8 vt VV h0 hr hd K Q hK
   ·cases he
  ·rename_i fX
   split at bn
   ·rename_i x t dq jx
    simp only[ahL] at bn
    obtain⟨y,hc,bn⟩:=bn
    split at bn
    ·rename_i hu
     injection bn with bn
     subst bn
     obtain⟨h1,h2⟩:=Fl (P:=P) hW hF cE fX dq jx hc (k:=.str) hu he
     exact fin h1 h2
    ·rename_i e hu
     injection bn with bn
     subst bn
     obtain⟨h1,h2⟩:=Fl (P:=P) hW hF cE fX dq jx hc (k:=.sl) ⟨_,hu⟩ he
     exact fin h1 h2
    ·rename_i n e hu
     injection bn with bn
     subst bn
     obtain⟨h1,h2⟩:=Fl (P:=P) hW hF cE fX dq jx hc (k:=.arr n) ⟨_,hu⟩ he
     exact fin h1 h2
    ·rename_i hu
     cases bn
    ·cases bn
   ·cases bn
  ·rename_i fX
   split at bn
   ·rename_i x y t u dq jx
    simp only[ahL] at bn
    obtain⟨yx,l8,yy,vt,bn⟩:=bn
    have go:∀ e,P.underlying t=some (.slice e)->((∃ e',P.underlying u=some (.slice e'))\/P.underlying u=some .string) ->
      ((P.info? e).bind fun i=>cond (Nat.blt 0 i.size&&(i.zero.map fun z=>Nat.beq z.cells.size i.size).getD false) (some (cond (isLocal locals o.dst) (dR.appendO i.size i.bytes yx yy) (dR.append (Nat.beq e fQ) (gL muts o.dst) i.size i.bytes yx yy))) none)=some io->o.wp P a w K Q:=by
     intro e ht hu bn
     simp only[ahL] at bn
     obtain⟨i,hi,bn⟩:=bn
     obtain⟨h0,bn⟩:=ab bn
     injection bn with bn
     subst bn
     simp only[ahR,aih] at h0
     obtain⟨h0,h1⟩:=h0
     have hT:s9 P t e i.size i.bytes:=by
      cases hz:i.zero with
      | none=>rw[hz] at h1;cases h1
      | some zv=>rw[hz] at h1;exact⟨ht,⟨i,zv,hi,hz,rfl,rfl,by simpa [dV] using h1⟩,h0⟩
     cases Us:isLocal locals o.dst with
     | true =>
      rw[Us] at he
      simp only[cond_true,ai] at he
      exact nZ (Fj hW hF cE fX dq jx hT hu l8 vt he hd)
     | false =>
     rw[Us] at he
     simp only[ahW,ai] at he
     refine nZ (IB hW hF cE fX dq jx hT (fun h=>aiK h) hu l8 vt he hd (fun h k hk=>?_))
     obtain⟨k',h1,h2⟩:=qm h
     rw[h1] at hk;injection hk with hk;subst hk
     exact uu _ h2
    split at bn
    ·rename_i e e' ht hu
     exact go e ht (.inl ⟨_,hu⟩) bn
    ·rename_i e ht hu
     exact go e ht (.inr hu) bn
    ·cases bn
   ·cases bn
  ·rename_i fX
   split at bn
   ·rename_i x y t u dq jx
    simp only[ahL] at bn
    obtain⟨ix,hx,iy,hy,bn⟩:=bn
    split at bn
    ·rename_i e e' ht hu
     simp only[ahL] at bn
     obtain⟨sz,hs,bn⟩:=bn
     obtain⟨h0,bn⟩:=ab bn
     injection bn with bn
     subst bn
     simp only[dV,ah8] at h0
     subst h0
     simp only[ai] at he
     exact nZ (KT hW hF cE fX dq jx ht hs hx hy he hd)
    ·cases bn
   ·cases bn
  ·rename_i fX
   split at bn
   ·rename_i x y dq
    simp only[ahL,ahK] at bn
    obtain⟨ix,hx,iy,hy,rfl⟩:=bn
    simp only[ai,ahK,ahN] at he
    obtain⟨z',hz,rfl,rfl⟩:=he
    exact fin rfl (T4 (mx:=true) hW hF cE fX dq hx hy hz)
   ·cases bn
  ·rename_i fX
   split at bn
   ·rename_i x y dq
    simp only[ahL,ahK] at bn
    obtain⟨ix,hx,iy,hy,rfl⟩:=bn
    simp only[ai,ahK,ahN] at he
    obtain⟨z',hz,rfl,rfl⟩:=he
    exact fin rfl (T4 (mx:=false) hW hF cE fX dq hx hy hz)
   ·cases bn
  ·cases bn
 | makeSlice t x y =>
  rw[cE] at bn
  simp only[cn,ahL] at bn
  obtain⟨yx,l8,bn⟩:=bn
  obtain⟨Ht,bn⟩:=ab bn
  split at bn
  ·rename_i e ht
   simp only[ahL] at bn
   obtain⟨i,hi,zv,hz,zero,Y7,bn⟩:=bn
   obtain⟨h0,bn⟩:=ab bn
   injection bn with bn
   subst bn
   simp only[ahR,aih,dV,ah8] at h0
   simp only[ai] at he
   exact nZ (KX hW hF cE Ht ht hi hz Y7 h0.2 h0.1 l8 he hd)
  ·cases bn
 | makeMap t r =>
  rw[cE] at bn
  cases r with
  | some r=>simp[cn] at bn
  | none =>
   simp only[cn,ahK] at bn
   obtain⟨m,hm,rfl⟩:=bn
   simp only[ai,ahM,ahN] at he
   obtain⟨rfl,rfl⟩:=he
   exact nZ (KY hW hF cE hd _ _ _)
 | lookup t x i ok =>
  rw[cE] at bn
  simp only[cn,ahL,ahK] at bn
  obtain⟨ya,Hj,yb,ZV,m,hm,rfl⟩:=bn
  obtain⟨kt,et,z,hT⟩:=rE hm
  simp only[ai] at he
  obtain⟨h1,h2⟩:=PX hW hF hT cE Hj ZV he
  exact fin h1 h2
 | mapUpdate t x i v =>
  rw[cE] at bn
  simp only[cn,ahL,ahK] at bn
  obtain⟨ya,Hj,yb,ZV,yc,ZW,m,hm,rfl⟩:=bn
  obtain⟨kt,et,z,hT⟩:=rE hm
  simp only[ai,ahK,ahN] at he
  obtain⟨s1,he,rfl,rfl⟩:=he
  exact nZ (G8 hW hF hT (.inl cE) Hj ZV ZW he hd)
 | insert t x i v =>
  rw[cE] at bn
  simp only[cn,ahL,ahK] at bn
  obtain⟨ya,Hj,yb,ZV,yc,ZW,m,hm,rfl⟩:=bn
  obtain⟨kt,et,z,hT⟩:=rE hm
  simp only[ai,ahK,ahN] at he
  obtain⟨s1,he,rfl,rfl⟩:=he
  exact nZ (G8 hW hF hT (.inr cE) Hj ZV ZW he hd)
 | range t x =>
  rw[cE] at bn
  simp only[cn] at bn
  obtain⟨h0,bn⟩:=ab bn
  simp only[ahL,ahK] at bn
  obtain⟨ya,Hj,m,hm,rfl⟩:=bn
  obtain⟨kt,et,z,hT⟩:=rE hm
  obtain⟨k',h1,h2⟩:=qm h0
  exact nZ (Vt hW hF cE Hj hT.ht he (fun k hk=>⟨hd k hk,by rw[h1] at hk;injection hk with hk;subst hk;exact uu _ h2⟩))
 | next x b =>
  rw[cE] at bn
  cases b with
  | true=>simp[cn] at bn
  | false =>
   simp only[cn,ahK] at bn
   obtain⟨ya,Hj,rfl⟩:=bn
   simp[ai] at he
 | entry x =>
  rw[cE] at bn
  simp only[cn,ahK] at bn
  obtain⟨ya,Hj,rfl⟩:=bn
  obtain⟨h1,h2⟩:=Vr hW hF cE Hj he
  exact fin h1 h2
 | _=>rw[cE] at bn;simp[cn] at bn
end
end
end Go.Abs
