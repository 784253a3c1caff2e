/-
  A part of the proof of PrintNames: AbsMap3, AbsMap4, AbsMap5, AbsMap6, AbsArr, AbsCopy, AbsEvOp.
-/
import Derived.Maps.RangeRun
import Derived.Laws.MakeOwn
import Derived.Laws.IdiomCopy
import Derived.WalkSpells
import Derived.Test.YtocbgffdpfiidaaGreatDoorP03
set_option linter.unusedSimpArgs false
set_option linter.unusedVariables false
set_option linter.defProp false
namespace Go.Abs
section
section
variable {P:Program}{G:Nat->List AV}{base nt:Nat}{L:List Nat}{gh:Gh}{w w' : World}{a:Act}{s:AS}{H:ag}
theorem find_spec{a:List UInt8} : ∀ (es:List (List AV)),(∀ r,r∈es->∃ b,kL r=some b)->∃ o,fB [.s] [.str a] es=some o /\
  ((o=none/\∀ r,r∈es->kL r≠some a)\/∃ i r,o=some i/\es[i]?=some r/\kL r=some a)
 | [],_=>⟨none,rfl,.inl ⟨rfl,fun r h=>by cases h⟩⟩
 | r :: es,h=>by
  obtain⟨b,hb⟩:=h r (ai8 ..)
  obtain⟨q,rfl⟩:∃ q,r=.str b :: q:=by
   unfold kL at hb
   split at hb
   ·injection hb with hb;subst hb;exact⟨_,rfl⟩
   ·cases hb
  obtain⟨o,ho,hs⟩:=find_spec (a:=a) es (fun r hr=>h r (ajZ _ hr))
  by_cases hab:a=b
  ·subst hab
   exact⟨some 0,by simp[fB,bG],.inr ⟨0,_,rfl,rfl,rfl⟩⟩
  ·have cU:(a==b)=false:=by simpa using hab
   refine⟨o.map (· + 1),by simp[fB,bG,cU,ho],?_⟩
   rcases hs with ⟨rfl,hs⟩|⟨i,r,rfl,h1,h2⟩
   ·refine .inl ⟨rfl,fun r hr=>?_⟩
    rcases aja.1 hr with rfl|hr
    ·simp only[kL];intro h;injection h with h;exact hab h.symm
    ·exact hs r hr
   ·exact .inr ⟨i+1,r,rfl,by simpa using h1,h2⟩
theorem apart_spec:∀ {es:List (List AV)},qa es=true->(∀ r,r∈es->∃ b,kL r=some b)/\∀ r r',r∈es->r'∈es->kL r=kL r'->r=r'
 | [],_=>⟨fun r h=>(by cases h),fun r r' h=>(by cases h)⟩
 | q :: es,h=>by
  simp only[qa,aiL] at h
  obtain⟨h1,h2⟩:=h
  obtain⟨i1,i2⟩:=apart_spec h2
  cases hq:kL q with
  | none=>rw[hq] at h1;cases h1
  | some a =>
   rw[hq] at h1
   simp only[aiO] at h1
   have cU:∀ r,r∈es->kL r≠some a:=by
    intro r hr hra
    have:=h1 r hr
    rw[hra] at this
    simp at this
   refine⟨fun r hr=>?_,fun r r' hr yw he=>?_⟩
   ·rcases aja.1 hr with rfl|hr
    ·exact⟨a,hq⟩
    ·exact i1 r hr
   ·rcases aja.1 hr with e1|k1<;>rcases aja.1 yw with e2|k2
    ·rw[e1,e2]
    ·rw[e1] at he;exact absurd (he.symm.trans hq) (cU r' k2)
    ·rw[e2] at he;exact absurd (he.trans hq) (cU r k1)
    ·exact i2 r r' k1 k2 he
theorem IZ{a:List UInt8}{es rY:List (List AV)}(hp:rY.Perm es)(ha:qa es=true){o:Option Nat}(hf:fB [.s] [.str a] es=some o)(ok va:Bool)(zero:List AV)(kz:Nat) :
  ∃ o',fB [.s] [.str a] rY=some o'/\oR ok va zero kz rY o'=oR ok va zero kz es o:=by
 obtain⟨h1,h2⟩:=apart_spec ha
 obtain⟨o1,e1,s1⟩:=find_spec (a:=a) es h1
 rw[hf] at e1
 injection e1 with e1
 subst e1
 obtain⟨o',e2,s2⟩:=find_spec (a:=a) rY (fun r hr=>h1 r (hp.mem_iff.1 hr))
 refine⟨o',e2,?_⟩
 rcases s1 with ⟨rfl,s1⟩|⟨i,r,rfl,k1,k2⟩
 ·rcases s2 with ⟨rfl,_⟩|⟨i',r',rfl,k1',k2'⟩
  ·rfl
  ·exact absurd k2' (s1 r' (hp.mem_iff.1 (aiT k1')))
 ·rcases s2 with ⟨rfl,s2⟩|⟨i',r',rfl,k1',k2'⟩
  ·exact absurd k2 (s2 r (hp.mem_iff.2 (aiT k1)))
  ·have:r'=r:=h2 r' r (hp.mem_iff.1 (aiT k1')) (aiT k1) (k2'.trans k2.symm)
   subst this
   simp only[oR,List.getD,k1,k1']
theorem Qp(hW:aG G base s.H gh w)(hF:FR L nt gh w a s){o:Oper}{t kt et:TypeId}{ks:List CK}{ka va:Bool}{vz:Nat}{zv:Value}{zero:List AV}(hT:DS P t kt et ks ka va vz zv zero){x i:Operand}{y yi:ak}{ok:Bool}{z:AV}{s' : Option AS}
  (ho:o.op=.lookup t x i ok) (hc:ah nt x=some y) (hi:ah nt i=some yi) (he:sH s ok ks.length ka va ks zero (y.addr G s.T) (yi.eval G s.T)=some (z,s')) :
  s'=none/\∃ v,(execOp a.eval o).run P w=.ok (.value v) w/\ld gh s.H.length nt w s.T s.gen (dO a) v z:=by
 simp only[sH,aiF] at he
 obtain⟨kc,oe,he⟩:=he
 obtain⟨h0,he⟩:=ab he
 simp only[aiL,dU,ai2,ajq] at h0
 obtain⟨hl,r6⟩:=h0
 have Kf:ar (yi.eval G s.T)=true:=by rw[<- im];exact gx oe
 have hk:=bS hW hF hi rfl Kf
 have fin:∀ {M:Value} {zz:AV},a.eval x=M->(∃ v,(Instr.lookup t M (a.eval i) ok).run P w=.ok v w/\VR gh s.H.length w v zz)->∃ v,(execOp a.eval o).run P w=.ok (.value v) w/\ld gh s.H.length nt w s.T s.gen (dO a) v zz:=by
  rintro M zz rfl ⟨v,h1,h2⟩
  exact⟨v,by simp[execOp,ho,h1],.cD h2⟩
 have hm:=arg_val hW hF hc
 split at he
 ·rename_i hM
  simp only[aiG,aiH] at he
  obtain⟨rfl,rfl⟩:=he
  rw[hM] at hm
  refine⟨rfl,fin (M:=.map none) ?_ (AL hT hk oe hl r6 ok)⟩
  generalize a.eval x=V at hm
  cases (hm:VR gh s.H.length w V .cw) with
  | plain _ _ h=>cases h;rfl
 ·rename_i kH kG kQ es hM
  obtain⟨h1,nY⟩:=ab he
  clear he
  simp only[aiE,aiH] at nY
  obtain⟨r,hf,rfl,rfl⟩:=nY
  simp only[aiL,dU,ai2,ajq] at h1
  obtain⟨⟨⟨⟨rfl,rfl⟩,rfl⟩,xx⟩,Jk⟩:=h1
  obtain⟨str,rfl,rfl⟩:∃ str,ks=[.s]/\kc=[.str str]:=by
   unfold Su at Jk
   split at Jk
   ·exact⟨_,rfl,rfl⟩
   ·cases Jk
  refine⟨rfl,?_⟩
  rw[hM] at hm
  have hp:PR gh.S w (a.eval x) (.mc [CK.s].length ka va es):=by
   generalize a.eval x=V at hm
   cases (hm:VR gh s.H.length w V (.mc [CK.s].length ka va es)) with
   | plain _ _ h=>exact h
  generalize hV:a.eval x=V at hp
  cases hp with
  | mc b _ _ _ _ rY E ck f hS hb hI hpm bU =>
   have hE:=hI.size
   have br:=hI.row
   obtain⟨o',hf',hlk⟩:=IZ hpm xx hf ok va zero [CK.s].length
   rw[<- hlk]
   have hR:Rows gh s.H.length w E [CK.s].length ka va rY:=by
    refine⟨hE,fun i e r h1 h2=>⟨f i,(br i e r h1 h2).2.2.2.1,fun j x hj _=>bU i j r x h2 hj⟩,fun i e r h1 h2=>?_⟩
    obtain⟨k1,_,k2,_,k3⟩:=br i e r h1 h2
    refine⟨k1,k2,_,k3,fun j x hj=>?_⟩
    rw[aje] at hj
    have:=bU i _ r x h2 hj
    exact⟨VR.dropped (.plain _ _ this),this.dB⟩
   exact fin hV (Dr hT hk oe hl r6 hb hR hf' ok)
 ·simp only[aiF,aiE,aiH] at he
  obtain⟨es,cy,r,hf,rfl,rfl⟩:=he
  refine⟨rfl,?_⟩
  have key:∃ b E ck,a.eval x=.map (some b)/\w.heap[b]?=some (.map E ck)/\Rows gh s.H.length w E ks.length ka va es:=by
   generalize hY:y.addr G s.T=Y at hm cy
   have hp:∀ kH kG kQ rY,Y=.dp kH kG kQ rY->PR gh.S w (a.eval x) (.dp kH kG kQ rY):=by
    rintro _ _ _ _ rfl
    generalize a.eval x=V at hm
    cases (hm:VR gh s.H.length w V (.dp _ _ _ _)) with
    | plain _ _ h=>exact h
   unfold rN at cy
   split at cy
   ·obtain⟨h1,cy⟩:=ab cy
    injection cy with cy
    subst cy
    simp only[aiL,dU,ai2,ajq] at h1
    obtain⟨⟨rfl,rfl⟩,rfl⟩:=h1
    exact wy (b:=0) (hp _ _ _ _ rfl)
   ·obtain⟨a7,nX⟩:=VR.lQ (hm:VR gh s.H.length w (a.eval x) (.mref _))
    split at cy
    ·rename_i hH
     obtain⟨h1,cy⟩:=ab cy
     injection cy with cy
     subst cy
     simp only[aiL,dU,ai2,ajq] at h1
     obtain⟨⟨rfl,rfl⟩,rfl⟩:=h1
     obtain⟨E,ck,hb,hR⟩:=wx (hW.more _ _ hH).1
     exact⟨_,E,ck,nX,hb,hR⟩
    ·rename_i hH
     obtain⟨h1,cy⟩:=ab cy
     injection cy with cy
     subst cy
     simp only[aiL,dU,ai2,ajq] at h1
     obtain⟨⟨rfl,rfl⟩,rfl⟩:=h1
     obtain⟨b,E,ck,hv,hb,hR⟩:=wy (b:=0) (n:=s.H.length) (hW.more _ _ hH:PR gh.S w _ _)
     exact⟨b,E,ck,nX.trans hv,hb,hR⟩
    ·cases cy
   ·cases cy
  obtain⟨b,E,ck,nX,hb,hR⟩:=key
  exact fin nX (Dr hT hk oe hl r6 hb hR hf ok)
theorem find_eq:∀ {ks:List CK} {kc:List AV} {es:List (List AV)} {i:Nat} {r:List AV},fB ks kc es=some (some i)->es[i]?=some r->bG ks kc r=some true
 | ks,kc,[],i,r,h,_=>by simp[fB] at h
 | ks,kc,q :: es,i,r,h,hr=>by
  simp only[fB,aiF] at h
  obtain⟨b,hb,h⟩:=h
  cases b with
  | true=>simp at h;subst h;simp at hr;subst hr;exact hb
  | false =>
   simp only[aiQ,aiE] at h
   obtain⟨o,ho,h⟩:=h
   cases o with
   | none=>simp at h
   | some j=>simp at h;subst h;exact find_eq ho (by simpa using hr)
theorem xQ{n m:Nat}{c:CK}{u v:Value}{x y:AV}(hu:VR gh n w u x)(hv:PR gh.S w v y)(h:bG [c] [x] [y]=some true):Instr.sameBits m v u=true:=by
 cases c<;>cases x<;>try (cases h;done)
 all_goals (cases y<;>try (cases h;done))
 ·obtain rfl:=hu.iw
  cases hv
  simp[bG] at h
  cases m<;>simp[Instr.sameBits,h]
 ·obtain rfl:=hu.gU
  cases hv
  simp only[bG] at h
  obtain⟨h0,h⟩:=ab h
  simp at h h0
  cases m<;>simp[Instr.sameBits,h,h0]
 ·obtain⟨p,rfl,rfl⟩:=hu.gW
  cases hv with
  | str q _ hq =>
   simp[bG] at h
   have:q=p:=by
    cases p;cases q
    congr 1
    exact akM (by rw[hq];simp at h ⊢;rw[h])
   subst this
   have hb:(q==q)=true:=show (q.data==q.data)=true by simp
   cases m<;>simp[Instr.sameBits,hb]
theorem yh:∀ {ks:List CK} {X Y:List AV},bG ks X Y=some true->∀ (j:Nat) (c:CK),ks[j]?=some c->∃ x y,X[j]?=some x/\Y[j]?=some y/\bG [c] [x] [y]=some true
 | [],X,Y,h,j,c,hj=>by simp at hj
 | c0 :: ks,X,Y,h,j,c,hj=>by
  have one:∀ (x y:AV) (X' Y' : List AV) (e:Bool),X=x :: X'->Y=y :: Y'->bG [c0] [x] [y]=some e->(bG ks X' Y').map (e&&·)=some true->∃ x y,X[j]?=some x/\Y[j]?=some y/\bG [c] [x] [y]=some true:=by
   rintro x y X' Y' e rfl rfl h1 h2
   simp only[aiE,aiL] at h2
   obtain⟨b,hb,rfl,rfl⟩:=h2
   cases j with
   | zero=>simp at hj;subst hj;exact⟨x,y,rfl,rfl,h1⟩
   | succ j =>
    obtain⟨x',y',k1,k2,k3⟩:=yh hb j c (by simpa using hj)
    exact⟨x',y',by simpa using k1,by simpa using k2,k3⟩
  cases c0<;>cases X<;>try (cases h;done)
  all_goals (rename_i x X';cases x<;>try (cases h;done))
  all_goals (cases Y<;>try (cases h;done))
  all_goals (rename_i y Y';cases y<;>try (cases h;done))
  ·exact one _ _ _ _ _ rfl rfl (by simp[bG]) h
  ·simp only[bG] at h
   obtain⟨h0,h⟩:=ab h
   exact one _ _ _ _ _ rfl rfl (by simp only[bG,h0,cond_true];simp) h
  ·exact one _ _ _ _ _ rfl rfl (by simp[bG]) h
theorem KM{kt:TypeId}{ks:List CK}{ka:Bool}(hK:zc P kt ks ka){n:Nat}{kv:Value}{k:AV}{kc:List AV}(hk:VR gh n w kv k)(oe:k.cells=some kc)(hl:kc.length=ks.length)(r6:ka=k.isAgg)
  {v:Value} {r:List AV} (hv:Hf gh.S w ks.length ka v r) (he:bG ks kc r=some true):Instr.sameBits 10000 v kv=true:=by
 obtain⟨f,rfl,hf⟩:=hv
 have LM:=yh he
 cases ka with
 | false =>
  have h1:=hK.kz rfl
  obtain⟨c,rfl⟩:=aj1.1 h1
  have WA:kc=[k]:=by
   cases k<;>first|(cases r6;done)|(injection oe with oe;exact oe.symm)|(cases oe;done)
  subst WA
  obtain⟨x,y,k1,k2,k3⟩:=LM 0 c rfl
  simp at k1
  subst k1
  exact xQ hk (hf 0 y k2 (by simp)) k3
 | true =>
  obtain⟨C,rfl⟩:=sn hk r6
  have hC:Row gh n w C kc:=by
   rcases pE hk oe with ⟨C',e,_,hr⟩|⟨_,h1⟩
   ·injection e with e;subst e;exact hr
   ·simp[Value.oneCell'] at h1
  show Instr.sameBits (9999+1) (.agg ((List.range ks.length).map f).toArray) (.agg C)=true
  simp only[Instr.sameBits,aiL,ajq,aiO]
  refine⟨by simp[hC.1,hl],fun p hp=>?_⟩
  obtain⟨j,hj⟩:=ai' hp
  rw[akq] at hj
  obtain⟨h1,h2⟩:=hj
  simp only[aiW,aiE] at h1
  obtain⟨i,hi,Ke⟩:=h1
  obtain⟨a7,uI⟩:=aiI.1 hi
  simp at a7 uI
  subst uI
  have hc:ks[j]?=some ks[j]:=aiJ a7
  obtain⟨x,y,k1,k2,k3⟩:=LM j _ hc
  have hu:=hC.2 j p.2 x (by simpa using h2) k1
  obtain⟨p1,p2⟩:=p
  simp only at Ke hu ⊢
  rw[<- Ke]
  exact xQ hu (hf j y k2 a7) k3
theorem y8{n:Nat}{v:Value}{x:AV}{cs:List AV}(h:VR gh n w v x)(hc:x.cells=some cs):v=oc x.isAgg cs.length (fun j=>v.cells.getD j undef)/\∀ (j:Nat) (y:AV),cs[j]?=some y->VR gh n w (v.cells.getD j undef) y/\(v.cells.getD j undef).oneCell'=true:=by
 have hr:=pb h hc
 refine⟨?_,fun j y hj=>?_⟩
 ·rcases pE h hc with ⟨C,rfl,rfl,br⟩|⟨rfl,fh⟩
  ·simp only[oc,AV.isAgg,cond_true,Value.cells]
   congr 1
   refine Array.ext (by simp[br.1]) (fun i h1 h2=>by simp[h1])
  ·have F2:x.isAgg=false:=by
    cases x<;>first|rfl|skip
    obtain⟨C,rfl,_⟩:=h.ja
    simp[Value.oneCell'] at fh
   have hv:v.cells=#[v]:=by cases v<;>first|rfl|(simp[Value.oneCell'] at fh)
   simp[oc,F2,hv]
 ·have a7:j<v.cells.size:=by rw[hr.1];exact (aiI.1 hj).1
  have hv:v.cells[j]?=some v.cells[j]:=aiS a7
  obtain⟨h1,h2⟩:=hr.2 j _ y hv hj
  simp only[akL,hv,ajC]
  exact⟨h1,h2⟩
end
end
section
section
variable {P:Program}{G:Nat->List AV}{base nt:Nat}{L:List Nat}{gh:Gh}{w w' : World}{a:Act}{s:AS}{H:ag}
theorem lq{agg:Bool}{n:Nat}{f g:Nat->Value}(h:∀ j,j<n->f j=g j)(hn:agg=false->0<n):oc agg n f=oc agg n g:=by
 cases agg with
 | true =>
  simp only[oc,cond_true]
  congr 2
  exact ai6 fun j hj=>h j (by simpa using hj)
 | false=>exact h 0 (hn rfl)
def k6(E:Array MapEntry)(ck:Nat)(o:Option Nat)(kv vv:Value):Array MapEntry × Nat :=
 match o with
 | none=>(E.push { key:=kv,val:=vv,born:=ck },ck+1)
 | some i=>(E.modify i fun e=>{ e with key:=kv,val:=vv },ck)
theorem O7{n:Nat}{t kt et:TypeId}{ks:List CK}{ka va:Bool}{vz:Nat}{zv:Value}{zero:List AV}(hT:DS P t kt et ks ka va vz zv zero){kv vv:Value}{k:AV}{kc:List AV}(hk:VR gh n w kv k)(oe:k.cells=some kc)(hl:kc.length=ks.length)(r6:ka=k.isAgg)
  {b:Nat} {E:Array MapEntry} {ck:Nat} {es:List (List AV)} (hb:w.heap[b]?=some (.map E ck)) (hR:Rows gh n w E ks.length ka va es) {o:Option Nat} (hf:fB ks kc es=some o) :
  (Instr.mapUpdate t (.map (some b)) kv vv).run P w=.ok () (qA w b (k6 E ck o kv vv).1 (k6 E ck o kv vv).2):=by
 have pj:=tf hT.key hk oe hl r6 false
 have Ke:=wC hT.key hk oe hl r6 (l:=E.toList) (by simpa using hR.size) (fun i e r h1 h2=>hR.key i e r (by simpa using h1) h2) hf
 cases o with
 | none =>
  have hs:=wE (P:=P) (w:=w) (E':=E.push { key:=kv,val:=vv,born:=ck }) (ck':=ck+1) hb
  simp[Instr.mapUpdate,run_underlying hT.ht,getObj,Sem.run,hb]
  simp[pj,Ke,k6]
  exact hs
 | some i =>
  have hi:=uD hf
  have hiE:i<E.size:=by rw[hR.size];exact hi
  have hE:E[i]?=some E[i]:=aiS hiE
  have he:es[i]?=some es[i]:=aiJ hi
  have aav:=KM hT.key hk oe hl r6 (hR.key i _ _ hE he) (find_eq hf he)
  have hs:=wE (P:=P) (w:=w) (E':=E.modify i fun e=>{ e with key:=kv,val:=vv }) (ck':=ck) hb
  simp[Instr.mapUpdate,run_underlying hT.ht,getObj,Sem.run,hb]
  simp only[aiV] at Ke
  simp[pj,Ke,k6,hiE,Instr.keyThatStays,aav]
  exact hs
theorem Y0{n l b kz:Nat}{ka va:Bool}{es:List (List AV)}{E:Array MapEntry}{ck:Nat}{f:Nat->Nat->Value}(hW:aG G base H gh w)(hκ:gh.κ b=.hb l)(hS:∀ o,¬ gh.S b o)(hb:w.heap[b]?=some (.map E ck))(hE:Ba E ck kz ka va es f)
  (h1:∀ (i j:Nat) (r:List AV) (x:AV),es[i]?=some r->r[j]?=some x->j<kz->PR gh.S w (f i j) x)
  (h2:∀ (i j:Nat) (r:List AV) (x:AV),es[i]?=some r->r[j]?=some x->kz<=j->(f i j).oneCell'=true/\(va=true->VR gh n w (f i j) x)/\CR gh n w (.hs l i) (f i j) x)
  {kc vc:List AV} {fk fv:Nat->Value} (hkz:kc.length=kz) (PO:ka=false->kz=1) (QY:va=false->vc.length=1) (Zz:∀ (j:Nat) (x:AV),kc[j]?=some x->PR gh.S w (fk j) x)
  {o:Option Nat} (ho:∀ i,o=some i->i<es.length) (hvv:∀ (j:Nat) (x:AV),vc[j]?=some x->(fv j).oneCell'=true/\(va=true->VR gh n w (fv j) x)/\CR gh n w (.hs l (o.getD es.length)) (fv j) x) :
  xN gh n (qA w b (k6 E ck o (oc ka kz fk) (oc va vc.length fv)).1 (k6 E ck o (oc ka kz fk) (oc va vc.length fv)).2) b (.hb l) (fun i=>.hs l i) kz ka va (tg es o (kc++vc)):=by
 have st:=CX (E':=(k6 E ck o (oc ka kz fk) (oc va vc.length fv)).1) (ck':=(k6 E ck o (oc ka kz fk) (oc va vc.length fv)).2) hW hb hS n
 rw[hκ] at st
 let idx:=o.getD es.length
 let f' : Nat->Nat->Value:=fun i j=>if i=idx then (if j<kz then fk j else fv (j-kz)) else f i j
 have br:∀ i r,(tg es o (kc++vc))[i]?=some r->(i=idx/\r=kc++vc)\/(i≠idx/\es[i]?=some r):=by
  intro i r hr
  cases o with
  | none =>
   simp only[tg] at hr
   by_cases a7:i<es.length
   ·rw[ai1 a7] at hr
    exact .inr ⟨by show i≠es.length;omega,hr⟩
   ·rw[ai7 (by omega)] at hr
    have hz:i=es.length:=by
     have:=(aiI.1 hr).1
     simp at this;omega
    subst hz
    simp at hr
    exact .inl ⟨rfl,hr.symm⟩
  | some i0 =>
   simp only[tg] at hr
   rw[ajF] at hr
   split at hr
   ·rename_i e
    subst e
    split at hr
    ·injection hr with hr
     exact .inl ⟨rfl,hr.symm⟩
    ·cases hr
   ·rename_i e
    exact .inr ⟨aj6 e,hr⟩
 have HK:kz<=(kc++vc).length/\(ka=false->kz=1)/\(va=false->(kc++vc).length=kz+1)/\oc ka kz fk=oc ka kz (f' idx)/\oc va vc.length fv=oc va ((kc++vc).length-kz) (fun j=>f' idx (kz+j)):=by
  rw[List.length_append,hkz]
  refine⟨by omega,PO,fun h=>by rw[QY h],lq (fun j hj=>?_) (fun h=>by rw[PO h];omega),?_⟩
  ·simp only[f',if_pos rfl,if_pos hj]
  ·rw[Nat.add_sub_cancel_left]
   refine lq (fun j hj=>?_) (fun h=>by rw[QY h];omega)
   have e:¬ kz+j<kz:=by omega
   simp only[f',if_pos rfl,if_neg e,Nat.add_sub_cancel_left]
 refine⟨hκ,hS,_,_,f',Dv hb,?_,fun i j r x hi hj hl=>?_,fun i j r x hi hj hl=>?_⟩
 ·cases o with
  | none =>
   refine⟨by simp[k6,tg,hE.size],by simp[k6,hE.clk],fun i e he=>?_,fun i e he=>?_,fun i j e e' he A5 yl=>?_,fun i e r he hr=>?_⟩
   ·simp only[k6] at he
    rw[akn] at he
    split at he
    ·rename_i hi0;injection he with he;subst he;rw[hi0];exact hE.clk
    ·exact hE.at' i e he
   ·simp only[k6] at he ⊢
    rw[akn] at he
    split at he
    ·injection he with he;subst he;simp
    ·have:=hE.born i e he;omega
   ·simp only[k6] at he A5
    rw[akn] at he A5
    split at he<;>split at A5
    ·omega
    ·injection he with he;subst he
     have:=hE.born j e' A5
     simp only at yl;omega
    ·injection A5 with A5;subst A5
     have:=hE.born i e he
     simp only at yl;omega
    ·exact hE.apart i j e e' he A5 yl
   ·simp only[k6] at he
    rw[akn] at he
    rcases br i r hr with ⟨hi,rfl⟩|⟨hi,hr⟩
    ·have jW:i=es.length:=hi
     rw[if_pos (by rw[hE.size];exact jW)] at he
     injection he with he
     subst he
     subst hi
     exact HK
    ·have jW:i≠es.length:=hi
     rw[if_neg (by rw[hE.size];exact jW)] at he
     obtain⟨k1,k2,k3,k4,k5⟩:=hE.row i e r he hr
     refine⟨k1,k2,k3,?_,?_⟩
     ·rw[k4];refine lq (fun j _=>?_) (fun h=>by rw[k2 h];omega)
      simp only[f',if_neg hi]
     ·rw[k5];refine lq (fun j _=>?_) (fun h=>by rw[k3 h];omega)
      simp only[f',if_neg hi]
  | some i0 =>
   have sP:∀ {i:Nat} {e:MapEntry},(E.modify i0 fun e=>{ e with key:=oc ka kz fk,val:=oc va vc.length fv })[i]?=some e->∃ e0,E[i]?=some e0/\e=if i=i0 then { e0 with key:=oc ka kz fk,val:=oc va vc.length fv } else e0:=by
    intro i e he
    rw[Array.getElem?_modify] at he
    split at he
    ·rename_i Je
     simp only[aiE] at he
     obtain⟨e0,h0,rfl⟩:=he
     exact⟨e0,h0,by rw[if_pos Je.symm]⟩
    ·rename_i Je
     exact⟨e,he,by rw[if_neg (aj6 Je)]⟩
   have HC:∀ {i:Nat} {e e0:MapEntry},(e=if i=i0 then { e0 with key:=oc ka kz fk,val:=oc va vc.length fv } else e0)->e.born=e0.born:=by
    intro i e e0 h
    rw[h];split<;>rfl
   refine⟨by simp[k6,tg,hE.size],by simp[k6,hE.clk],fun i e he=>?_,fun i e he=>?_,fun i j e e' he A5 yl=>?_,fun i e r he hr=>?_⟩
   ·obtain⟨e0,h0,h⟩:=sP he
    rw[HC h]
    exact hE.at' i e0 h0
   ·obtain⟨e0,h0,h⟩:=sP he
    rw[HC h]
    exact hE.born i e0 h0
   ·obtain⟨e0,h0,h⟩:=sP he
    obtain⟨e0',Ka,h'⟩:=sP A5
    rw[HC h,HC h'] at yl
    exact hE.apart i j e0 e0' h0 Ka yl
   ·obtain⟨e0,h0,h⟩:=sP he
    rcases br i r hr with ⟨hi,rfl⟩|⟨hi,hr⟩
    ·have jW:i=i0:=hi
     rw[if_pos jW] at h
     subst h
     subst hi
     exact HK
    ·have jW:i≠i0:=hi
     rw[if_neg jW] at h
     subst h
     obtain⟨k1,k2,k3,k4,k5⟩:=hE.row i e r h0 hr
     refine⟨k1,k2,k3,?_,?_⟩
     ·rw[k4];refine lq (fun j _=>?_) (fun h=>by rw[k2 h];omega)
      simp only[f',if_neg hi]
     ·rw[k5];refine lq (fun j _=>?_) (fun h=>by rw[k3 h];omega)
      simp only[f',if_neg hi]
 ·rcases br i r hi with ⟨rfl,rfl⟩|⟨cU,hr⟩
  ·rw[ai1 (by omega)] at hj
   simp only[f',if_pos rfl,if_pos hl]
   exact (Zz j x hj).mono st.S st.cell st.mp
  ·simp only[f',if_neg cU]
   exact (h1 i j r x hr hj hl).mono st.S st.cell st.mp
 ·rcases br i r hi with ⟨rfl,rfl⟩|⟨cU,hr⟩
  ·rw[ai7 (by omega),hkz] at hj
   have e:¬ j<kz:=by omega
   simp only[f',if_pos rfl,if_neg e]
   obtain⟨k1,k2,k3⟩:=hvv (j-kz) x hj
   exact⟨k1,fun h=>(k2 h).mono st (aiK _),k3.mono st (aiK _) (by simp)⟩
  ·simp only[f',if_neg cU]
   obtain⟨k1,k2,k3⟩:=h2 i j r x hr hj hl
   exact⟨k1,fun h=>(k2 h).mono st (aiK _),k3.mono st (aiK _) (by simp)⟩
theorem oH{l:Nat}{x:AV}(h:x.plain=true):aR l x=true:=by
 cases x<;>first|exact h|(simp[AV.plain] at h;done)|(simp only[aR,AV.drop];exact h)|(simp[aR,AV.drop,AV.plain] at h ⊢;done)|skip
 rename_i f fs cs
 cases fs<;>cases cs<;>first|rfl|(simp[AV.plain] at h)
theorem Hr(hW:aG G base s.H gh w)(hF:FR L nt gh w a s){o:Oper}{t kt et:TypeId}{ks:List CK}{ka va:Bool}{vz:Nat}{zv:Value}{zero:List AV}(hT:DS P t kt et ks ka va vz zv zero){xm xk xv:Operand}{ym yk yv:ak}{s' : AS}
  (ho:o.op=.mapUpdate t xm xk xv\/o.op=.insert t xm xk xv) (Zv:ah nt xm=some ym) (hck:ah nt xk=some yk) (UP:ah nt xv=some yv)
  (he:sI s ks.length ka va vz ks (ym.addr G s.T) (yk.eval G s.T) (yv.eval G s.T)=some s') (hd:∀ k,o.dst=some k->k<nt) :
  ∃ v' aF w',qM P a o w v' w'/\Out G base nt L gh w a s o.dst .undef (s'.cq yv) v' aF w':=by
 have hm:=arg_val hW hF Zv
 unfold sI at he
 generalize hY:ym.addr G s.T=Y at hm he
 cases Y<;>simp only at he<;>try (cases he;done)
 rename_i l
 obtain⟨a7,nX⟩:=VR.lQ (hm:VR gh s.H.length w (a.eval xm) (.mref l))
 split at he
 ·rename_i kH kG kQ es hH
  simp only[aiF] at he
  obtain⟨kc,oe,vc,Q0,UR⟩:=he
  obtain⟨h0,nY⟩:=ab UR
  clear UR
  simp only[aiL,dU,ai2,ajq] at h0
  obtain⟨⟨⟨⟨⟨⟨⟨⟨hl,WZ⟩,rfl⟩,rfl⟩,rfl⟩,r6⟩,hva⟩,U9⟩,UW⟩:=h0
  simp only[aiE] at nY
  obtain⟨oi,hf,rfl⟩:=nY
  have adO:ar (yk.eval G s.T)=true:=by rw[<- im];exact gx oe
  have adP:ar (yv.eval G s.T)=true:=gx Q0
  have Wz:=bS hW hF hck rfl adO
  obtain⟨jP,nW,uq,DM,PW,kB⟩:=mI hW hF UP adP (.hs l (oi.getD es.length)) (by simp)
  have hρ:jP.ρ l=gh.ρ l:=PW.ρ l a7
  have hk:=Wz.mono PW (aiK _)
  obtain⟨⟨hκ,hS,E,ck,f,hb,hE,h1,h2⟩,fg⟩:=nW.more l _ hH
  obtain⟨E2,P',jA,hR⟩:=wx (nW.more l _ hH).1
  have hEE:E2=E/\P'=ck:=by
   rw[hb] at jA
   injection jA with jA
   injection jA with e1 e2
   exact⟨e1.symm,e2.symm⟩
  obtain⟨rfl,rfl⟩:=hEE
  obtain⟨PS,QP⟩:=y8 hk oe
  have fZ:∃ fv:Nat->Value,a.eval xv=oc va vc.length fv/\∀ (j:Nat) (x:AV),(cond va (vc.map AV.drop) vc)[j]?=some x->(fv j).oneCell'=true/\(va=true->VR jP s.H.length w (fv j) x)/\CR jP s.H.length w (.hs l (oi.getD es.length)) (fv j) x:=by
   cases abc:va with
   | true =>
    have F2:(yv.eval G s.T).isAgg=true:=by rw[<- hva,abc]
    have L3:VR jP s.H.length w (a.eval xv) (yv.eval G s.T):=by
     rcases kB with h|⟨e,h,_⟩
     ·exact h
     ·rw[h] at F2;cases F2
    obtain⟨QY,QZ⟩:=y8 L3 Q0
    rw[F2] at QY
    refine⟨_,QY,fun j x hj=>?_⟩
    simp only[cond_true,aiW,aiE] at hj
    obtain⟨y,hy,rfl⟩:=hj
    obtain⟨m1,m2⟩:=QZ j y hy
    exact⟨m2,fun _=>m1.dropped,.inl m1.dropped⟩
   | false =>
    have F2:(yv.eval G s.T).isAgg=false:=by rw[<- hva,abc]
    have aeu:vc=[yv.eval G s.T]:=by
     generalize yv.eval G s.T=V at Q0 F2
     cases V<;>first|(cases F2;done)|(injection Q0 with Q0;exact Q0.symm)|(cases Q0;done)
    refine⟨fun _=>a.eval xv,by simp[oc],fun j x hj=>?_⟩
    rw[aeu] at hj
    cases j with
    | succ j=>simp at hj
    | zero =>
     simp at hj
     subst hj
     refine⟨?_,(fun h=>by cases h),kB⟩
     rcases kB with h|⟨e,_,hp,_⟩
     ·exact h.dB (fun cs e=>by rw[e] at F2;cases F2) (fun cs e=>by rw[e] at Q0;cases Q0)
     ·exact hp.dB
  obtain⟨fv,hvv,Q1⟩:=fZ
  have yt:(cond va (vc.map AV.drop) vc).length=vc.length:=by cases va<;>simp
  have aew:va=false->(cond va (vc.map AV.drop) vc).length=1:=fun h=>by rw[yt,WZ];exact hT.vz1 h
  have cm:=O7 (vv:=a.eval xv) hT hk oe hl r6 hb hR hf
  have ad0:a.eval xk=oc ka ks.length (fun j=>(a.eval xk).cells.getD j undef):=by rw[r6,<- hl];exact PS
  have hMA:=Y0 (n:=s.H.length) (l:=l) (fk:=fun j=>(a.eval xk).cells.getD j undef) (fv:=fv) (vc:=cond va (vc.map AV.drop) vc) (o:=oi) nW hκ hS hb hE h1 h2 hl (fun h=>hT.key.kz h) aew
   (fun j x hj=>(QP j x hj).1.iX (aiO.1 UW x (aiT hj))) (fun i hi=>by subst hi;exact uD hf) Q1
  rw[yt,<- ad0,<- hvv] at hMA
  have ud:=CX (E':=(k6 E2 P' oi (a.eval xk) (a.eval xv)).1) (ck':=(k6 E2 P' oi (a.eval xk) (a.eval xv)).2) nW hb hS s.H.length
  rw[hκ] at ud
  have aaq:((tg es oi (kc++cond va (vc.map AV.drop) vc)).all fun r=>r.all (aR l))=true:=by
   have mf:(kc++cond va (vc.map AV.drop) vc).all (aR l)=true:=by
    rw[alk,aiL]
    refine⟨aiO.2 fun x hx=>oH (aiO.1 UW x hx),?_⟩
    cases va with
    | false=>exact U9
    | true =>
     refine aiO.2 fun x hx=>?_
     obtain⟨y,hy,rfl⟩:=ai5.1 hx
     exact mz (aiO.1 U9 y hy)
   refine aiO.2 fun r hr=>?_
   cases oi with
   | none =>
    simp only[tg,aiM,aiY] at hr
    rcases hr with hr|rfl
    ·exact aiO.1 fg r hr
    ·exact mf
   | some i =>
    simp only[tg] at hr
    rcases alf hr with hr|rfl
    ·exact aiO.1 fg r hr
    ·exact mf
  have fC:(qA w (jP.ρ l) (k6 E2 P' oi (a.eval xk) (a.eval xv)).1 (k6 E2 P' oi (a.eval xk) (a.eval xv)).2).heap.size=w.heap.size:=by simp[qA]
  have z7:=nW.uN (o:=.map ks.length ka va (tg es oi (kc++cond va (vc.map AV.drop) vc))) ud a7 (by intro k hk;simp[hk]) (fun b o ho=>by rw[fC];exact nW.l7 b o ho) (fun b hb=>by rw[fC];exact nW.mG b hb) (fun _ _ h=>by cases h) ⟨hMA,aaq⟩ (fun _ _ _ h=>.inl h)
  have hS:=fM s yv
  have vC:Ext s.H.length jP w jP (qA w (jP.ρ l) (k6 E2 P' oi (a.eval xk) (a.eval xv)).1 (k6 E2 P' oi (a.eval xk) (a.eval xv)).2):=⟨ud.mono (fun r h=>by rw[h];simp[nn]),fun b hb=>hb⟩
  have Cm:FR L nt jP _ a ((s.cq yv).dZ ⟨s.H.set l (.map ks.length ka va (tg es oi (kc++cond va (vc.map AV.drop) vc))),l⟩):=uq.grown (by rw[hS.1];exact ud) (fun i=>⟨by simp,by simp,by simp⟩) (by rw[hS.1];simp)
  refine⟨undef,jP,qA w (jP.ρ l) (k6 E2 P' oi (a.eval xk) (a.eval xv)).1 (k6 E2 P' oi (a.eval xk) (a.eval xv)).2,.inr ⟨?_,rfl⟩,?_⟩
  rotate_left
  ·rw[tn]
   exact Out.skip (s1:=(s.cq yv).dZ ⟨s.H.set l (.map ks.length ka va (tg es oi (kc++cond va (vc.map AV.drop) vc))),l⟩) z7 Cm (DM.trans vC (aiK _)) hd
  ·rcases ho with ho|ho<;>simp[execOp,ho,nX,<- hρ,cm]
 ·cases he
end
end
section
section
variable {P:Program}{G:Nat->List AV}{base nt:Nat}{L:List Nat}{gh:Gh}{w w' : World}{a:Act}{s:AS}{H:ag}
theorem AK{o:Oper}{c:Call}{x:Operand}{t:TypeId}(ho:o.op=.call c)(fY:c.callee=.builtin .len)(dw:c.args.toList=[x])(jB:c.argTypes.toList=[t]){v:Value}
  (cm:(Builtin.len_ #[t] o.type #[a.eval x]).run P w=.ok v w'):(execOp a.eval o).run P w=.ok (.value v) w':=by
 have e1:c.args=#[x]:=by apply akM;simpa using dw
 have e2:c.argTypes=#[t]:=by apply akM;simpa using jB
 unfold execOp
 simp only[ho,resolve,fY,e1,e2,invoke,builtin,Sem.run_bind,Sem.run_pure,Result.andThen_ok,akR,aiU,aiX,cm]
theorem SI(hW:aG G base s.H gh w)(hF:FR L nt gh w a s){x:Operand}{y:ak}(hc:ah nt x=some y):(y.addr G s.T=.cw->a.eval x=.map none) /\
  (∀ kz ka va es,y.addr G s.T=.dp kz ka va es->PR gh.S w (a.eval x) (.dp kz ka va es))/\∀ l,y.addr G s.T=.mref l->l<s.H.length/\a.eval x=.map (some (gh.ρ l)):=by
 have hm:=arg_val hW hF hc
 refine⟨fun h=>?_,fun kz ka va es h=>?_,fun l h=>?_⟩
 ·rw[h] at hm
  generalize a.eval x=V at hm
  cases (hm:VR gh s.H.length w V .cw) with
  | plain _ _ h=>cases h;rfl
 ·rw[h] at hm
  generalize a.eval x=V at hm
  cases (hm:VR gh s.H.length w V (.dp _ _ _ _)) with
  | plain _ _ h=>exact h
 ·rw[h] at hm
  exact VR.lQ hm
theorem Lx(hW:aG G base s.H gh w)(hF:FR L nt gh w a s){x:Operand}{y:ak}(hc:ah nt x=some y){kz:Nat}{ka va:Bool}{es:List (List AV)}(h:y.addr G s.T=.mc kz ka va es):PR gh.S w (a.eval x) (.mc kz ka va es):=by
 have hm:=arg_val hW hF hc
 rw[h] at hm
 generalize a.eval x=V at hm
 cases (hm:VR gh s.H.length w V (.mc _ _ _ _)) with
 | plain _ _ h=>exact h
end
end
end Go.Abs
namespace Go.Abs
open Go.ChangeMaps (setBlock)
section
section
variable {P:Program}{G:Nat->List AV}{base nt:Nat}{L:List Nat}{gh:Gh}{w w' : World}{a:Act}{s:AS}{H:ag}
theorem Dd{α:Type}{key:α->Nat} : ∀ (l:List α) (x:α),x∈l->(∀ (i j:Nat) (a b:α),l[i]?=some a->l[j]?=some b->key a=key b->i=j)->l.Perm (x :: l.filter fun y=>decide (key y≠key x))
 | [],x,h,_=>by cases h
 | y :: l,x,h,hd=>by
  have hd' : ∀ (i j:Nat) (a b:α),l[i]?=some a->l[j]?=some b->key a=key b->i=j:=fun i j a b h1 h2 h3=>by
   have:=hd (i+1) (j+1) a b (by simpa using h1) (by simpa using h2) h3
   omega
  by_cases HO:key y=key x
  ·have fg:l.filter (fun z=>decide (key z≠key x))=l:=by
    refine List.filter_eq_self.2 fun z hz=>?_
    obtain⟨j,hj⟩:=ai' hz
    simp only[ai2]
    intro e
    have:=hd 0 (j+1) y z rfl (by simpa using hj) (HO.trans e.symm)
    omega
   have hxe:x=y:=by
    rcases aja.1 h with h|h
    ·exact h
    ·obtain⟨j,hj⟩:=ai' h
     have:=hd 0 (j+1) y x rfl (by simpa using hj) HO
     omega
   subst hxe
   rw[alg,if_neg (by simp),fg]
  ·have hxl:x∈l:=by
    rcases aja.1 h with h|h
    ·subst h;exact absurd rfl HO
    ·exact h
   have ih:=Dd l x hxl hd'
   rw[alg,if_pos (by simpa using HO)]
   exact (List.Perm.cons y ih).trans (List.Perm.swap x y _)
theorem xE(hW:aG G base H gh w){b:Nat}{o:Obj}{w1:World}(W0:w1=w\/w1=w.drew)(a7:b<w.heap.size)(hS:∀ o,¬ gh.S b o)(hnc:∀ C ty fr,w.heap[b]?≠some (.cells C ty fr))(n:Nat):Step (fun r=>r=gh.κ b) n gh w gh (setBlock w1 b o):=by
 have nZ:(setBlock w1 b o).heap=w.heap.setIfInBounds b o:=by rcases W0 with rfl|rfl<;>rfl
 have Ab:∀ b',b'≠b->(setBlock w1 b o).heap[b']?=w.heap[b']?:=fun b' h=>by rw[nZ];simp[aj6 h]
 have cU:∀ b' o,gh.S b' o->b'≠b:=fun b' o h=>by rintro rfl;exact hS o h
 refine⟨fun _ _ h=>h,fun b' o h=>cell_of_heap (Ab b' (cU b' o h)),by rw[nZ];simp,?_,?_,?_,fun b' fF hn=>?_,fun b' fF=>?_,fun _ _=>rfl,fun b' ty m hm=>?_,fun b' E1 c1 hs hm=>?_⟩
 ·rcases W0 with rfl|rfl<;>rfl
 ·rcases W0 with rfl|rfl<;>rfl
 ·rcases W0 with rfl|rfl<;>rfl
 ·have uw:b'≠b:=by rintro rfl;exact hn rfl
  exact⟨.inl (Ab b' uw),rfl,fun _ h=>h⟩
 ·have:w.heap.size<=b':=by first|exact fF|(rw[nZ] at fF;simpa using fF)
  exact hW.bw b' this
 ·obtain⟨C,fr,h1,h2⟩:=hm
  have uw:b'≠b:=by rintro rfl;exact hnc C ty fr h1
  exact⟨C,fr,by rw[Ab b' uw];exact h1,h2⟩
 ·rw[Ab b' (cU b' 0 hs)];exact hm
theorem pO{x:AV}(h:x.plain=true):x.drop=x:=by
 cases x<;>try rfl
 rename_i e own
 cases own
 ·rfl
 ·simp[AV.plain] at h
def Gh.FO(gh:Gh)(b:Nat):Gh:={ gh with S:=fun b' o=>gh.S b' o\/(b'=b/\o=0) }
theorem Gz(hW:aG G base s.H gh w)(hF:FR L nt gh w a s){l kz:Nat}{ka va:Bool}{es:List (List AV)}(hH:s.H[l]?=some (.map kz ka va es))(ux:(es.all fun r=>r.all AV.plain)=true) :
  ∃ jP,aG G base (s.H.set l (.dp kz ka va es)) jP w/\FR L nt jP w a (s.dZ ⟨s.H.set l (.dp kz ka va es),l⟩)/\Ext s.H.length gh w jP w/\jP.ρ l=gh.ρ l/\PR jP.S w (.map (some (gh.ρ l))) (.dp kz ka va es):=by
 have a7:l<s.H.length:=(aiI.1 hH).1
 obtain⟨⟨hκ,hS,E,ck,f,hb,hE,h1,h2⟩,_⟩:=hW.more l _ hH
 have LC:gh.ρ l<w.heap.size:=(aiN.1 hb).1
 have st:∀ n,Step (fun r=>r=.hb l) n gh w (gh.FO (gh.ρ l)) w:=fun n=>by
  refine⟨fun b o h=>.inl h,fun _ _ _=>rfl,aiK _,rfl,rfl,rfl,fun b hb hn=>⟨.inl rfl,rfl,fun o ho=>?_⟩,fun b hb=>hW.bw b hb,fun _ _=>rfl,fun _ _ _ h=>h,fun _ _ _ _ h=>h⟩
  rcases ho with ho|⟨rfl,_⟩
  ·exact ho
  ·exact absurd hκ hn
 have hP:PR (gh.FO (gh.ρ l)).S w (.map (some (gh.ρ l))) (.dp kz ka va es):=by
  refine .dp (gh.ρ l) kz ka va es E ck f (.inr ⟨rfl,rfl⟩) hb hE (fun i j r x hi hj=>?_)
  have hx:=aiO.1 (aiO.1 ux r (aiT hi)) x (aiT hj)
  have hp:PR gh.S w (f i j) x:=by
   by_cases a7:j<kz
   ·exact h1 i j r x hi hj a7
   ·have:=((h2 i j r x hi hj (by omega)).2.2).dropped
    rw[pO hx] at this
    exact this.iX hx
  exact hp.mono (st 0).S (st 0).cell (st 0).mp
 refine⟨gh.FO (gh.ρ l),?_,?_,⟨(st _).mono (fun r h=>by rw[h];exact⟨by simp,by simp⟩),fun b hb=>hb⟩,rfl,hP⟩
 ·refine hW.uN (st _) a7 (by intro k hk;simp[hk]) (fun b o ho=>?_) hW.mG (fun _ _ h=>by cases h) hP (fun b o m ho=>?_)
  ·rcases ho with ho|⟨rfl,_⟩
   ·exact hW.l7 b o ho
   ·exact LC
  ·rcases ho with ho|⟨rfl,rfl⟩
   ·exact .inl ho
   ·exact .inr (fun hc=>by simp[World.cell?,hb] at hc)
 ·exact hF.grown (st _) (fun i=>⟨by simp,by simp,by simp⟩) (by simp)
theorem Dp(hW:aG G base s.H gh w)(hF:FR L nt gh w a s){o:Oper}{kz:Nat}{ka va:Bool}(hd:∀ k,o.dst=some k->k<nt/\k∈L) :
  ∀ (m:Option Nat) (since:Nat) (es:List (List AV)),(execOp a.eval o).run P w=.ok (.value (.pointer (some ⟨w.heap.size,0,none⟩))) (w.alloc (.mapIter m since #[] since)) ->
   ((m=none/\es=[])\/∃ m0 E ck f,m=some m0/\gh.S m0 0/\w.heap[m0]?=some (.map E ck)/\since=ck/\∃ rY:List (List AV),si E ck kz ka va rY f/\es.Perm rY/\(∀ (i j:Nat) (r:List AV) (x:AV),rY[i]?=some r->r[j]?=some x->PR gh.S w (f i j) x)) ->
   ∃ v' aF w',qM P a o w v' w'/\Out G base nt L gh w a s o.dst (.iter s.gen kz ka va [] es) { s with gen:=s.gen+1 } v' aF w':=by
  intro m since es cm hm
  have hp:=dv.alloc w (.mapIter m since #[] since)
  have cU:=qQ o.dst
  have st:=fO hW hp cU (fun _=>False) s.H.length
  have Cl:FR L nt (gh.alloc w.heap.size (DL o.dst) fun _=>False) (w.alloc (.mapIter m since #[] since)) a s:=hF.grown (H':=s.H) (lo':=s.lo) st (fun i=>⟨id,id,fun _=>id⟩) (aiK _)
  have j6:=hW.alloc hp cU (fun _=>False) (fun _ _ h=>h.elim)
  refine⟨.pointer (some ⟨w.heap.size,0,none⟩),_,_,.inl cm,j6,Cl.OI (gen':=s.gen+1) (ajD _) (fun b hb=>j6.bw b hb) o.dst (fun k hk=>(hd k hk).1) (.inr ⟨⟨s.gen,aiK _,rfl⟩,fun k hk=>(hd k hk).2⟩) ?_,lf hW hp cU _ _⟩
  intro k hk
  refine⟨akT _,w.heap.size,rfl,?_⟩
  rw[hk] at st ⊢
  refine⟨by simp[Gh.alloc,DL],?_,m,since,#[],since,hp.new,?_⟩
  ·rintro o (ho|⟨_,ho⟩)
   ·have:=hW.l7 _ o ho;omega
   ·exact ho
  ·rcases hm with ⟨rfl,rfl⟩|⟨m0,E,ck,f,rfl,h1,h2,rfl,rY,h3,hpm,h4⟩
   ·exact .inl ⟨rfl,rfl,rfl,rfl⟩
   ·refine .inr ⟨m0,E,rY,since,f,rfl,st.S _ _ h1,st.mp _ _ _ h1 h2,h3,rfl,rfl,fun i j r x hi hj=>(h4 i j r x hi hj).mono st.S st.cell st.mp,.inl ⟨rfl,rfl⟩,?_⟩
    have:((E.toList.zip rY).filter fun p=>!(#[]:Array Nat).contains p.1.born)=E.toList.zip rY:=List.filter_eq_self.2 fun p _=>by simp
    rw[this]
    have hz:(E.toList.zip rY).map (·.2)=rY:=List.map_snd_zip (by have:=h3.size;simp;omega)
    rw[hz]
    exact hpm
theorem V1(hW:aG G base s.H gh w)(hF:FR L nt gh w a s){o:Oper}{t kt et:TypeId}{x:Operand}{y:ak}{kz:Nat}{ka va:Bool}{z:AV}{s' : Option AS}{cf:cC}(ho:o.op=.range t x)(hc:ah nt x=some y)(ht:P.underlying t=some (.map kt et))
  (he:ai G cf s (.ZJ kz ka va y)=some (z,s')) (hd:∀ k,o.dst=some k->k<nt/\k∈L) :
  ∃ v' aF w',qM P a o w v' w'/\Out G base nt L gh w a s o.dst z (s'.getD s) v' aF w':=by
 obtain⟨m1,m2,m3⟩:=SI hW hF hc
 have key:=Dp (P:=P) hW hF (o:=o) (kz:=kz) (ka:=ka) (va:=va) hd
 simp only[ai] at he
 split at he
 ·rename_i hY
  simp only[aiG,aiH] at he
  obtain⟨rfl,rfl⟩:=he
  refine key none 0 [] ?_ (.inl ⟨rfl,rfl⟩)
  simp[execOp,ho,m1 hY,Instr.range,run_underlying ht,newObj,Sem.run]
 ·rename_i hY
  obtain⟨h0,nY⟩:=ab he
  clear he
  simp only[aiL,dU,ai2,ajq] at h0
  obtain⟨⟨rfl,rfl⟩,rfl⟩:=h0
  simp only[aiG,aiH] at nY
  obtain⟨rfl,rfl⟩:=nY
  have hp:=m2 _ _ _ _ hY
  generalize hA:a.eval x=V at hp
  cases hp with
  | dp b _ _ _ _ E ck f hS hb hE bU =>
   refine key (some b) ck _ ?_ (.inr ⟨b,E,ck,f,rfl,hS,hb,rfl,_,hE.iter,List.Perm.refl _,bU⟩)
   simp[execOp,ho,hA,Instr.range,run_underlying ht,newObj,getObj,Sem.run,hb]
 ·rename_i hY
  obtain⟨h0,nY⟩:=ab he
  clear he
  simp only[aiL,dU,ai2,ajq] at h0
  obtain⟨⟨rfl,rfl⟩,rfl⟩:=h0
  simp only[aiG,aiH] at nY
  obtain⟨rfl,rfl⟩:=nY
  have hp:=Lx hW hF hc hY
  generalize hA:a.eval x=V at hp
  cases hp with
  | mc b _ _ _ _ rY E ck f hS hb hE hpm bU =>
   refine key (some b) ck _ ?_ (.inr ⟨b,E,ck,f,rfl,hS,hb,rfl,_,hE,hpm.symm,bU⟩)
   simp[execOp,ho,hA,Instr.range,run_underlying ht,newObj,getObj,Sem.run,hb]
 ·rename_i l hY
  split at he
  ·rename_i kH kG kQ es hH
   obtain⟨h0,nY⟩:=ab he
   clear he
   simp only[aiL,dU,ai2,ajq] at h0
   obtain⟨⟨⟨rfl,rfl⟩,rfl⟩,ux⟩:=h0
   simp only[aiG,aiH] at nY
   obtain⟨rfl,rfl⟩:=nY
   obtain⟨a7,nX⟩:=m3 l hY
   obtain⟨jP,nW,uq,DM,hρ,hP⟩:=Gz hW hF hH ux
   generalize hV:Value.map (some (gh.ρ l))=V at hP
   cases hP with
   | dp b _ _ _ _ E ck f hS hb hE bU =>
    injection hV with hV
    injection hV with hV
    subst hV
    obtain⟨v',aF,w',k1,k2⟩:=Dp (P:=P) (s:=s.dZ ⟨s.H.set l (.dp kz ka va es),l⟩) nW uq (o:=o) hd (some (gh.ρ l)) ck es (by
     simp[execOp,ho,nX,Instr.range,run_underlying ht,newObj,getObj,Sem.run,hb]) (.inr ⟨_,E,ck,f,rfl,hS,hb,rfl,_,hE.iter,List.Perm.refl _,bU⟩)
    exact⟨v',aF,w',k1,k2.W,k2.F,DM.trans k2.E (by simp[AS.dZ])⟩
  ·cases he
 ·cases he
theorem B' : ∀ (l:List MapEntry) (e:MapEntry),e∈l->(∀ x∈l,x.born=e.born->x=e)->l.find? (fun x=>x.born==e.born)=some e
 | [],e,h,_=>by cases h
 | x :: l,e,h,hu=>by
  rw[List.find?_cons]
  by_cases hx:x.born=e.born
  ·have:=hu x (by simp) hx
   subst this
   simp
  ·have hb:(x.born==e.born)=false:=by simpa using hx
   rw[hb]
   rcases aja.1 h with h|h
   ·subst h;exact absurd rfl hx
   ·exact B' l e h (fun y hy=>hu y (by simp[hy]))
theorem Hp{n:Nat}{va:Bool}{m:Nat}{g:Nat->Value}{cs:List AV}(hm:cs.length=m)(h1:va=false->m=1)(h:∀ (j:Nat) (x:AV),cs[j]?=some x->PR gh.S w (g j) x):VR gh n w (oc va m g) (qe va cs) :=
 On hm h1 (fun j x hj=>⟨VR.dropped (.plain _ _ (h j x hj)),(h j x hj).dB⟩)
theorem BS{n ck kz i:Nat}{ka va:Bool}{E:Array MapEntry}{es:List (List AV)}{f:Nat->Nat->Value}(hE:si E ck kz ka va es f)(bU:∀ (i j:Nat) (r:List AV) (x:AV),es[i]?=some r->r[j]?=some x->PR gh.S w (f i j) x)
  {e:MapEntry} {r:List AV} (he:E[i]?=some e) (hr:es[i]?=some r):VR gh n w e.key (qe ka (r.take kz))/\VR gh n w e.val (qe va (r.drop kz)):=by
 obtain⟨k1,k2,k3,k4,k5⟩:=hE.row i e r he hr
 rw[k4,k5]
 refine⟨Hp (by simp;omega) k2 (fun j x hj=>?_),Hp (by simp) (fun h=>by rw[k3 h];omega) (fun j x hj=>?_)⟩
 ·rw[ai0] at hj
  split at hj
  ·exact bU i j r x hr hj
  ·cases hj
 ·rw[aje] at hj
  exact bU i (kz+j) r x hr hj
theorem H6(hF:FR L nt gh w a s){t g kz:Nat}{ka va:Bool}{cur:List AV}{todo:List (List AV)}(ht:t<nt)(hT:s.T t=.iter g kz ka va cur todo):g<s.gen/\∃ b,dO a t=.pointer (some ⟨b,0,none⟩)/\sf gh w b (.bx t) kz ka va cur todo:=by
 have h:=hF.slot t ht
 rw[hT] at h
 exact h
theorem VZ(hW:aG G base s.H gh w)(hF:FR L nt gh w a s){o:Oper}{it:Operand}{y:ak}{z:AV}{s' : Option AS}{cf:cC}(ho:o.op=.entry it)(hc:ah nt it=some y)(he:ai G cf s (.Zr y)=some (z,s')) :
  s'=none/\∃ v,(execOp a.eval o).run P w=.ok (.value v) w/\ld gh s.H.length nt w s.T s.gen (dO a) v z:=by
 cases y with
 | tmp t =>
  obtain⟨rfl,ht⟩:=ig hc
  simp only[ai] at he
  split at he
  ·rename_i g kz ka va cur todo hT
   obtain⟨h0,he⟩:=ab he
   simp only[aiL,ajg,akk,akX] at h0
   simp only[aiG,aiH] at he
   obtain⟨rfl,rfl⟩:=he
   obtain⟨_,b,hb,_,_,m,since,seen,last,Zy,hm⟩:=H6 hF ht hT
   refine⟨rfl,?_⟩
   rcases hm with ⟨_,_,_,LH⟩|⟨m0,E,es,ck,f,rfl,hS,Kb,hE,rfl,rfl,bU,LH,_⟩
   ·exact absurd LH h0.2
   ·rcases LH with ⟨_,LH⟩|⟨st,i,e,rr,hEi,hbe,adL⟩
    ·exact absurd LH h0.2
    ·obtain⟨v1,v2⟩:=BS (n:=s.H.length) hE bU hEi adL
     have ad4:e∈E.toList:=by
      have:E.toList[i]?=some e:=by rw[ajd];exact hEi
      exact aiT this
     have aaD:E.find? (fun x=>x.born==e.born)=some e:=by
      rw[<- Array.find?_toList]
      refine B' _ e ad4 (fun x hx hxb=>?_)
      obtain⟨j,hj⟩:=ai' hx
      rw[ajd] at hj
      have:=hE.apart j i x e hj hEi hxb
      subst this
      rw[hEi] at hj;injection hj with hj;exact hj.symm
     have nX:a.eval (.tmp t)=.pointer (some ⟨b,0,none⟩):=hb
     refine⟨.tuple #[e.key,e.val],?_,.cD (.tuple _ _ rfl (fun j u x hu hx=>?_))⟩
     ·subst hbe
      simp[execOp,ho,nX,Instr.entry,getObj,Sem.run,Zy]
      simp[rr,Kb,Sem.run,aaD]
     ·match j with
      | 0=>injection hu with hu;injection hx with hx;subst hu hx;exact v1
      | 1=>injection hu with hu;injection hx with hx;subst hu hx;exact v2
      | j+2=>simp at hx
  ·cases he
 | _=>simp only[ai] at he;cases he
theorem Jv{E:Array MapEntry}{es:List (List AV)}{seen:Array Nat}{ck kz i:Nat}{ka va:Bool}{f:Nat->Nat->Value}(hE:si E ck kz ka va es f){e:MapEntry}{r:List AV}(he:E[i]?=some e)(hr:es[i]?=some r)(hs:seen.contains e.born=false) :
  (((E.toList.zip es).filter fun p=>!seen.contains p.1.born).map (·.2)).Perm (r :: ((E.toList.zip es).filter fun p=>!(seen.push e.born).contains p.1.born).map (·.2)):=by
 have hz:(E.toList.zip es)[i]?=some (e,r):=by rw[akq];exact⟨by rw[ajd];exact he,hr⟩
 have h1:=Dd (key:=fun p:MapEntry × List AV=>p.1.born) (E.toList.zip es) (e,r) (aiT hz) (fun j k p q hj hk hpq=>by
  rw[akq,ajd] at hj hk
  exact hE.apart j k p.1 q.1 hj.1 hk.1 hpq)
 have h2:=h1.filter (fun p=>!seen.contains p.1.born)
 rw[alg,if_pos (by show (!seen.contains e.born)=true;rw[hs];rfl),List.filter_filter] at h2
 have h3:=h2.map (·.2)
 rw[aiU] at h3
 refine h3.trans (List.Perm.of_eq ?_)
 congr 2
 refine List.filter_congr fun p _=>?_
 by_cases hp:p.1.born=e.born
 ·simp[hp]
 ·simp[hp]
theorem Qq(hW:aG G base s.H gh w)(hF:FR L nt gh w a s){o:Oper}{it:Operand}{t g kz:Nat}{ka va:Bool}{cur:List AV}{todo:List (List AV)}(ho:o.op=.next it false)(hc:ah nt it=some (.tmp t))(hT:s.T t=.iter g kz ka va cur todo)(hL:t∈L)
  (hd:∀ k,o.dst=some k->k<nt) (K:Act->World->Prop) (Q:Exit->Act->World->Prop)
  (hK0:todo=[]->∀ v' aF w',Out G base nt L gh w a s o.dst (.tuple [.bool false]) s v' aF w'->K (a.put o.dst v') w')
  (hK1:∀ r rest,todo.Perm (r :: rest)->∀ v' aF w',Out G base nt L gh w a s o.dst (.tuple [.bool true,qe ka (r.take kz),qe va (r.drop kz)]) (s.bz t (.iter g kz ka va r rest)) v' aF w'->K (a.put o.dst v') w'):o.wp P a w K Q:=by
 obtain⟨rfl,ht⟩:=ig hc
 obtain⟨hg,b,hb,hκ,hS,m,since,seen,last,Zy,hm⟩:=H6 hF ht hT
 have nX:a.eval (.tmp t)=.pointer (some ⟨b,0,none⟩):=hb
 have LJ:∀ {n:Nat},VR gh n w (.tuple #[.bool false]) (.tuple [.bool false]):=fun {n}=>.tuple _ _ rfl (fun j u x hu hx=>by
  match j with
  | 0=>injection hu with hu;injection hx with hx;subst hu hx;exact .plain _ _ (.bool _)
  | j+1=>simp at hx)
 rcases hm with ⟨rfl,rfl,_,_⟩|⟨m0,E,es,ck,f,rfl,hSm,Kb,hE,rfl,rfl,bU,_,yu⟩
 ·refine qM.wp (.inl ?_) (hK0 rfl (.tuple #[.bool false]) gh w (Out.pure hW hF hd (.cD LJ)))
  simp[execOp,ho,nX,Instr.next,getObj,Sem.run,Zy]
 ·rcases run_next_at (P:=P) w o.type b m0 last last seen E last Zy Kb (fun x hx=>by
   obtain⟨j,hj⟩:=ai' hx
   rw[ajd] at hj
   exact hE.born j x hj) (aiK _) with ⟨hz,cm⟩|⟨e,hem,w1,W0,cm⟩
  ·have Jh:todo=[]:=by
    have hl:((E.toList.zip es).filter fun p=>!seen.contains p.1.born)=[]:=by
     refine List.filter_eq_nil_iff.2 fun p hp cU=>?_
     have hpe:p.1∈E.toList:=(List.of_mem_zip (a:=p.1) (b:=p.2) hp).1
     have:p.1∈(leftOf E seen).toList:=by
      unfold leftOf
      simp only[Array.toList_filter,alm]
      exact⟨hpe,cU⟩
     have h0:(leftOf E seen).toList=[]:=List.eq_nil_of_length_eq_zero (by simpa using hz)
     rw[h0] at this
     cases this
    rw[hl] at yu
    exact yu.eq_nil
   refine qM.wp (.inl ?_) (hK0 Jh (.tuple #[.bool false]) gh w (Out.pure hW hF hd (.cD LJ)))
   simp[execOp,ho,nX,cm]
  ·unfold leftOf at hem
   simp only[Array.toList_filter,alm] at hem
   obtain⟨heE,sQ⟩:=hem
   obtain⟨i,hi⟩:=ai' heE
   rw[ajd] at hi
   have Wy:i<es.length:=by rw[<- hE.size];exact (aiN.1 hi).1
   have hr:es[i]?=some es[i]:=aiJ Wy
   have aea:seen.contains e.born=false:=by simpa using sQ
   have aa9:=Jv hE hi hr aea
   have sN:b<w.heap.size:=(aiN.1 Zy).1
   have st:=xE (o:=.mapIter (some m0) last (seen.push e.born) last) hW W0 sN hS (fun C ty fr h=>by rw[Zy] at h;cases h) s.H.length
   rw[hκ] at st
   have nZ:(setBlock w1 b (.mapIter (some m0) last (seen.push e.born) last)).heap=w.heap.setIfInBounds b (.mapIter (some m0) last (seen.push e.born) last):=by rcases W0 with rfl|rfl<;>rfl
   have fC:(setBlock w1 b (.mapIter (some m0) last (seen.push e.born) last)).heap.size=w.heap.size:=by rw[nZ];simp
   have j6:aG G base s.H gh (setBlock w1 b (.mapIter (some m0) last (seen.push e.born) last)):=hW.step st (fun l=>⟨by simp,by simp⟩) (fun b o h=>by rw[fC];exact hW.l7 b o h) (fun b h=>by rw[fC];exact hW.mG b h) (fun _ _ _ h=>.inl h)
   have hE' : Ext s.H.length gh w gh (setBlock w1 b (.mapIter (some m0) last (seen.push e.born) last)):=⟨st.mono (fun r h=>by rw[h];simp[nn]),fun _ h=>h⟩
   have hIt:sf gh (setBlock w1 b (.mapIter (some m0) last (seen.push e.born) last)) b (.bx t) kz ka va es[i] (((E.toList.zip es).filter fun p=>!(seen.push e.born).contains p.1.born).map (·.2)):=by
    refine⟨hκ,hS,some m0,last,seen.push e.born,last,by rw[nZ];simp[sN],.inr ⟨m0,E,es,last,f,rfl,hSm,st.mp _ _ _ hSm Kb,hE,rfl,rfl,fun i j r x h1 h2=>(bU i j r x h1 h2).mono st.S st.cell st.mp,.inr ⟨e.born,i,e,by simp,hi,rfl,hr⟩,List.Perm.refl _⟩⟩
   have Cl:FR L nt gh (setBlock w1 b (.mapIter (some m0) last (seen.push e.born) last)) a (s.bz t (.iter g kz ka va es[i] (((E.toList.zip es).filter fun p=>!(seen.push e.born).contains p.1.born).map (·.2)))) :=
    hF.bz (H':=s.H) (lo':=s.lo) st (aiK _) (fun i hi=>⟨by simpa using hi,by simp,by simp⟩) (.inl ⟨ht,by rw[hT];rfl⟩) (fun _=>⟨hg,b,hb,hIt⟩)
   obtain⟨v1,v2⟩:=BS (n:=s.H.length) hE bU hi hr
   have hv:VR gh s.H.length (setBlock w1 b (.mapIter (some m0) last (seen.push e.born) last)) (.tuple #[.bool true,e.key,e.val]) (.tuple [.bool true,qe ka (es[i].take kz),qe va (es[i].drop kz)]):=by
    refine .tuple _ _ rfl (fun j u x hu hx=>?_)
    match j with
    | 0=>injection hu with hu;injection hx with hx;subst hu hx;exact .plain _ _ (.bool _)
    | 1=>injection hu with hu;injection hx with hx;subst hu hx;exact v1.mono st (aiK _)
    | 2=>injection hu with hu;injection hx with hx;subst hu hx;exact v2.mono st (aiK _)
    | j+3=>simp at hx
   have hO:Out G base nt L gh w a s o.dst (.tuple [.bool true,qe ka (es[i].take kz),qe va (es[i].drop kz)]) (s.bz t (.iter g kz ka va es[i] (((E.toList.zip es).filter fun p=>!(seen.push e.born).contains p.1.born).map (·.2)))) (.tuple #[.bool true,e.key,e.val]) gh (setBlock w1 b (.mapIter (some m0) last (seen.push e.born) last)) :=
    Out.of (s1:=s.bz t (.iter g kz ka va es[i] (((E.toList.zip es).filter fun p=>!(seen.push e.born).contains p.1.born).map (·.2)))) (gen':=s.gen) j6 Cl hE' (aiK _) hd (.inl rfl) (fun k hk=>l9 rfl (.inl hv))
   refine qM.wp (.inl ?_) (hK1 es[i] _ (yu.trans aa9) (.tuple #[.bool true,e.key,e.val]) gh _ hO)
   simp[execOp,ho,nX,cm]
end
end
end Go.Abs
namespace Go.Abs
section
section
variable {P:Program}{G:Nat->List AV}{base nt:Nat}{L:List Nat}{gh jP:Gh}{w w' : World}{a:Act}{s:AS}{H:ag}
theorem uE{α:Type}{sz:Nat} : ∀ (e:List (List α)) (idx:Nat) (x:α),(∀ r∈e,r.length=sz)->e.flatten[idx]?=some x->∃ i j r,e[i]?=some r/\r[j]?=some x/\idx=i*sz+j
 | [],_,_,_,h=>by simp at h
 | r :: e,idx,x,hr,h=>by
  rw[ajx] at h
  by_cases hl:idx<r.length
  ·rw[ai1 hl] at h;exact⟨0,idx,r,rfl,h,by simp⟩
  ·rw[ai7 (by omega)] at h
   obtain⟨i,j,r',h1,h2,h3⟩:=uE e _ x (fun r h=>hr r (by simp[h])) h
   have:=hr r (by simp)
   exact⟨i+1,j,r',by simpa using h1,h2,by rw[ajj];omega⟩
theorem lK{α:Type}{sz:Nat} : ∀ (e:List (List α)),(∀ r∈e,r.length=sz)->e.flatten.length=e.length*sz
 | [],_=>by simp
 | r :: e,hr=>by
  have:=hr r (by simp)
  have ih:=lK e (fun r h=>hr r (by simp[h]))
  simp only[ajx,List.length_append,List.length_cons,ajj];omega
theorem ru{l m:Nat}{x:AV}(h:fG l x=true)(hl:l<=m):fG m x=true:=by
 cases x<;>first|exact h|(simp only[fG,ajg] at h ⊢;omega)
theorem tN{l m:Nat}{x:AV}(h:jK l x=true)(hl:l<=m):jK m x=true:=by
 unfold jK at h ⊢
 split
 ·exact aiO.2 fun y hy=>ru (aiO.1 h y hy) hl
 ·rename_i hn
  split at h
  ·exact absurd rfl (hn _)
  ·exact ru h hl
theorem Cs{l m:Nat}{x:AV}(h:aR l x=true)(hl:l<=m):aR m x=true:=by
 cases x
 case func f fs cs =>
  simp only[aR,aiL,aiO] at h ⊢
  exact⟨fun y hy=>tN (h.1 y hy) hl,fun y hy=>tN (h.2 y hy) hl⟩
 all_goals first|exact h|(simp only[aR,ajg] at h ⊢;omega)
theorem aG.arr(hW:aG G base H gh w){aF:Gh}{touch:aX->Prop}(st:Step touch H.length gh w aF w'){H' : ag}(hlen:H'.length=H.length)
  (hold:∀ (loc:Nat) (o:de),H'[loc]?=some o->(H[loc]?=some o/\¬ touch (.hb loc)/\∀ j,¬ touch (.hs loc j))\/o=.dead)
  (hs:∀ b o,aF.S b o->gh.S b o) (hk:∀ b,aF.κ b≠.none->base<=b/\b<w'.heap.size) {cs:List AV}
  (hB:fI aF (H.length+1) w' (aF.ρ H.length) (.hb H.length) (fun j=>.hs H.length j) cs) (hr:cs.all (aR H.length)=true):aG G base (H'++[.box cO cs]) aF w':=by
 have last:∀ {loc:Nat} {o:de},(H'++[de.box cO cs])[loc]?=some o->(loc<H.length/\H'[loc]?=some o)\/(loc=H.length/\o=.box cO cs):=by
  intro loc o hl
  by_cases a7:loc<H'.length
  ·rw[ai1 a7] at hl;exact .inl ⟨by omega,hl⟩
  ·rw[ai7 (by omega)] at hl
   have hz:loc=H'.length:=by
    have:=(aiI.1 hl).1
    simp at this;omega
   subst hz
   simp at hl
   exact .inr ⟨hlen,hl.symm⟩
 have hln:(H'++[de.box cO cs]).length=H.length+1:=by simp[hlen]
 refine⟨ajt hW.size st.size,fun b o ho=>ajK (hW.l7 b o (hs b o ho)) st.size,hk,fun g j x hx=>?_,fun loc ty ds hl=>?_,fun loc ty ds hl=>?_,fun g hg=>(hW.uB g hg).imp fun ty h=>st.len g ty _ h,hW.jc st (fun b o m h=>.inl (hs b o h)),fun loc o hl=>?_,fun loc ty ds hl hf=>?_⟩
 ·obtain⟨v,h1,h2,h3⟩:=hW.aP g j x hx
  exact⟨v,(st.cell g j h3).trans h1,h2.mono st.S st.cell st.mp,st.S g j h3⟩
 ·rw[hln]
  rcases last hl with ⟨a7,hl⟩|⟨rfl,ho⟩
  ·rcases hold loc _ hl with ⟨h0,h1,h2⟩|h0
   ·rw[st.ρ loc a7];exact (hW.boxes loc ty ds h0).mono st (ajD _) h1 h2
   ·cases h0
  ·injection ho with e1 e2
   subst e1 e2
   exact hB
 ·rcases last hl with ⟨a7,hl⟩|⟨rfl,ho⟩
  ·rcases hold loc _ hl with ⟨h0,_⟩|h0
   ·exact hW.refs loc ty ds h0
   ·cases h0
  ·injection ho with e1 e2
   subst e1 e2
   exact hr
 ·rw[hln]
  rcases last hl with ⟨a7,hl⟩|⟨rfl,rfl⟩
  ·rcases hold loc _ hl with ⟨h0,h1,h2⟩|rfl
   ·rw[st.ρ loc a7];exact (hW.more loc o h0).mono st (ajD _) h1 h2
   ·trivial
  ·trivial
 ·rcases last hl with ⟨a7,hl⟩|⟨rfl,ho⟩
  ·rcases hold loc _ hl with ⟨h0,_⟩|h0
   ·rw[st.ρ loc a7];exact st.len _ _ _ (hW.types loc ty ds h0 hf)
   ·cases h0
  ·injection ho with e1 e2
   exact absurd e1 hf
def Gh.rename(gh:Gh)(l n b:Nat):Gh where
 S:=gh.S
 κ:=fun x=>match gh.κ x with
  | .hb i=>if i=l then .hb n else .hb i
  | .hs i j=>if i=l then .hs n j else .hs i j
  | k=>k
 ρ:=fun i=>if i=n then b else gh.ρ i
theorem OZ{l n b x:Nat}(h:gh.κ x≠.hb l/\∀ j,gh.κ x≠.hs l j):(gh.rename l n b).κ x=gh.κ x:=by
 simp only[Gh.rename]
 generalize gh.κ x=k at h
 cases k with
 | hb i=>simp only;rw[if_neg (fun e=>h.1 (by rw[e]))]
 | hs i j=>simp only;rw[if_neg (fun e=>h.2 j (by rw[e]))]
 | _=>rfl
theorem tZ{l n b x:Nat} : (gh.rename l n b).κ x=.none↔gh.κ x=.none:=by
 simp only[Gh.rename]
 generalize gh.κ x=k
 cases k with
 | hb i=>simp only;split<;>simp
 | hs i j=>simp only;split<;>simp
 | _=>simp
theorem nJ{l n b x:Nat} : (gh.rename l n b).κ x=.outer↔gh.κ x=.outer:=by
 simp only[Gh.rename]
 generalize gh.κ x=k
 cases k with
 | hb i=>simp only;split<;>simp
 | hs i j=>simp only;split<;>simp
 | _=>simp
def gI(l:Nat)(r:aX):Prop:=r=.hb l\/∃ j,r=.hs l j
theorem Step.renamed{touch:aX->Prop}{m l n b:Nat}(st:Step touch m gh w jP w')(hn:m<=n)(ht:∀ r,touch r->gI l r):Step (gI l) m gh w (jP.rename l n b) w':=by
 refine⟨st.S,st.cell,st.size,st.os,st.tape,st.output,fun x hx j8=>?_,fun x hx=>?_,fun loc hl=>?_,st.len,st.mp⟩
 ·obtain⟨k1,k2,k3⟩:=st.xR x hx (fun h=>j8 (ht _ h))
  refine⟨k1,?_,k3⟩
  rw[OZ (by rw[k2];exact⟨fun h=>j8 (.inl h),fun j h=>j8 (.inr ⟨j,h⟩)⟩),k2]
 ·intro h
  exact st.fresh x hx (nJ.1 h)
 ·show (if loc=n then _ else _)=_
  rw[if_neg (by omega)]
  exact st.ρ loc hl
theorem CR.rename{m m' l n b j:Nat}{v:Value}{x:AV}(h:CR gh m w (.hs l j) v x)(hf:∀ b,w.heap.size<=b->gh.κ b≠.outer)(hm:m<=n)(DP:m<=m'):CR (gh.rename l n b) m' w (.hs n j) v x:=by
 have st:Step (gI l) m gh w (gh.rename l n b) w:=Step.renamed (touch:=fun _=>False) (Step.refl _ _ _ _ hf) hm (fun _ h=>h.elim)
 rcases h with h|⟨e,rfl,h1,b',cap,C,ty,lo,hi,sz,hv,hk,he,hb,hC,hr,hl,hh,hS⟩
 ·exact .inl (h.mono st DP)
 ·exact .inr ⟨e,rfl,h1,b',cap,C,ty,lo,hi,sz,hv,by simp[Gh.rename,hk],he,hb,hC,hr,hl,hh,hS⟩
theorem wR(l:Nat)(i:Nat):¬ gI l (.bx i)/\¬ gI l (.sl i)/\∀ j,¬ gI l (.sc i j):=by
 refine⟨?_,?_,fun j=>?_⟩<;>(rintro (h|⟨_,h⟩)<;>cases h)
theorem AX(l:Nat)(r:aX)(h:gI l r):nn r:=by
 rcases h with rfl|⟨j,rfl⟩<;>exact⟨by simp,by simp⟩
theorem Out.arr(hF:FR L nt gh w a s){d:Option Nat}(hd:∀ k,d=some k->k<nt){aF:Gh}{l:Nat}(st:Step (gI l) s.H.length gh w aF w')(ho:∀ b,aF.κ b=.outer->gh.κ b=.outer){H' : ag}{lo k cap z:Nat}(hlen:H'.length=s.H.length){cs:List AV}
  (hW:aG G base (H'++[.box cO cs]) aF w') (hk:k<=cap) (hz:∃ ty,nq w' (aF.ρ s.H.length) ty (0+cap*z)) :
  Out G base nt L gh w a s d (.sref s.H.length 0 k z) (s.dZ ⟨H'++[.box cO cs],lo⟩) (.slice (some ⟨aF.ρ s.H.length,0,none⟩) k cap) aF w':=by
 have hv:VR aF (H'++[de.box cO cs]).length w' (.slice (some ⟨aF.ρ s.H.length,0,none⟩) k cap) (.sref s.H.length 0 k z):=.sref _ 0 k cap z (by simp[hlen]) hk (fun _=>hz)
 exact⟨hW,hF.put st (wR l) (by simp[hlen]) d hd (.cD hv),⟨st.mono (AX l),ho⟩⟩
theorem ph{sz:Nat}{A:Array Value}{E:List (List AV)}{S:Nat->Nat->Prop}(h:fW S w sz A E){j:Nat}{x:AV}(hx:E.flatten[j]?=some x):∃ v,A[j]?=some v/\PR S w v x:=by
 obtain⟨i,k,r,h1,h2,rfl⟩:=uE E j x (fun r hm=>by obtain⟨i,hi⟩:=ai' hm;exact h.2.1 i r hi) hx
 exact h.2.2 i k r x h1 h2
theorem yK{n:Nat}{p:aX}{V:Value}(h:CR gh n w p V (.slice [] true)):∃ ao,V=.slice ao 0 0:=by
 rcases h with h|⟨e',heq,_,b,cap,C,ty,lo,hi,ia,fZ,hk,cU,_⟩
 ·cases h with
  | plain _ _ h=>cases h
  | full ao k _ h hz =>
   cases h with
   | cB=>exact⟨none,rfl⟩
   | slice b o _ _ ia _ _ hn=>simp at hn;subst hn;exact⟨_,rfl⟩
 ·injection heq with h1;subst h1;exact absurd rfl cU
theorem Ud{t e:TypeId}{sz:Nat}(ht:P.underlying t=some (.slice e))(ao:Option Addr):Src P sz t (.slice ao 0 0) 0 [] w:=by
 refine⟨.inl ⟨_,ht⟩,fun _=>rfl,?_,?_,by simp,fun _ h=>by cases h⟩
 ·cases ao with
  | none=>exact run_firstCells_none w _ 0 0 0
  | some ad=>exact run_firstCells_some w _ 0 ad 0 0 [] (by simp) (fun j v h=>by simp at h)
 ·cases ao with
  | none=>exact run_firstCells_none w.drew _ 0 0 0
  | some ad=>exact run_firstCells_some w.drew _ 0 ad 0 0 [] (by simp) (fun j v h=>by simp at h)
theorem mC{f:List (List AV)}(h:ff f=true){x:AV}(hx:x∈f.flatten):x.plain=true:=by
 obtain⟨r,hr,hx⟩:=List.mem_flatten.1 hx
 exact aiO.1 (aiO.1 h r hr) x hx
theorem j7{x:AV}(h:x.plain=true)(n:Nat):aR n x=true:=oH h
theorem B0(hW:aG G base s.H gh w)(hF:FR L nt gh w a s){o:Oper}{c:Call}{x y:Operand}{t u e:TypeId}{sz bytes:Nat}{yx yy:ak}{z:AV}{s' : Option AS}
  (ho:o.op=.call c) (fY:c.callee=.builtin .append) (dw:c.args.toList=[x,y]) (jB:c.argTypes.toList=[t,u]) (hT:tw P t e sz bytes) (hu:(∃ e',P.underlying u=some (.slice e'))\/P.underlying u=some .string)
  (mb:ah nt x=some yx) (vF:ah nt y=some yy) (he:je s sz bytes (yx.addr G s.T) (yy.eval G s.T)=some (z,s')) (hd:∀ k,o.dst=some k->k<nt) :
  ∃ v' aF w',qM P a o w v' w'/\Out G base nt L gh w a s o.dst z (s'.getD s) v' aF w':=by
 have dK:=fun b hb=>hW.bw (gh:=gh) b hb
 simp only[je,aiF] at he
 obtain⟨f,hf,he⟩:=he
 obtain⟨i,zv,hi,_,rfl,_⟩:=hT.hi
 have fresh:∀ ao,a.eval x=.slice ao 0 0->cond (!f.isEmpty&&b9 i.size bytes [] f&&ff f) (some (AV.sref s.H.length 0 f.length i.size,some (s.dZ ⟨s.H++[.box cO f.flatten],s.H.length⟩))) none=some (z,s') ->
   ∃ v' aF w',qM P a o w v' w'/\Out G base nt L gh w a s o.dst z (s'.getD s) v' aF w':=by
  intro ao hV he
  obtain⟨h0,he⟩:=ab he
  simp only[aiG,aiH] at he
  obtain⟨rfl,rfl⟩:=he
  simp only[aiL,b9,ajg,aiR,Nat.zero_add,akk,akX] at h0
  obtain⟨⟨cU,⟨⟨HB,jA⟩,_⟩,hh⟩,ux⟩:=h0
  obtain⟨news,hs,cy⟩:=pD (P:=P) hW hF vF hf hh hu
  have afF:0<f.length:=akW.2 cU
  obtain⟨qR,C',cm,iu,I',uy⟩:=grow (P:=P) (ty:=o.type) (ao:=ao) (sLen:=0) (sCap:=0) hT (Ud (w:=w) hT.ht ao).cellsD (by simp) hs (by omega) (by omega) (by simpa using HB)
  have kW:dv w (w.drew.alloc (.cells C' e)) (.cells C' e):=.drew w _
  have wN:=fp hW kW
  have st:Step (gI s.H.length) s.H.length gh w (gh.bj w.heap.size s.H.length) (w.drew.alloc (.cells C' e)):=wN.mono (fun _ h=>h.elim)
  have hρ:(gh.bj w.heap.size s.H.length).ρ s.H.length=w.heap.size:=by simp[Gh.bj]
  have aaF:f.flatten.length<=C'.size:=by
   have h1:f.flatten.length=f.length*i.size:=lK f (fun r hm=>by obtain⟨k,hk⟩:=ai' hm;exact cy.2.1 k r hk)
   rw[h1,I']
   exact aiZ _ (by omega)
  have hB:fI (gh.bj w.heap.size s.H.length) (s.H.length+1) (w.drew.alloc (.cells C' e)) ((gh.bj w.heap.size s.H.length).ρ s.H.length) (.hb s.H.length) (fun j=>.hs s.H.length j) f.flatten:=by
   rw[hρ]
   refine⟨by simp[Gh.bj,Gh.alloc],?_,C',e,kW.new,aaF,fun j v x hv hx=>?_⟩
   ·rintro o (ho|⟨_,ho⟩)
    ·have:=hW.l7 _ o ho;omega
    ·exact ho
   ·obtain⟨v',n6,hp⟩:=ph cy hx
    have a7:=(aiN.1 n6).1
    rw[uy j (by simpa using a7)] at hv
    simp only[aj5] at hv
    rw[n6] at hv
    injection hv with hv
    subst hv
    exact⟨hp.dB,.inl (.plain _ _ (hp.mono st.S st.cell st.mp))⟩
  have hr:f.flatten.all (aR s.H.length)=true:=aiO.2 fun x hx=>j7 (mC ux hx) _
  have j6:=hW.arr wN (H':=s.H) rfl (fun loc o h=>.inl ⟨h,id,fun _=>id⟩) (fun b o h=>h.elim id (fun h=>h.2.elim)) (fun b hb=>by
   rw[kW.size]
   have fF:(if b=w.heap.size then aX.hb s.H.length else gh.κ b)≠.none:=hb
   split at fF
   ·have:=hW.size;omega
   ·have:=hW.mG b fF;omega) hB hr
  refine⟨_,gh.bj w.heap.size s.H.length,w.drew.alloc (.cells C' e),.inl (fj ho fY dw jB (by rw[hV];exact cm)),?_⟩
  have:=Out.arr (lo:=s.H.length) (k:=0+f.length) (cap:=qR) (z:=i.size) hF hd st (fun b hb=>(jv hW kW).out b hb) rfl j6 iu ⟨e,by rw[hρ];exact⟨C',(0,0),kW.new,by rw[I',Nat.zero_add]⟩⟩
  rw[hρ,Nat.zero_add] at this
  rw[Nat.zero_add]
  exact this
 split at he
 ·rename_i hx
  have kB:∃ p,CR gh s.H.length w p (a.eval x) (.slice [] true):=by
   cases yx with
   | tmp t0 =>
    obtain⟨rfl,ht⟩:=ig mb
    have Lz:s.T t0=.slice [] true:=by
     simp only[ak.addr] at hx
     split at hx<;>first|cases hx|exact hx
    exact⟨_,zj hF ht Lz⟩
   | a8 v =>
    simp only[ak.addr] at hx
    subst hx
    cases x with
    | tmp k =>
     simp only[ah] at mb
     rcases ajE (Nat.blt k nt) with hb|hb<;>rw[hb] at mb<;>simp at mb
    | const u =>
     simp only[ah,aiE] at mb
     obtain⟨zz,hz,h⟩:=mb
     injection h with h
     subst h
     exact⟨.none,.inl (ik hz)⟩
    | global g=>simp[ah] at mb
    | func f=>simp[ah] at mb
   | aP g=>simp[ak.addr] at hx
   | fn f=>simp[ak.addr] at hx
  obtain⟨_,kB⟩:=kB
  obtain⟨ao,hV⟩:=yK kB
  exact fresh ao hV he
 ·rename_i hx
  exact fresh none (mh hW hF mb hx rfl).jX he
 ·rename_i l of n zz hx
  split at he
  ·rename_i ty cs hH
   obtain⟨h0,he⟩:=ab he
   simp only[aiG,aiH] at he
   obtain⟨rfl,rfl⟩:=he
   simp only[aiL,dU,ai2,ajg] at h0
   obtain⟨⟨⟨⟨⟨⟨rfl,rfl⟩,fq⟩,HB⟩,jA⟩,hh⟩,ux⟩:=h0
   obtain⟨news,hs,cy⟩:=pD (P:=P) hW hF vF hf hh hu
   obtain⟨a7,cap,afM,hzB,hV⟩:=VR.iz (mh hW hF mb hx rfl)
   obtain⟨tyb,Cb,frb,yl,hCb⟩:=hzB (by have:=hT.pos;omega)
   obtain⟨hκ,hS,C,Kn,hb,hle,bH⟩:=hW.boxes l ty cs hH
   rw[hb] at yl
   injection yl with yl
   injection yl with e1 e2 e3
   subst e1 e2 e3
   rw[Nat.zero_add] at hCb
   have rA:(C.toList.take (n*i.size)).length=n*i.size:=by simp;omega
   have hold:∀ {j:Nat} {x:AV},cs[j]?=some x->∃ v,C[j]?=some v/\v.oneCell'=true/\CR gh s.H.length w (.hs l j) v x:=by
    intro j x hj
    have h1:=(aiI.1 hj).1
    have hv:C[j]?=some C[j]:=aiS (by omega)
    obtain⟨k1,k2⟩:=bH j _ x hv hj
    exact⟨_,hv,k1,k2⟩
   have fh:∀ v∈C.toList.take (n*i.size),v.oneCell'=true:=by
    intro v hv
    obtain⟨j,hj⟩:=ai' hv
    have h1:j<n*i.size:=by rw[<- rA];exact (aiI.1 hj).1
    rw[ai0,if_pos h1] at hj
    obtain⟨v',k1,k2,_⟩:=hold (aiJ (show j<cs.length by omega))
    rw[ajd,k1] at hj
    injection hj with hj
    subst hj
    exact k2
   have LZ:Src P i.size t (.slice (some ⟨gh.ρ l,0,none⟩) n cap) n (C.toList.take (n*i.size)) w:=.ofSlice w hT.ht ⟨gh.ρ l,0,none⟩ n cap _ rA (fun j u hj=>by
    rw[addr_add,Nat.zero_add,cell_of_row w _ j C Kn _ hb]
    rw[ai0] at hj
    split at hj
    ·simpa using hj
    ·cases hj) fh
   have og:news.length=f.length*i.size:=hs.newsLen
   have Jd:f.flatten.length=f.length*i.size:=lK f (fun r hm=>by obtain⟨k,hk⟩:=ai' hm;exact cy.2.1 k r hk)
   have hrefs:(cs++f.flatten).all (aR s.H.length)=true:=by
    rw[alk,aiL]
    refine⟨aiO.2 fun x hx=>?_,aiO.2 fun x hx=>j7 (mC ux hx) _⟩
    exact Cs (aiO.1 (hW.refs l ty cs hH) x hx) (by omega)
   have UQ:∀ {touch:aX->Prop},(∀ r,touch r->gI l r)->∀ (loc:Nat) (o:de),(s.H.set l .dead)[loc]?=some o->(s.H[loc]?=some o/\¬ touch (.hb loc)/\∀ j,¬ touch (.hs loc j))\/o=.dead:=by
    intro touch ht loc o h
    rw[ajF] at h
    split at h
    ·injection h with h;exact .inr h.symm
    ·rename_i cU
     refine .inl ⟨h,fun k=>?_,fun j k=>?_⟩
     ·rcases ht _ k with k|⟨_,k⟩
      ·injection k with k;exact cU k.symm
      ·cases k
     ·rcases ht _ k with k|⟨_,k⟩
      ·cases k
      ·injection k with k;exact cU k.symm
   by_cases hgr:cap<n+f.length
   ·
    obtain⟨qR,C',cm,iu,I',uy⟩:=grow (P:=P) (ty:=o.type) hT LZ.cellsD rA hs hgr jA HB
    have kW:dv w (w.drew.alloc (.cells C' e)) (.cells C' e):=.drew w _
    have wN:=fO hW kW (p:=.hb l) (by simp) (fun _=>False) s.H.length
    have st:=wN.renamed (n:=s.H.length) (b:=w.heap.size) (l:=l) (aiK _) (fun _ h=>h.elim)
    have hρ:((gh.alloc w.heap.size (.hb l) fun _=>False).rename l s.H.length w.heap.size).ρ s.H.length=w.heap.size:=by simp[Gh.rename]
    have Wt:∀ b,(w.drew.alloc (.cells C' e)).heap.size<=b->(gh.alloc w.heap.size (.hb l) fun _=>False).κ b≠.outer:=fun b hb=>by
     have hb0:=kW.size ▸ hb
     show (if b=w.heap.size then aX.hb l else gh.κ b)≠_
     rw[if_neg (by omega)]
     exact hW.bw b (by omega)
    have hB:fI ((gh.alloc w.heap.size (.hb l) fun _=>False).rename l s.H.length w.heap.size) (s.H.length+1) (w.drew.alloc (.cells C' e)) (((gh.alloc w.heap.size (.hb l) fun _=>False).rename l s.H.length w.heap.size).ρ s.H.length) (.hb s.H.length) (fun j=>.hs s.H.length j) (cs++f.flatten):=by
     rw[hρ]
     refine⟨by simp[Gh.rename,Gh.alloc],?_,C',e,kW.new,?_,fun j v x hv hx=>?_⟩
     ·rintro o (ho|⟨_,ho⟩)
      ·have:=hW.l7 _ o ho;omega
      ·exact ho
     ·rw[List.length_append,fq,Jd,I',<- ajj]
      exact aiZ _ iu
     ·have hj:j<(C.toList.take (n*i.size)++news).toArray.size:=by
       have:=(aiI.1 hx).1
       rw[List.length_append,fq,Jd] at this
       simp only[aj2,List.length_append,rA,og];exact this
      rw[uy j hj] at hv
      simp only[ai3,aju,rA] at hv
      rw[aju,fq] at hx
      split at hv
      ·rename_i h1
       rw[if_pos h1] at hx
       obtain⟨v',k1,k2,k3⟩:=hold hx
       rw[ai0,if_pos h1,ajd,k1] at hv
       injection hv with hv
       subst hv
       exact⟨k2,(k3.mono wN (aiK _) id).rename Wt (aiK _) (ajD _)⟩
      ·rename_i h1
       rw[if_neg h1] at hx
       obtain⟨v',k1,k2⟩:=ph cy hx
       simp only[ai3] at k1
       rw[k1] at hv
       injection hv with hv
       subst hv
       exact⟨k2.dB,.inl (.plain _ _ (k2.mono st.S st.cell st.mp))⟩
    have j6:=hW.arr st (H':=s.H.set l .dead) (by simp) (UQ (fun _ h=>h)) (fun b o h=>h.elim id (fun h=>h.2.elim)) (fun b hb=>by
     rw[kW.size]
     have HB:(gh.alloc w.heap.size (.hb l) fun _=>False).κ b≠.none:=fun h=>hb (tZ.2 h)
     have fF:(if b=w.heap.size then aX.hb l else gh.κ b)≠.none:=HB
     split at fF
     ·have:=hW.size;omega
     ·have:=hW.mG b fF;omega) hB hrefs
    refine⟨_,(gh.alloc w.heap.size (.hb l) fun _=>False).rename l s.H.length w.heap.size,w.drew.alloc (.cells C' e),.inl (fj ho fY dw jB (by rw[hV];exact cm)),?_⟩
    have:=Out.arr (lo:=l) (k:=n+f.length) (cap:=qR) (z:=i.size) hF hd st (fun b hb=>by
     have HB:=nJ.1 hb
     have fF:(if b=w.heap.size then aX.hb l else gh.κ b)=.outer:=HB
     split at fF
     ·cases fF
     ·exact fF) (by simp) j6 iu ⟨e,by rw[hρ];exact⟨C',(0,0),kW.new,by rw[I',Nat.zero_add]⟩⟩
    rw[hρ] at this
    exact this
   ·
    have lN:n+f.length<=cap:=by omega
    have gY:n*i.size+news.length<=C.size:=by rw[og,hCb,<- ajj];exact aiZ _ lN
    have cm:=room (P:=P) (ty:=o.type) hT hs hb (ajy _) lN gY
    have jR:n*i.size+news.toArray.size<=C.size:=by simpa using gY
    have j8:∀ o,gh.S (gh.ρ l) o->(dE C (n*i.size) news.toArray)[o]?=C[o]?:=fun o ho=>(hS o ho).elim
    have wN:=j0 hW hb (cE jR) j8 s.H.length
    rw[hκ] at wN
    have st:=wN.renamed (n:=s.H.length) (b:=gh.ρ l) (l:=l) (aiK _) (fun r h=>.inl h)
    have hρ:(gh.rename l s.H.length (gh.ρ l)).ρ s.H.length=gh.ρ l:=by simp[Gh.rename]
    have fC:(w.setRow (gh.ρ l) (dE C (n*i.size) news.toArray)).heap.size=w.heap.size:=by simp
    have sN:gh.ρ l<w.heap.size:=(aiN.1 hb).1
    have Wt:∀ b,(w.setRow (gh.ρ l) (dE C (n*i.size) news.toArray)).heap.size<=b->gh.κ b≠.outer:=fun b hb=>hW.bw b (by rw[fC] at hb;exact hb)
    have hB:fI (gh.rename l s.H.length (gh.ρ l)) (s.H.length+1) (w.setRow (gh.ρ l) (dE C (n*i.size) news.toArray)) ((gh.rename l s.H.length (gh.ρ l)).ρ s.H.length) (.hb s.H.length) (fun j=>.hs s.H.length j) (cs++f.flatten):=by
     rw[hρ]
     refine⟨by simp[Gh.rename,hκ],hS,_,Kn,setRow_heap w _ C _ Kn _ hb,?_,fun j v x hv hx=>?_⟩
     ·rw[List.length_append,fq,Jd,cE jR,hCb,<- ajj]
      exact aiZ _ lN
     ·rw[iF jR] at hv
      have Ct:=(aiI.1 hx).1
      rw[List.length_append,fq,Jd] at Ct
      rw[aju,fq] at hx
      simp only[aj2] at hv
      split at hx
      ·rename_i h1
       rw[if_neg (by omega)] at hv
       obtain⟨v',k1,k2,k3⟩:=hold hx
       rw[k1] at hv
       injection hv with hv
       subst hv
       exact⟨k2,(k3.mono wN (aiK _) (by simp)).rename Wt (aiK _) (ajD _)⟩
      ·rename_i h1
       rw[if_pos (by omega)] at hv
       obtain⟨v',k1,k2⟩:=ph cy hx
       rw[k1] at hv
       injection hv with hv
       subst hv
       exact⟨k2.dB,.inl (.plain _ _ (k2.mono st.S st.cell st.mp))⟩
    have j6:=hW.arr st (H':=s.H.set l .dead) (by simp) (UQ (fun _ h=>h)) (fun b o h=>h) (fun b hb=>by
     rw[fC]
     exact hW.mG b (fun h=>hb (tZ.2 h))) hB hrefs
    refine⟨_,gh.rename l s.H.length (gh.ρ l),w.setRow (gh.ρ l) (dE C (n*i.size) news.toArray),.inl (fj ho fY dw jB (by rw[hV];exact cm)),?_⟩
    have:=Out.arr (lo:=l) (k:=n+f.length) (cap:=cap) (z:=i.size) hF hd st (fun b hb=>nJ.1 hb) (by simp) j6 lN ⟨Kn,by rw[hρ];exact⟨_,(0,0),setRow_heap w _ C _ Kn _ hb,by rw[cE jR,hCb,Nat.zero_add]⟩⟩
    rw[hρ] at this
    exact this
  ·cases he
 ·cases he
theorem FG(hW:aG G base s.H gh w)(hF:FR L nt gh w a s){o:Oper}{c:Call}{x y:Operand}{t u e:TypeId}{sz bytes:Nat}{yx yy:ak}{z:AV}{s' : Option AS}
  (ho:o.op=.call c) (fY:c.callee=.builtin .append) (dw:c.args.toList=[x,y]) (jB:c.argTypes.toList=[t,u]) (hT:tw P t e sz bytes) (hu:(∃ e',P.underlying u=some (.slice e'))\/P.underlying u=some .string)
  (mb:ah nt x=some yx) (vF:ah nt y=some yy) (he:jr s sz bytes (yx.addr G s.T) (yy.eval G s.T)=some (z,s')) (hd:∀ k,o.dst=some k->k<nt) :
  ∃ v' aF w',qM P a o w v' w'/\Out G base nt L gh w a s o.dst z (s'.getD s) v' aF w':=by
 unfold jr at he
 split at he
 ·rename_i v hn
  simp only[aiG,aiH] at he
  obtain⟨rfl,rfl⟩:=he
  obtain⟨i,zv,hi,_,rfl,_⟩:=hT.hi
  have L4:((∃ o,yy.eval G s.T=.slice [] o)\/yy.eval G s.T=.ay)->∃ news,Src P i.size u (a.eval y) 0 news w:=by
   rintro (⟨o,hY⟩|hY)
   ·obtain⟨news,k1,_⟩:=pD (P:=P) (sz:=i.size) (f:=[]) hW hF vF (by rw[hY];rfl) rfl hu
    exact⟨news,k1⟩
   ·rw[(bS hW hF vF hY rfl).jX]
    refine⟨[],hu,fun _=>rfl,run_firstCells_none w _ 0 0 0,run_firstCells_none w.drew _ 0 0 0,by simp,fun _ h=>by cases h⟩
  have key:(∃ ao,a.eval x=.slice ao 0 0/\VR gh s.H.length w (a.eval x) v)/\((∃ o,yy.eval G s.T=.slice [] o)\/yy.eval G s.T=.ay):=by
   generalize hY:yy.eval G s.T=Y at hn
   generalize hX:yx.addr G s.T=X at hn
   unfold OB at hn
   split at hn
   ·have mF:∃ ao,a.eval x=.slice ao 0 0:=by
     have kB:∃ p,CR gh s.H.length w p (a.eval x) (.slice [] true):=by
      cases yx with
      | tmp t0 =>
       obtain⟨rfl,ht⟩:=ig mb
       have Lz:s.T t0=.slice [] true:=by
        simp only[ak.addr] at hX
        split at hX<;>first|cases hX|exact hX
       exact⟨_,zj hF ht Lz⟩
      | a8 v =>
       simp only[ak.addr] at hX
       subst hX
       cases x with
       | tmp k =>
        simp only[ah] at mb
        rcases ajE (Nat.blt k nt) with hb|hb<;>rw[hb] at mb<;>simp at mb
       | const u =>
        simp only[ah,aiE] at mb
        obtain⟨zz,hz,h⟩:=mb
        injection h with h
        subst h
        exact⟨.none,.inl (ik hz)⟩
       | global g=>simp[ah] at mb
       | func f=>simp[ah] at mb
      | aP g=>simp[ak.addr] at hX
      | fn f=>simp[ak.addr] at hX
     obtain⟨_,kB⟩:=kB
     exact yK kB
    obtain⟨ao,Kc⟩:=mF
    have L3:=mh hW hF mb hX rfl
    split at hn
    ·injection hn with hn;subst hn;exact⟨⟨ao,Kc,L3⟩,.inl ⟨_,rfl⟩⟩
    ·injection hn with hn;subst hn;exact⟨⟨ao,Kc,L3⟩,.inr rfl⟩
    ·cases hn
   ·have L3:=mh hW hF mb hX rfl
    split at hn
    ·injection hn with hn;subst hn;exact⟨⟨none,L3.jX,L3⟩,.inl ⟨_,rfl⟩⟩
    ·injection hn with hn;subst hn;exact⟨⟨none,L3.jX,L3⟩,.inr rfl⟩
    ·cases hn
   ·cases hn
  obtain⟨W3,hyc⟩:=key
  have L4:=L4 hyc
  obtain⟨ao,hV,hv⟩:=W3
  obtain⟨news,hs⟩:=L4
  have hnn:news=[]:=by have:=hs.newsLen;simp at this;exact this
  subst hnn
  refine⟨a.eval x,gh,w,.inl (fj ho fY dw jB ?_),Out.pure hW hF hd (.cD hv)⟩
  rw[hV]
  exact run_append_nothing w t u o.type e i hT.ht hi ao 0 0 (aiK _) _ hs
 ·exact B0 hW hF ho fY dw jB hT hu mb vF he hd
theorem B3(hW:aG G base s.H gh w)(hF:FR L nt gh w a s){o:Oper}{t e:TypeId}{len sz:Nat}{parts:Array (Nat × Operand)}{z:List AV}{E:List (List AV)}{ps:List (Nat × ak)}
  (ho:o.op=.buildSlice t len parts) (hu:P.underlying t=some (.slice e)) (hs:da P e=some sz) (hz:fD P e=some z) (hp:jo nt parts.toList=some ps)
  (Ad:len*sz<=16777216) (Q3:z.length=sz) (xA:0<sz) (ux:ff E=true)
  (he:bL sz (List.replicate len (z.map AV.drop)) (ps.map fun p=>(p.1,(p.2.eval G s.T).drop))=some E) (hd:∀ k,o.dst=some k->k<nt) :
  ∃ v' aF w',qM P a o w v' w'/\Out G base nt L gh w a s o.dst (.sref s.H.length 0 E.length sz) (s.dZ ⟨s.H++[.box cO E.flatten],s.H.length⟩) v' aF w':=by
 obtain⟨C',cm,cy,tO⟩:=tV (P:=P) hW hF hu hs hz hp Ad Q3 xA he
 have kW:=dv.alloc w (.cells C' e)
 have wN:=fp hW kW
 have st:Step (gI s.H.length) s.H.length gh w (gh.bj w.heap.size s.H.length) (w.alloc (.cells C' e)):=wN.mono (fun _ h=>h.elim)
 have hρ:(gh.bj w.heap.size s.H.length).ρ s.H.length=w.heap.size:=by simp[Gh.bj]
 have Jd:E.flatten.length=E.length*sz:=lK E (fun r hm=>by obtain⟨k,hk⟩:=ai' hm;exact cy.2.1 k r hk)
 have hB:fI (gh.bj w.heap.size s.H.length) (s.H.length+1) (w.alloc (.cells C' e)) ((gh.bj w.heap.size s.H.length).ρ s.H.length) (.hb s.H.length) (fun j=>.hs s.H.length j) E.flatten:=by
  rw[hρ]
  refine⟨by simp[Gh.bj,Gh.alloc],?_,C',e,kW.new,by rw[Jd,cy.1];exact aiK _,fun j v x hv hx=>?_⟩
  ·rintro o (ho|⟨_,ho⟩)
   ·have:=hW.l7 _ o ho;omega
   ·exact ho
  ·obtain⟨v',n6,hp⟩:=ph cy hx
   rw[n6] at hv
   injection hv with hv
   subst hv
   exact⟨hp.dB,.inl (.plain _ _ (hp.mono st.S st.cell st.mp))⟩
 have hr:E.flatten.all (aR s.H.length)=true:=aiO.2 fun x hx=>j7 (mC ux hx) _
 have j6:=hW.arr wN (H':=s.H) rfl (fun loc o h=>.inl ⟨h,id,fun _=>id⟩) (fun b o h=>h.elim id (fun h=>h.2.elim)) (fun b hb=>by
  rw[kW.size]
  have fF:(if b=w.heap.size then aX.hb s.H.length else gh.κ b)≠.none:=hb
  split at fF
  ·have:=hW.size;omega
  ·have:=hW.mG b fF;omega) hB hr
 refine⟨.slice (some ⟨w.heap.size,0,none⟩) len len,gh.bj w.heap.size s.H.length,w.alloc (.cells C' e),.inl ?_,?_⟩
 ·have:(parts.map fun x=>(x.1,a.eval x.2))=parts.map fun p=>(p.1,a.eval p.2):=rfl
  simp[execOp,ho,cm]
 ·have:=Out.arr (lo:=s.H.length) (k:=E.length) (cap:=len) (z:=sz) hF hd st (fun b hb=>(jv hW kW).out b hb) rfl j6 (akj tO) ⟨e,by rw[hρ];exact⟨_,(0,0),kW.new,by rw[cy.1,tO,Nat.zero_add]⟩⟩
  rw[hρ,<- tO] at this
  rw[<- tO]
  exact this
theorem Ld(hW:aG G base s.H gh w)(hF:FR L nt gh w a s){o:Oper}{t e:TypeId}{i:TypeInfo}{zv:Value}{zero:List AV}{x y:Operand}{yx:ak}{z:AV}{s' : Option AS}
  (ho:o.op=.makeSlice t x y) (HO:AM x y=true) (ht:P.underlying t=some (.slice e)) (hi:P.info? e=some i) (hz:i.zero=some zv) (ZH:cY zv.cells.toList=some zero) (hzs:zv.cells.size=i.size) (xA:0<i.size)
  (mb:ah nt x=some yx) (he:pg s i.size i.bytes (zero.map AV.drop) (yx.eval G s.T)=some (z,s')) (hd:∀ k,o.dst=some k->k<nt) :
  ∃ v' aF w',qM P a o w v' w'/\Out G base nt L gh w a s o.dst z (s'.getD s) v' aF w':=by
 simp only[pg,aiF] at he
 obtain⟨k,hk,he⟩:=he
 obtain⟨h0,he⟩:=ab he
 simp only[aiG,aiH] at he
 obtain⟨rfl,rfl⟩:=he
 simp only[aiL,ajg] at h0
 obtain⟨HB,jA⟩:=h0
 obtain⟨kd,Jf⟩:=jk hW hF mb hk
 have hyx:a.eval y=a.eval x:=by
  cases x<;>cases y<;>simp only[AM] at HO<;>try (cases HO;done)
  rw[ajG HO]
 have cm:=run_make (P:=P) w t e i zv ht hi hz kd kd (k:Int) (k:Int) (by omega) (by omega) (by
  have:(i.bytes:Int)*k=((k*i.bytes:Nat):Int):=by rw[ak1];simp
  rw[this];omega) (by omega)
 have kW:dv w (w.alloc (.cells (madeCells zv.cells (k*i.size)) e)) (.cells (madeCells zv.cells (k*i.size)) e):=.alloc w _
 have wN:=fp hW kW
 have st:Step (gI s.H.length) s.H.length gh w (gh.bj w.heap.size s.H.length) (w.alloc (.cells (madeCells zv.cells (k*i.size)) e)):=wN.mono (fun _ h=>h.elim)
 have hρ:(gh.bj w.heap.size s.H.length).ρ s.H.length=w.heap.size:=by simp[Gh.bj]
 obtain⟨Q3,L5⟩:=iS (gh:=gh) (n:=s.H.length) (w:=w) ZH
 have abk:zero.length=i.size:=by rw[<- hzs];simpa using Q3.symm
 have U6:∀ r∈List.replicate k (zero.map AV.drop),r.length=i.size:=fun r hr=>by rw[ak0 hr];simpa using abk
 have Jd:(List.replicate k (zero.map AV.drop)).flatten.length=k*i.size:=by rw[lK _ U6];simp
 have ux:∀ x,x∈(List.replicate k (zero.map AV.drop)).flatten->x.plain=true:=by
  intro x hx
  obtain⟨r,hr,hx⟩:=List.mem_flatten.1 hx
  rw[ak0 hr] at hx
  obtain⟨y,hy,rfl⟩:=ai5.1 hx
  exact lD ZH y hy
 have hB:fI (gh.bj w.heap.size s.H.length) (s.H.length+1) (w.alloc (.cells (madeCells zv.cells (k*i.size)) e)) ((gh.bj w.heap.size s.H.length).ρ s.H.length) (.hb s.H.length) (fun j=>.hs s.H.length j) (List.replicate k (zero.map AV.drop)).flatten:=by
  rw[hρ]
  refine⟨by simp[Gh.bj,Gh.alloc],?_,_,e,kW.new,by rw[Jd,size_madeCells];exact aiK _,fun j v x hv hx=>?_⟩
  ·rintro o (ho|⟨_,ho⟩)
   ·have:=hW.l7 _ o ho;omega
   ·exact ho
  ·obtain⟨m,q,r,h1,h2,rfl⟩:=uE _ j x U6 hx
   have hr:r=zero.map AV.drop:=ak0 (aiT h1)
   subst hr
   have hq:q<i.size:=by rw[<- abk];simpa using (aiI.1 h2).1
   simp only[aiW,aiE] at h2
   obtain⟨y,hy,rfl⟩:=h2
   have Ct:=(aiN.1 hv).1
   rw[size_madeCells] at Ct
   simp only[madeCells,Array.getElem?_map,Array.getElem?_range,if_pos Ct,aiV,aiG] at hv
   have WE:(m*i.size+q) % zv.cells.size=q:=by rw[hzs,ak1,Nat.mul_add_mod,Nat.mod_eq_of_lt hq]
   rw[WE] at hv
   have hqz:q<zv.cells.size:=by omega
   have hc:zv.cells[q]?=some zv.cells[q]:=aiS hqz
   have QZ:v=zv.cells[q]:=by rw[<- hv];exact getElem!_pos zv.cells q hqz
   subst QZ
   obtain⟨k1,k2⟩:=L5 q _ y (by rw[ajd];exact hc) hy
   exact⟨k2,.inl ((k1.dropped).mono st (ajD _))⟩
 have hr:(List.replicate k (zero.map AV.drop)).flatten.all (aR s.H.length)=true:=aiO.2 fun x hx=>j7 (ux x hx) _
 have j6:=hW.arr wN (H':=s.H) rfl (fun loc o h=>.inl ⟨h,id,fun _=>id⟩) (fun b o h=>h.elim id (fun h=>h.2.elim)) (fun b hb=>by
  rw[kW.size]
  have fF:(if b=w.heap.size then aX.hb s.H.length else gh.κ b)≠.none:=hb
  split at fF
  ·have:=hW.size;omega
  ·have:=hW.mG b fF;omega) hB hr
 refine⟨.slice (some ⟨w.heap.size,0,none⟩) k k,gh.bj w.heap.size s.H.length,w.alloc (.cells (madeCells zv.cells (k*i.size)) e),.inl ?_,?_⟩
 ·have e1:(k:Int).toNat=k:=by simp
  rw[e1] at cm
  simp only[execOp,ho,hyx,Jf]
  simp[cm]
 ·have:=Out.arr (lo:=s.H.length) (k:=k) (cap:=k) (z:=i.size) hF hd st (fun b hb=>(jv hW kW).out b hb) rfl j6 (aiK _) ⟨e,by rw[hρ];exact⟨_,(0,0),kW.new,by rw[size_madeCells,Nat.zero_add]⟩⟩
  rw[hρ] at this
  exact this
end
end
section
section
variable {P:Program}{G:Nat->List AV}{base nt:Nat}{L:List Nat}{gh jP:Gh}{w w' : World}{a:Act}{s:AS}{H:ag}
theorem Qr(hW:aG G base s.H gh w)(hF:FR L nt gh w a s){o:Oper}{op:BinOp}{t u:TypeId}{x y:Operand}{ix:ak}{neg b:Bool}
  (ho:o.op=.binOp op t x y u) (hc:ah nt x=some ix) (hn:GF P op t y=some neg) (he:Oz (ix.eval G s.T)=some b) :
  ∃ v,(execOp a.eval o).run P w=.ok (.value v) w/\ld gh s.H.length nt w s.T s.gen (dO a) v (.bool (neg != b)):=by
 unfold GF at hn
 split at hn
 ·rename_i e hu
  have hx:∃ ad n c,a.eval x=.slice ad n c/\ad.isNone=b:=by
   generalize hX:ix.eval G s.T=X at he
   unfold Oz at he
   split at he
   ·injection he with he
    subst he
    have hv:=bS hW hF hc hX rfl
    generalize a.eval x=V at hv
    cases hv with
    | plain _ _ h=>cases h;exact⟨_,_,_,rfl,rfl⟩
   ·injection he with he
    subst he
    rename_i r es own
    have hp:=(bS hW hF hc hX rfl).ga
    generalize a.eval x=V at hp
    cases hp with
    | slice b of n cap sz _ f hn iu br bH bU=>exact⟨_,_,_,rfl,rfl⟩
   ·cases he
  obtain⟨ad,n,c,hA,hb⟩:=hx
  have hg:(eqGuard op t x (.const (.slice none 0 0)) (.slice ad n c) (.slice none 0 0)).run P w=.ok () w:=dH (by intro c;simp) (.inl (by simp))
  split at hn
  ·injection hn with hn
   subst hn
   have hr:=Lib.run_eql_slice_nil w t e ad n c 0 0 hu
   refine⟨.bool ad.isNone,?_,.cD (.plain _ _ ?_)⟩
   ·simp only[execOp,ho,hA,show a.eval (.const (.slice none 0 0))=.slice none 0 0 from rfl,Sem.run_bind,hg,hr,Result.andThen_ok,Sem.run_pure]
   ·rw[hb];cases b<;>exact .bool _
  ·injection hn with hn
   subst hn
   have hr:=run_neq_slice_nil_any w t e ad n c 0 0 hu
   refine⟨.bool (!ad.isNone),?_,.cD (.plain _ _ ?_)⟩
   ·simp only[execOp,ho,hA,show a.eval (.const (.slice none 0 0))=.slice none 0 0 from rfl,Sem.run_bind,hg,hr,Result.andThen_ok,Sem.run_pure]
   ·rw[hb];cases b<;>exact .bool _
  ·cases hn
 ·cases hn
theorem Qk(hW:aG G base s.H gh w)(hF:FR L nt gh w a s){o:Oper}{t:TypeId}{x:Operand}{y:ak}{cs:List AV}(ho:o.op=.box t x)(hc:ah nt x=some y)(fq:(y.eval G s.T).drop.cells=some cs)
  (hd:∀ k,o.dst=some k->k<nt) :
  ∃ v' aF w',qM P a o w v' w'/\Out G base nt L gh w a s o.dst (.ref s.H.length 0) (s.dZ ⟨s.H++[.dL (cs.map AV.drop)],s.H.length⟩) v' aF w':=by
 have br:=(nf hW hF hc cs fq).dropped
 have hp:dv w (w.alloc (.cells (a.eval x).cells t)) (.cells (a.eval x).cells t):=.alloc w _
 have st:=fp hW hp
 have hρ:(gh.bj w.heap.size s.H.length).ρ s.H.length=w.heap.size:=by simp[Gh.bj]
 have hB:fI (gh.bj w.heap.size s.H.length) (s.H.length+1) (w.alloc (.cells (a.eval x).cells t)) w.heap.size (.hb s.H.length) (fun j=>.hs s.H.length j) (cs.map AV.drop):=by
  refine⟨by simp[Gh.bj,Gh.alloc],?_,_,t,hp.new,akj br.1.symm,fun j v x hv hx=>?_⟩
  ·rintro o (ho|⟨_,ho⟩)
   ·have:=hW.l7 _ o ho;omega
   ·exact ho
  ·obtain⟨h1,h2⟩:=br.2 j v x hv hx
   exact⟨h2,.inl (h1.mono st (ajD _))⟩
 have hv:VR (gh.bj w.heap.size s.H.length) (s.H++[de.dL (cs.map AV.drop)]).length (w.alloc (.cells (a.eval x).cells t)) (.pointer (some ⟨w.heap.size,0,none⟩)) (.ref s.H.length 0):=by
  have:=VR.ref (gh:=gh.bj w.heap.size s.H.length) (w:=w.alloc (.cells (a.eval x).cells t)) (n:=(s.H++[de.dL (cs.map AV.drop)]).length) s.H.length 0 (by simp)
  rw[hρ] at this;exact this
 refine⟨_,_,_,.inl ?_,⟨hW.Dj hp (fun _ _ h=>by cases h) hB,hF.put st (fun i=>⟨id,id,fun _=>id⟩) (by simp) o.dst hd (.cD hv),jv hW hp⟩⟩
 simp[execOp,ho,Instr.box,newVar,newRow]
theorem pT{o:Oper}{c:Call}{x y:Operand}{t u:TypeId}(ho:o.op=.call c)(fY:c.callee=.builtin .copy)(dw:c.args.toList=[x,y])(jB:c.argTypes.toList=[t,u]){v:Value}
  (cm:(Builtin.copy_ #[t,u] o.type #[a.eval x,a.eval y]).run P w=.ok v w'):(execOp a.eval o).run P w=.ok (.value v) w':=by
 have e1:c.args=#[x,y]:=by apply akM;simpa using dw
 have e2:c.argTypes=#[t,u]:=by apply akM;simpa using jB
 unfold execOp
 simp only[ho,resolve,fY,e1,e2,invoke,builtin,Sem.run_bind,Sem.run_pure,Result.andThen_ok,akR,aiU,aiX,cm]
theorem Dm{k j j' : Nat}(h:(List.range k)[j]?=some j'):j<k/\j'=j:=by
 rw[aiI] at h
 obtain⟨h1,h2⟩:=h
 simp at h1 h2
 exact⟨h1,h2.symm⟩
theorem KW{n:Nat}{V:Value}{f:List (List AV)}(h:PR gh.S w V (.slice f false))(hh:fR 1 f=true){k:Nat}(hk:k<=f.length) :
  ∃ (ad:Option Addr) (ln cp:Nat) (pJ:List Value),V=.slice ad ln cp/\ln=f.length/\pJ.length=k/\(0<k->∃ q,ad=some q/\∀ j v,pJ[j]?=some v->w.cell? (q.add j)=some v)/\(∀ r∈f.take k,r.length=1) /\
   ∀ (j:Nat) (u:Value) (x:AV),pJ[j]?=some u->((f.take k).flatten)[j]?=some x->u.oneCell'=true/\PR gh.S w u x:=by
 cases h with
 | cB =>
  simp only[aiR,Nat.le_zero] at hk
  subst hk
  exact⟨none,0,0,[],rfl,rfl,rfl,fun h=>absurd h (by omega),fun r hm=>by simp at hm,fun j u x h=>by simp at h⟩
 | slice b of ln cap sz _ g hn iu br bH bU =>
  have fC:f≠[]->sz=1:=fun cU=>vG hh br cU
  have acm:∀ (i:Nat) (r:List AV),f[i]?=some r->r.length=1:=fun i r hi=>by
   rw[br i r hi,fC (by rintro rfl;simp at hi)]
  have vat:∀ j,j<k->∃ r x,f[j]?=some r/\r[0]?=some x:=fun j hj=>by
   have hr:=aiJ (show j<f.length by omega)
   exact⟨_,_,hr,aiJ (by rw[acm _ _ hr];exact Nat.one_pos)⟩
  have cy:∀ r∈f.take k,r.length=1:=fun r hm=>by
   obtain⟨i,hi⟩:=ai' (ajR hm);exact acm i r hi
  refine⟨some ⟨b,of,none⟩,ln,cap,(List.range k).map fun j=>g j 0,rfl,hn.symm,by simp,fun _=>⟨_,rfl,fun j v hv=>?_⟩,cy,fun j u x hu hx=>?_⟩
  ·simp only[aiW,aiE] at hv
   obtain⟨j',rZ,rfl⟩:=hv
   obtain⟨a7,rfl⟩:=Dm rZ
   obtain⟨r,x,h1,h2⟩:=vat _ a7
   obtain⟨_,k2,_⟩:=bH _ 0 r x h1 h2
   rw[fC (by rintro rfl;simp at h1),akf,aki] at k2
   rw[addr_add];exact k2
  ·simp only[aiW,aiE] at hu
   obtain⟨j',rZ,rfl⟩:=hu
   obtain⟨a7,rfl⟩:=Dm rZ
   obtain⟨i,q,r,e1,e2,e3⟩:=uE (f.take k) _ x cy hx
   have hq:q=0:=by
    have:=(aiI.1 e2).1
    rw[cy r (aiT e1)] at this;omega
   subst hq
   rw[akf,aki] at e3
   subst e3
   have e1' : f[j']?=some r:=by
    rw[ai0,if_pos a7] at e1
    exact e1
   exact⟨(bH _ 0 r x e1' e2).2.2,bU _ 0 r x e1' e2⟩
theorem K'(hW:aG G base s.H gh w)(hF:FR L nt gh w a s){o:Oper}{c:Call}{x y:Operand}{t u e:TypeId}{yx yy:ak}{z:AV}{s' : Option AS}
  (ho:o.op=.call c) (fY:c.callee=.builtin .copy) (dw:c.args.toList=[x,y]) (jB:c.argTypes.toList=[t,u]) (hu:P.underlying t=some (.slice e)) (hs:da P e=some 1)
  (mb:ah nt x=some yx) (vF:ah nt y=some yy) (he:kT s (yx.addr G s.T) (yy.eval G s.T)=some (z,s')) (hd:∀ k,o.dst=some k->k<nt) :
  ∃ v' aF w',qM P a o w v' w'/\Out G base nt L gh w a s o.dst z (s'.getD s) v' aF w':=by
 have fC:(P.info? e).map (·.size)=some 1:=hs
 have hm:=arg_val hW hF mb
 unfold kT at he
 split at he
 ·
  rename_i l o0 n zz f own hX hY
  rw[hX] at hm
  obtain⟨a7,cap,hk,_,hA⟩:=VR.iz (hm:VR gh s.H.length w (a.eval x) (.sref l o0 n zz))
  have hp:=(bS hW hF vF hY rfl).ga
  split at he
  ·rename_i cs hH
   obtain⟨h0,nY⟩:=ab he
   clear he
   simp only[aiG,aiH] at nY
   obtain⟨rfl,rfl⟩:=nY
   simp only[aiL,dU,ai2,ajg] at h0
   obtain⟨⟨⟨rfl,hh⟩,ux⟩,gY⟩:=h0
   obtain⟨hκ,hS,C,ty,hb,hC,fq⟩:=(hW.more l _ hH:fI gh s.H.length w (gh.ρ l) (.hb l) (fun j=>.hs l j) cs)
   have yq:Nat.min f.length n<=f.length:=Nat.min_le_left _ _
   have hkn:Nat.min f.length n<=n:=Nat.min_le_right _ _
   obtain⟨ad,ln,cp,pJ,hV,hln,WZ,hq,U4,bU⟩:=KW (n:=0) hp hh yq
   generalize Zz:Nat.min f.length n=k at *
   have fh:∀ u∈pJ,u.oneCell'=true:=by
    intro u hu
    obtain⟨j,hj⟩:=ai' hu
    have Ct:j<k:=by rw[<- WZ];exact (aiI.1 hj).1
    have Jd:(f.take k).flatten.length=k:=by rw[lK _ U4];simp;omega
    exact (bU j u _ hj (aiJ (by rw[Jd];exact Ct))).1
   have LL:o0+pJ.toArray.size<=C.size:=by simp;omega
   have cm:(Builtin.copy_ #[t,u] o.type #[a.eval x,a.eval y]).run P w=.ok (.int .i64 (k:Int)) (w.setRow (gh.ρ l) (dE C o0 pJ.toArray)):=by
    rw[hA,hV]
    by_cases Wz:k=0
    ·have hv0:pJ=[]:=akv.1 (by omega)
     have F9:dE C o0 (#[]:Array Value)=C:=by simp[dE]
     rw[hv0,F9,setRow_self w _ C ty (0,0) hb]
     have:=run_copy_none (P:=P) w t u o.type e (some ⟨gh.ρ l,o0,none⟩) ad n cap ln cp hu fC (by rw[hln,Zz];exact Wz)
     rw[this,Wz];rfl
    ·obtain⟨q,rfl,aen⟩:=hq (by omega)
     have:=run_copy_row (P:=P) w t u o.type e (gh.ρ l) o0 n cap q ln cp C ty pJ hu fC hb (by rw[WZ,hln,Zz]) aen (by simpa using LL) fh
     rw[this]
     simp[dE,WZ,goInt]
   have j8:∀ o,gh.S (gh.ρ l) o->(dE C o0 pJ.toArray)[o]?=C[o]?:=fun o ho=>(hS o ho).elim
   have Cv:=cE LL
   have st:=j0 hW hb Cv j8 s.H.length
   have hE:=wv hW hb Cv j8 (by rw[hκ];simp) (by rw[hκ];simp) s.H.length
   rw[hκ] at st
   have cy:(f.take k).flatten.length=k:=by
    rw[lK _ U4];simp;omega
   have hB:fI gh s.H.length (w.setRow (gh.ρ l) (dE C o0 pJ.toArray)) (gh.ρ l) (.hb l) (fun j=>.hs l j) (putAt cs o0 (f.take k).flatten):=by
    refine⟨hκ,hS,_,ty,setRow_heap w _ C _ ty _ hb,by rw[Cv,ni (by rw[cy];omega)];exact hC,fun j u x yp uu=>?_⟩
    rw[iF LL] at yp
    rw[pA (by rw[cy];omega)] at uu
    simp only[aj2,WZ] at yp
    rw[cy] at uu
    split at yp
    ·rename_i hc
     rw[if_pos hc] at uu
     obtain⟨k1,k2⟩:=bU _ u x (by simpa using yp) uu
     exact⟨k1,.inl (.plain _ _ (k2.mono st.S st.cell st.mp))⟩
    ·rename_i hc
     rw[if_neg hc] at uu
     obtain⟨k1,k2⟩:=fq j u x yp uu
     exact⟨k1,k2.mono st (aiK _) (by simp)⟩
   have z7:aG G base (s.H.set l (.dL (putAt cs o0 (f.take k).flatten))) gh (w.setRow (gh.ρ l) (dE C o0 pJ.toArray)) :=
    hW.uN st a7 (by intro k hk;simp[hk]) (fun b o ho=>by simpa using hW.l7 b o ho) (fun b hb=>by simpa using hW.mG b hb) (fun _ _ h=>by cases h) hB (fun _ _ _ h=>.inl h)
   refine⟨.int .i64 k,gh,_,.inl (pT ho fY dw jB cm),z7,?_,hE⟩
   exact hF.put (H':=s.H.set l (.dL (putAt cs o0 (f.take k).flatten))) (lo':=cond (Nat.blt l s.lo) l s.lo) st (fun i=>⟨by simp,by simp,by simp⟩) (by simp) o.dst hd (.cD (.plain _ _ (.int _ _)))
  ·cases he
 ·
  rename_i own f ahR hX hY
  simp only[aiG,aiH] at he
  obtain⟨rfl,rfl⟩:=he
  rw[hX] at hm
  have h1:∃ ad cp,a.eval x=.slice ad 0 cp:=by
   have hp:=VR.ga (hm:VR gh s.H.length w (a.eval x) (.slice [] false))
   generalize a.eval x=V at hp
   cases hp with
   | cB=>exact⟨_,_,rfl⟩
   | slice b of n cap sz _ f hn _ _ _ _=>simp at hn;subst hn;exact⟨_,_,rfl⟩
  have h2:∃ ad n cp,a.eval y=.slice ad n cp:=by
   have hp:=(bS hW hF vF hY rfl).ga
   generalize a.eval y=V at hp
   cases hp with
   | cB=>exact⟨_,_,_,rfl⟩
   | slice b of n cap sz _ f hn _ _ _ _=>exact⟨_,_,_,rfl⟩
  obtain⟨ad,cp,h1⟩:=h1
  obtain⟨ZL,n',cp',h2⟩:=h2
  have cm:=run_copy_none (P:=P) w t u o.type e ad ZL 0 cp n' cp' hu fC (Nat.min_zero _)
  rw[<- h1,<- h2] at cm
  refine⟨.int .i64 0,gh,w,.inl (pT ho fY dw jB cm),?_⟩
  exact Out.pure hW hF hd (.cD (.plain _ _ (.int _ _)))
 ·cases he
end
end
section
theorem qY(bK:List Nat)(d:Option Nat)(g:ak)(ys:List ak):qX bK d g ys=.call g ys:=by
 unfold qX
 cases gR bK d<;>rfl
section
variable {P:Program}{G:Nat->List AV}{base nt:Nat}{L:List Nat}{gh:Gh}{w w' : World}{a:Act}{s:AS}{H:ag}
theorem tS{locals:List Nat}{d:Option Nat}(h:isLocal locals d=true):∃ k,d=some k/\k∈locals:=by
 cases d with
 | none=>cases h
 | some k=>exact⟨k,rfl,by simpa [isLocal] using h⟩
theorem qu{l:List Nat}{d:Option Nat}(h:gR l d=true):∃ k,d=some k/\k∈l:=by
 cases d with
 | none=>cases h
 | some k=>exact⟨k,rfl,by simpa [gR] using h⟩
theorem Jx{k:j5}{V:Value}{e:List (List AV)}{z:AV}{t:TypeId}{ao:Option Addr}{cap:Nat}(hV:V=.slice ao e.length cap)(ht:match k with|.str=>P.underlying t=some .string|.sl=>∃ e,P.underlying t=some (.slice e)|.arr m=>∃ e,P.underlying t=some (.array m e))
  (he:jL k (.slice e false)=some z) (ty:TypeId) {n:Nat} : ∃ v,(Builtin.len_ #[t] ty #[V]).run P w=.ok v w/\VR gh n w v z:=by
 subst hV
 cases k<;>simp only[jL,aiG,reduceCtorEq] at he<;>subst he
 ·obtain⟨e',ht⟩:=ht
  exact⟨.int .i64 e.length,by simp[Builtin.len_,run_underlying ht,goInt],.plain _ _ (.int _ _)⟩
 ·obtain⟨e',ht⟩:=ht
  exact⟨.int .i64 _,by simp[Builtin.len_,run_underlying ht,goInt],.plain _ _ (.int _ _)⟩
theorem UF(hW:aG G base s.H gh w)(hF:FR L nt gh w a s){o:Oper}{c:Call}{x y:Operand}{ix iy:ak}{mx:Bool}{z:AV}(ho:o.op=.call c)(fY:c.callee=.builtin (cond mx .max .min))(dw:c.args.toList=[x,y])
  (hx:ah nt x=some ix) (hy:ah nt y=some iy) (he:Ov mx (ix.eval G s.T) (iy.eval G s.T)=some z):∃ v,(execOp a.eval o).run P w=.ok (.value v) w/\ld gh s.H.length nt w s.T s.gen (dO a) v z:=by
 generalize hX:ix.eval G s.T=X at he
 generalize hY:iy.eval G s.T=Y at he
 unfold Ov at he
 split at he
 ·obtain⟨h0,he⟩:=ab he
  injection he with he
  subst he
  have h1:=(bS hW hF hx hX rfl).gU
  have h2:=(bS hW hF hy hY rfl).gU
  have e1:c.args=#[x,y]:=by apply akM;simpa using dw
  cases mx
  ·refine⟨_,?_,.cD (.plain _ _ (.int _ _))⟩
   unfold execOp
   simp only[ho,resolve,fY,e1,invoke,builtin,Sem.run_bind,Sem.run_pure,Result.andThen_ok,akR,aiU,aiX,aiQ,h1,h2,Builtin.min_,Builtin.min2,List.foldlM_cons,List.foldlM_nil]
  ·refine⟨_,?_,.cD (.plain _ _ (.int _ _))⟩
   unfold execOp
   simp only[ho,resolve,fY,e1,invoke,builtin,Sem.run_bind,Sem.run_pure,Result.andThen_ok,akR,aiU,aiX,cond_true,h1,h2,Builtin.max_,Builtin.max2,List.foldlM_cons,List.foldlM_nil]
 ·cases he
theorem SE{m:Nat}{V:Value}{t e:TypeId}(ht:P.underlying t=some (.array m e))(ty:TypeId){n:Nat} : ∃ v,(Builtin.len_ #[t] ty #[V]).run P w=.ok v w/\VR gh n w v (.int .i64 m) :=
 ⟨.int .i64 _,by simp[Builtin.len_,run_underlying ht,goInt],.plain _ _ (.int _ _)⟩
theorem FI(hW:aG G base s.H gh w)(hF:FR L nt gh w a s){o:Oper}{c:Call}{x:Operand}{t:TypeId}{y:ak}{k:j5}{z:AV}{s' : Option AS}{cf:cC}
  (ho:o.op=.call c) (fY:c.callee=.builtin .len) (dw:c.args.toList=[x]) (jB:c.argTypes.toList=[t]) (hc:ah nt x=some y)
  (ht:match k with|.str=>P.underlying t=some .string|.sl=>∃ e,P.underlying t=some (.slice e)|.arr m=>∃ e,P.underlying t=some (.array m e))
  (he:ai G cf s (.len k y)=some (z,s')):s'=none/\∃ v,(execOp a.eval o).run P w=.ok (.value v) w/\ld gh s.H.length nt w s.T s.gen (dO a) v z:=by
 simp only[ai] at he
 have fin:∀ {zz:AV},(∃ v,(Builtin.len_ #[t] o.type #[a.eval x]).run P w=.ok v w/\VR gh s.H.length w v zz)->∃ v,(execOp a.eval o).run P w=.ok (.value v) w/\ld gh s.H.length nt w s.T s.gen (dO a) v zz :=
  fun ⟨v,h1,h2⟩=>⟨v,AK ho fY dw jB h1,.cD h2⟩
 split at he
 ·rename_i tt g hy
  split at he
  ·rename_i g' e hT
   obtain⟨h0,he⟩:=ab he
   have A7:g=g':=by simpa [dU] using h0
   simp only[aiE,aiH] at he
   obtain⟨z',hz,rfl,rfl⟩:=he
   refine⟨rfl,fin ?_⟩
   have hv:=arg_val hW hF hc
   rw[hy] at hv
   obtain⟨hb,_,hr⟩:=(hv:_/\_/\_)
   have nX:=hr (by rw[hT,<- A7];rfl)
   obtain⟨ad,cap,hV,_⟩:=l8 hF hb hT
   exact Jx (nX.trans hV) ht hz o.type
  ·cases he
 ·simp only[aiE,aiH] at he
  obtain⟨z',hz,rfl,rfl⟩:=he
  refine⟨rfl,fin ?_⟩
  cases k with
  | arr m =>
   obtain⟨e,ht⟩:=ht
   simp only[jL,aiG] at hz
   subst hz
   exact SE ht o.type
  | _ =>
   have Kf:ar (y.addr G s.T)=true:=by
    generalize y.addr G s.T=Y at hz
    cases Y<;>first|rfl|(simp[jL] at hz)
   exact Qn (mh hW hF hc rfl Kf) ht hz o.type
theorem vn{cf:cC}(iv:dr P G cf)(hW:aG G base s.H gh w)(hF:FR L nt gh w a s){bK locals muts:List Nat}{o:Oper}{io:dQ}(bp:cr P bK locals muts nt o.dst o.op=some io)
  (vD:∀ x,x∈locals->x∈L) (uG:∀ x,x∈muts->x∈L) {z:AV} {s' : Option AS} (he:ai G cf s io=some (z,s')) (hd:∀ k,o.dst=some k->k<nt) (K:Act->World->Prop) (Q:Exit->Act->World->Prop)
  (hK:∀ v' aF w',Out G base nt L gh w a s o.dst z (s'.getD s) v' aF w'->K (a.put o.dst v') w'):o.wp P a w K Q:=by
 have fin:s'=none->(∃ v,(execOp a.eval o).run P w=.ok (.value v) w/\ld gh s.H.length nt w s.T s.gen (dO a) v z)->o.wp P a w K Q:=by
  rintro rfl ⟨v,h1,h2⟩
  exact qM.wp (.inl h1) (hK v gh w (Out.pure hW hF hd h2))
 have n9:(∃ v' aF w',qM P a o w v' w'/\Out G base nt L gh w a s o.dst z (s'.getD s) v' aF w')->o.wp P a w K Q:=by
  rintro ⟨v',aF,w',h1,h2⟩
  exact qM.wp h1 (hK v' aF w' h2)
 have aaV:∀ x y,(o.op=.move x\/o.op=.assign x)->ah nt x=some y->io=.mov (gR bK o.dst) (gR muts o.dst) (cond (gR muts o.dst) (Ao y) y)->o.wp P a w K Q:=by
  intro x y ho hc rz
  subst rz
  simp only[ai] at he
  by_cases Jh:∃ v,y=.a8 v/\gR muts o.dst=true
  ·obtain⟨v,rfl,hm⟩:=Jh
   rw[hm] at he
   simp only[cond_true,Ao,kO,aiG,aiH,ak.eval] at he
   obtain⟨rfl,rfl⟩:=he
   refine fin rfl ⟨a.eval x,?_,.cD ?_⟩
   ·rcases ho with ho|ho<;>simp[execOp,ho]
   ·cases x with
    | tmp k =>
     simp only[ah] at hc
     rcases ajE (Nat.blt k nt) with hb|hb<;>rw[hb] at hc<;>simp at hc
    | const u =>
     simp only[ah,aiE] at hc
     obtain⟨zz,hz,h⟩:=hc
     injection h with h
     subst h
     exact zE hz
    | global g=>simp[ah] at hc
    | func f=>simp[ah] at hc
  have L0:cond (gR muts o.dst) (Ao y) y=y:=by
   cases hm:gR muts o.dst with
   | false=>rfl
   | true=>cases y<;>first|rfl|exact absurd ⟨_,rfl,hm⟩ Jh
  rw[L0] at he
  cases s' with
  | none =>
   refine fin rfl ⟨a.eval x,?_,V0 hW hF hc he⟩
   rcases ho with ho|ho<;>simp[execOp,ho]
  | some s' =>
   refine n9 (zU hW hF ho hc he hd (fun h k hk=>?_))
   obtain⟨k',h1,h2⟩:=qu h
   rw[h1] at hk;injection hk with hk;subst hk
   exact uG _ h2
 cases cH:o.op with
 | move x =>
  rw[cH] at bp
  simp only[cr,aiE] at bp
  obtain⟨y,hc,rfl⟩:=bp
  exact aaV x y (.inl cH) hc rfl
 | assign x =>
  rw[cH] at bp
  simp only[cr,aiE] at bp
  obtain⟨y,hc,rfl⟩:=bp
  exact aaV x y (.inr cH) hc rfl
 | pick c x y =>
  rw[cH] at bp
  simp only[cr,aiF,aiE] at bp
  obtain⟨ic,hc,ix,hx,iy,hy,rfl⟩:=bp
  simp only[ai] at he
  split at he
  ·rename_i t ht
   simp only[aiG,aiH] at he
   obtain⟨rfl,rfl⟩:=he
   exact fin rfl (Qs hW hF cH hc hx hy ht)
  ·cases he
 | alloc t =>
  rw[cH] at bp
  simp only[cr,aiF] at bp
  obtain⟨zz,hz,bp⟩:=bp
  cases hl:isLocal locals o.dst with
  | true =>
   rw[hl] at bp
   simp only[cond_true,aiG] at bp
   subst bp
   simp only[ai,aiG,aiH] at he
   obtain⟨rfl,rfl⟩:=he
   obtain⟨k,hk,yq⟩:=tS hl
   exact n9 (IS hW hF cH hz (fun k' pH=>⟨hd k' pH,by rw[hk] at pH;injection pH with e;subst e;exact vD _ yq⟩))
  | false =>
   rw[hl] at bp
   simp only[aiQ,aiG] at bp
   subst bp
   simp only[ai,aiG,aiH] at he
   obtain⟨rfl,rfl⟩:=he
   exact n9 (IQ hW hF cH hz hd)
 | box t x =>
  rw[cH] at bp
  simp only[cr,aiE] at bp
  obtain⟨y,hc,rfl⟩:=bp
  cases hl:isLocal locals o.dst with
  | true =>
   rw[hl] at he
   simp only[cond_true,ai,aiE,aiH] at he
   obtain⟨cs,fq,rfl,rfl⟩:=he
   obtain⟨k,hk,yq⟩:=tS hl
   exact n9 (Qj hW hF cH hc fq (fun k' pH=>⟨hd k' pH,by rw[hk] at pH;injection pH with e;subst e;exact vD _ yq⟩))
  | false =>
  rw[hl,aiQ] at he
  rcases ajE (Lp 500000 muts o.dst) with hm|hm
  ·rw[hm] at he
   simp only[cond_true,ai,aiF] at he
   obtain⟨cs,fq,he⟩:=he
   obtain⟨h0,he⟩:=ab he
   simp only[aiG,aiH] at he
   obtain⟨rfl,rfl⟩:=he
   exact n9 (Qk hW hF cH hc fq hd)
  ·rw[hm] at he
   simp only[aiQ,ai,aiF] at he
   obtain⟨cs,fq,he⟩:=he
   obtain⟨h0,he⟩:=ab he
   simp only[aiG,aiH] at he
   obtain⟨rfl,rfl⟩:=he
   exact n9 (VY hW hF cH hc fq h0 hd)
 | build t parts =>
  rw[cH] at bp
  simp only[cr,aiF] at bp
  obtain⟨zz,hz,bp⟩:=bp
  split at bp
  ·rename_i fs hu
   obtain⟨h0,bp⟩:=ab bp
   simp only[aiE] at bp
   obtain⟨ps,hp,rfl⟩:=bp
   simp only[ai,aiE,aiH] at he
   obtain⟨Z,hZ,rfl,rfl⟩:=he
   exact fin rfl (uo hW hF cH hz hu hp (Option.isSome_iff_exists.1 h0) hZ)
  ·rename_i n e hu
   simp only[aiF,aiE] at bp
   obtain⟨sz,hs,ps,hp,rfl⟩:=bp
   simp only[ai,aiE,aiH] at he
   obtain⟨Z,hZ,rfl,rfl⟩:=he
   exact fin rfl (vo hW hF cH hz hu hs hp hZ)
  ·cases bp
 | buildSlice t len parts =>
  rw[cH] at bp
  simp only[cr] at bp
  split at bp
  ·rename_i e hu
   simp only[aiF] at bp
   obtain⟨sz,hs,zz,hz,ps,hp,bp⟩:=bp
   obtain⟨h0,bp⟩:=ab bp
   injection bp with bp
   subst bp
   simp only[aiL,ajg,dU,ai2,ajb] at h0
   cases hl:isLocal locals o.dst with
   | true =>
    rw[hl] at he
    simp only[cond_true,ai,aiF] at he
    obtain⟨E,hE,he⟩:=he
    obtain⟨pn,he⟩:=ab he
    simp only[aiG,aiH] at he
    obtain⟨rfl,rfl⟩:=he
    exact n9 (B3 hW hF cH hu hs hz hp h0.1.1 h0.1.2 h0.2 pn hE hd)
   | false =>
   rw[hl] at he
   simp only[aiQ,ai,aiF] at he
   obtain⟨E,hE,he⟩:=he
   obtain⟨pn,he⟩:=ab he
   simp only[aiG,aiH] at he
   obtain⟨rfl,rfl⟩:=he
   exact n9 (FJ hW hF cH hu hs hz hp pn (fun h=>ajG h) h0.1.1 h0.1.2 h0.2 hE hd)
  ·cases bp
 | load t x =>
  rw[cH] at bp
  simp only[cr,aiF,aiE] at bp
  obtain⟨y,hc,g,hg,sz,hs,rfl⟩:=bp
  simp only[ai] at he
  cases s' with
  | none =>
   obtain⟨v,h1,h2⟩:=Qo (P:=P) hW hF hc hg hs he
   exact fin rfl ⟨v,by simp[execOp,cH,h1],h2⟩
  | some s'=>exact n9 (zT hW hF cH hc hg hs he hd)
 | store t x y =>
  rw[cH] at bp
  simp only[cr,aiF,aiE] at bp
  obtain⟨ya,HD,yv,UP,sz,hs,rfl⟩:=bp
  simp only[ai,aiE,aiH] at he
  obtain⟨s1,he,rfl,rfl⟩:=he
  exact n9 (Lg hW hF cH HD UP hs he hd)
 | nilCheck x =>
  rw[cH] at bp
  simp only[cr,aiE] at bp
  obtain⟨y,hc,rfl⟩:=bp
  simp only[ai] at he
  obtain⟨h0,he⟩:=ab he
  simp only[aiG,aiH] at he
  obtain⟨rfl,rfl⟩:=he
  exact fin rfl (B4 hW hF cH hc h0)
 | binOp op t x y u =>
  rw[cH] at bp
  simp only[cr,aiF] at bp
  obtain⟨ix,hx,iy,hy,bp⟩:=bp
  split at bp
  ·rename_i neg hn
   injection bp with bp
   subst bp
   simp only[ai,aiE,aiH] at he
   obtain⟨b,hb,rfl,rfl⟩:=he
   exact fin rfl (Qr hW hF cH hx hn hb)
  ·injection bp with bp
   subst bp
   simp only[ai,aiE,aiH] at he
   obtain⟨z',hz,rfl,rfl⟩:=he
   exact fin rfl (VX hW hF cH hx hy hz)
 | unOp op t x =>
  rw[cH] at bp
  simp only[cr,aiE] at bp
  obtain⟨y,hc,rfl⟩:=bp
  simp only[ai,aiE,aiH] at he
  obtain⟨z',hz,rfl,rfl⟩:=he
  exact fin rfl (aab hW hF cH hc hz)
 | convert st dt x =>
  rw[cH] at bp
  simp only[cr,aiF] at bp
  obtain⟨y,hc,bp⟩:=bp
  split at bp
  ·rename_i k' k h1 h2
   injection bp with bp
   subst bp
   simp only[ai,aiE,aiH] at he
   obtain⟨z',hz,rfl,rfl⟩:=he
   exact fin rfl (Lh hW hF cH hc h1 h2 hz)
  ·rename_i h1 h2
   injection bp with bp
   subst bp
   simp only[ai,aiE,aiH] at he
   obtain⟨z',hz,rfl,rfl⟩:=he
   exact fin rfl (FK hW hF cH hc h1 h2 hz)
  ·rename_i e h1 h2
   split at bp
   ·rename_i hE
    injection bp with bp
    subst bp
    simp only[ai,aiE,aiH] at he
    obtain⟨z',hz,rfl,rfl⟩:=he
    exact fin rfl (B1 hW hF cH hc h1 hE h2 hz)
   ·cases bp
  ·cases bp
 | makeInterface t x =>
  rw[cH] at bp
  simp[cr] at bp
 | makeFunc f first captured =>
  rw[cH] at bp
  simp only[cr,aiF,aiE] at bp
  obtain⟨fs,h1,cs,h2,rfl⟩:=bp
  simp only[ai] at he
  obtain⟨h0,he⟩:=ab he
  simp only[aiG,aiH] at he
  obtain⟨rfl,rfl⟩:=he
  simp only[aiL] at h0
  exact fin rfl (IV hW hF cH h1 h2 h0.1 h0.2)
 | slice t x lo hi mx =>
  rw[cH] at bp
  simp only[cr,aiF] at bp
  obtain⟨ix,hc,Jo,h1,DQ,h2,yB,h3,bp⟩:=bp
  split at bp
  ·rename_i hu
   injection bp with bp
   subst bp
   simp only[ai,aiE,aiH] at he
   obtain⟨z',hz,rfl,rfl⟩:=he
   exact fin rfl (zW hW hF cH hc h1 h2 h3 hu hz)
  ·rename_i e hu
   simp only[aiE] at bp
   obtain⟨sz,hs,rfl⟩:=bp
   simp only[ai,aiE,aiH] at he
   obtain⟨z',hz,rfl,rfl⟩:=he
   exact fin rfl (B5 hW hF cH hc h1 h2 h3 hu hs hz)
  ·rename_i n e hu
   simp only[aiF] at bp
   obtain⟨sz,hs,bp⟩:=bp
   obtain⟨h0,bp⟩:=ab bp
   injection bp with bp
   subst bp
   simp only[ai,aiE,aiH] at he
   obtain⟨z',hz,rfl,rfl⟩:=he
   exact fin rfl (zV hW hF cH hc h1 h2 h3 hu hs (by simpa [ajb] using h0) hz)
  ·cases bp
 | fieldAddr t x f =>
  rw[cH] at bp
  simp only[cr,aiF] at bp
  obtain⟨ix,hc,bp⟩:=bp
  split at bp
  ·rename_i fs hu
   simp only[aiF] at bp
   obtain⟨q,hq,sz,hs,bp⟩:=bp
   obtain⟨h0,bp⟩:=ab bp
   injection bp with bp
   subst bp
   simp only[ai] at he
   obtain⟨hl,he⟩:=ab he
   simp only[aiE,aiH] at he
   obtain⟨z',hz,rfl,rfl⟩:=he
   exact fin rfl (zS hW hF cH hc hu hq hs (by simpa [ajb] using h0) hl hz)
  ·cases bp
 | field t x f =>
  rw[cH] at bp
  simp[cr] at bp
 | indexAddr t x i =>
  rw[cH] at bp
  simp only[cr,aiF] at bp
  obtain⟨ix,hc,ii,hi,bp⟩:=bp
  split at bp
  ·rename_i e hu
   simp only[aiE] at bp
   obtain⟨sz,hs,rfl⟩:=bp
   simp only[ai] at he
   split at he
   ·rename_i el own hy
    simp only[aiF] at he
    obtain⟨k,hk,r,hr,he⟩:=he
    obtain⟨h0,he⟩:=ab he
    simp only[aiG,aiH] at he
    obtain⟨rfl,rfl⟩:=he
    exact fin rfl (Qm hW hF cH hc hi hu hs hk hy hr (by simpa [dU] using h0))
   ·rename_i l of m hy
    simp only[aiF] at he
    obtain⟨k,hk,he⟩:=he
    obtain⟨h0,he⟩:=ab he
    simp only[aiG,aiH] at he
    obtain⟨rfl,rfl⟩:=he
    exact fin rfl (IU hW hF cH hc hi hu hs hk hy (by simpa [ajb] using h0))
   ·rename_i b g hy
    split at he
    ·rename_i g' el hT
     obtain⟨h0,he⟩:=ab he
     have A7:g=g':=by simpa [dU] using h0
     simp only[aiF] at he
     obtain⟨k,hk,r,hr,he⟩:=he
     obtain⟨h0,he⟩:=ab he
     simp only[aiG,aiH] at he
     obtain⟨rfl,rfl⟩:=he
     exact fin rfl (Lc hW hF cH hc hi hu hs hk hy (by rw[hT,A7]) hr (by simpa [dU] using h0))
    ·cases he
   ·cases he
  ·rename_i n e hu
   simp only[aiE] at bp
   obtain⟨sz,hs,rfl⟩:=bp
   simp only[ai,aiF] at he
   obtain⟨k,hk,he⟩:=he
   obtain⟨h0,he⟩:=ab he
   simp only[aiL,ajb] at h0
   simp only[aiE,aiH] at he
   obtain⟨z',hz,rfl,rfl⟩:=he
   exact fin rfl (Lb hW hF cH hc hi hu hs hk h0.1 h0.2 hz)
  ·cases bp
 | index t x i =>
  rw[cH] at bp
  simp only[cr,aiF] at bp
  obtain⟨ix,hc,ii,hi,bp⟩:=bp
  split at bp
  ·rename_i hu
   injection bp with bp
   subst bp
   simp only[ai] at he
   split at he
   ·rename_i l hz
    simp only[aiF,aiE,aiH] at he
    obtain⟨k,hk,b,hb,rfl,rfl⟩:=he
    exact fin rfl (B2 hW hF cH hc hi hu hk hz hb)
   ·cases he
  ·rename_i n e hu
   simp only[aiF,aiE] at bp
   obtain⟨sz,hs,g,hg,rfl⟩:=bp
   simp only[ai,aiF] at he
   obtain⟨k,hk,he⟩:=he
   obtain⟨h0,he⟩:=ab he
   split at he
   ·rename_i cs hz
    simp only[aiE,aiH] at he
    obtain⟨z',hl,rfl,rfl⟩:=he
    exact fin rfl (La hW hF cH hc hi hu hs hg hk (by simpa [ajb] using h0) hz hl)
   ·cases he
  ·cases bp
 | extract x i =>
  rw[cH] at bp
  simp only[cr,aiE] at bp
  obtain⟨y,hc,rfl⟩:=bp
  simp only[ai] at he
  split at he
  ·rename_i vs hz
   simp only[aiE,aiH] at he
   obtain⟨z',U',rfl,rfl⟩:=he
   exact fin rfl (FH hW hF cH hc hz U')
  ·cases he
 | call c =>
  rw[cH] at bp
  simp only[cr,qW] at bp
  split at bp
  ·rename_i fx fY
   simp only[aiF,aiE] at bp
   obtain⟨yf,mb,ys,vF,UT⟩:=bp
   rw[qY] at UT
   subst UT
   simp only[ai] at he
   split at he
   ·rename_i f fs cs Wu
    obtain⟨h0,he⟩:=ab he
    simp only[aiE,aiH] at he
    obtain⟨⟨r,ch⟩,hr,rfl,rfl⟩:=he
    exact Ql iv hW hF cH fY mb vF Wu h0 hr hd K Q hK
   ·cases he
  ·rename_i fY
   split at bp
   ·rename_i x t dw jB
    simp only[aiF] at bp
    obtain⟨y,hc,bp⟩:=bp
    split at bp
    ·rename_i hu
     injection bp with bp
     subst bp
     obtain⟨h1,h2⟩:=FI (P:=P) hW hF cH fY dw jB hc (k:=.str) hu he
     exact fin h1 h2
    ·rename_i e hu
     injection bp with bp
     subst bp
     obtain⟨h1,h2⟩:=FI (P:=P) hW hF cH fY dw jB hc (k:=.sl) ⟨_,hu⟩ he
     exact fin h1 h2
    ·rename_i n e hu
     injection bp with bp
     subst bp
     obtain⟨h1,h2⟩:=FI (P:=P) hW hF cH fY dw jB hc (k:=.arr n) ⟨_,hu⟩ he
     exact fin h1 h2
    ·rename_i hu
     cases bp
    ·cases bp
   ·cases bp
  ·rename_i fY
   split at bp
   ·rename_i x y t u dw jB
    simp only[aiF] at bp
    obtain⟨yx,mb,yy,vF,bp⟩:=bp
    have go:∀ e,P.underlying t=some (.slice e)->((∃ e',P.underlying u=some (.slice e'))\/P.underlying u=some .string) ->
      ((P.info? e).bind fun i=>cond (Nat.blt 0 i.size&&(i.zero.map fun z=>Nat.beq z.cells.size i.size).getD false) (some (cond (isLocal locals o.dst) (dQ.appendO i.size i.bytes yx yy) (dQ.append (Nat.beq e fP) (gR muts o.dst) i.size i.bytes yx yy))) none)=some io->o.wp P a w K Q:=by
     intro e ht hu bp
     simp only[aiF] at bp
     obtain⟨i,hi,bp⟩:=bp
     obtain⟨h0,bp⟩:=ab bp
     injection bp with bp
     subst bp
     simp only[aiL,ajb] at h0
     obtain⟨h0,h1⟩:=h0
     have hT:tw P t e i.size i.bytes:=by
      cases hz:i.zero with
      | none=>rw[hz] at h1;cases h1
      | some zv=>rw[hz] at h1;exact⟨ht,⟨i,zv,hi,hz,rfl,rfl,by simpa [dU] using h1⟩,h0⟩
     cases Kj:isLocal locals o.dst with
     | true =>
      rw[Kj] at he
      simp only[cond_true,ai] at he
      exact n9 (FG hW hF cH fY dw jB hT hu mb vF he hd)
     | false =>
     rw[Kj] at he
     simp only[aiQ,ai] at he
     refine n9 (IT hW hF cH fY dw jB hT (fun h=>ajG h) hu mb vF he hd (fun h k hk=>?_))
     obtain⟨k',h1,h2⟩:=qu h
     rw[h1] at hk;injection hk with hk;subst hk
     exact uG _ h2
    split at bp
    ·rename_i e e' ht hu
     exact go e ht (.inl ⟨_,hu⟩) bp
    ·rename_i e ht hu
     exact go e ht (.inr hu) bp
    ·cases bp
   ·cases bp
  ·rename_i fY
   split at bp
   ·rename_i x y t u dw jB
    simp only[aiF] at bp
    obtain⟨ix,hx,iy,hy,bp⟩:=bp
    split at bp
    ·rename_i e e' ht hu
     simp only[aiF] at bp
     obtain⟨sz,hs,bp⟩:=bp
     obtain⟨h0,bp⟩:=ab bp
     injection bp with bp
     subst bp
     simp only[dU,ai2] at h0
     subst h0
     simp only[ai] at he
     exact n9 (K' hW hF cH fY dw jB ht hs hx hy he hd)
    ·cases bp
   ·cases bp
  ·rename_i fY
   split at bp
   ·rename_i x y dw
    simp only[aiF,aiE] at bp
    obtain⟨ix,hx,iy,hy,rfl⟩:=bp
    simp only[ai,aiE,aiH] at he
    obtain⟨z',hz,rfl,rfl⟩:=he
    exact fin rfl (UF (mx:=true) hW hF cH fY dw hx hy hz)
   ·cases bp
  ·rename_i fY
   split at bp
   ·rename_i x y dw
    simp only[aiF,aiE] at bp
    obtain⟨ix,hx,iy,hy,rfl⟩:=bp
    simp only[ai,aiE,aiH] at he
    obtain⟨z',hz,rfl,rfl⟩:=he
    exact fin rfl (UF (mx:=false) hW hF cH fY dw hx hy hz)
   ·cases bp
  ·cases bp
 | makeSlice t x y =>
  rw[cH] at bp
  simp only[cr,aiF] at bp
  obtain⟨yx,mb,bp⟩:=bp
  obtain⟨HO,bp⟩:=ab bp
  split at bp
  ·rename_i e ht
   simp only[aiF] at bp
   obtain⟨i,hi,zv,hz,zero,ZH,bp⟩:=bp
   obtain⟨h0,bp⟩:=ab bp
   injection bp with bp
   subst bp
   simp only[aiL,ajb,dU,ai2] at h0
   simp only[ai] at he
   exact n9 (Ld hW hF cH HO ht hi hz ZH h0.2 h0.1 mb he hd)
  ·cases bp
 | makeMap t r =>
  rw[cH] at bp
  cases r with
  | some r=>simp[cr] at bp
  | none =>
   simp only[cr,aiE] at bp
   obtain⟨m,hm,rfl⟩:=bp
   simp only[ai,aiG,aiH] at he
   obtain⟨rfl,rfl⟩:=he
   exact n9 (Lf hW hF cH hd _ _ _)
 | lookup t x i ok =>
  rw[cH] at bp
  simp only[cr,aiF,aiE] at bp
  obtain⟨ya,HD,yb,hcb,m,hm,rfl⟩:=bp
  obtain⟨kt,et,z,hT⟩:=rM hm
  simp only[ai] at he
  obtain⟨h1,h2⟩:=Qp hW hF hT cH HD hcb he
  exact fin h1 h2
 | mapUpdate t x i v =>
  rw[cH] at bp
  simp only[cr,aiF,aiE] at bp
  obtain⟨ya,HD,yb,hcb,yc,hcc,m,hm,rfl⟩:=bp
  obtain⟨kt,et,z,hT⟩:=rM hm
  simp only[ai,aiE,aiH] at he
  obtain⟨s1,he,rfl,rfl⟩:=he
  exact n9 (Hr hW hF hT (.inl cH) HD hcb hcc he hd)
 | insert t x i v =>
  rw[cH] at bp
  simp only[cr,aiF,aiE] at bp
  obtain⟨ya,HD,yb,hcb,yc,hcc,m,hm,rfl⟩:=bp
  obtain⟨kt,et,z,hT⟩:=rM hm
  simp only[ai,aiE,aiH] at he
  obtain⟨s1,he,rfl,rfl⟩:=he
  exact n9 (Hr hW hF hT (.inr cH) HD hcb hcc he hd)
 | range t x =>
  rw[cH] at bp
  simp only[cr] at bp
  obtain⟨h0,bp⟩:=ab bp
  simp only[aiF,aiE] at bp
  obtain⟨ya,HD,m,hm,rfl⟩:=bp
  obtain⟨kt,et,z,hT⟩:=rM hm
  obtain⟨k',h1,h2⟩:=qu h0
  exact n9 (V1 hW hF cH HD hT.ht he (fun k hk=>⟨hd k hk,by rw[h1] at hk;injection hk with hk;subst hk;exact uG _ h2⟩))
 | next x b =>
  rw[cH] at bp
  cases b with
  | true=>simp[cr] at bp
  | false =>
   simp only[cr,aiE] at bp
   obtain⟨ya,HD,rfl⟩:=bp
   simp[ai] at he
 | entry x =>
  rw[cH] at bp
  simp only[cr,aiE] at bp
  obtain⟨ya,HD,rfl⟩:=bp
  obtain⟨h1,h2⟩:=VZ hW hF cH HD he
  exact fin h1 h2
 | _=>rw[cH] at bp;simp[cr] at bp
end
end
end Go.Abs
