/-
  A part of the proof of ScopeNames: V45, V46, V47, V48, V49, V50, AbsOKV.
-/
import Derived.Test.YthbncinhhdogpaaGreatDoorP13
set_option linter.unusedSimpArgs false
set_option linter.unusedVariables false
set_option linter.defProp false
set_option maxHeartbeats 4000000
set_option maxRecDepth 100000
namespace Go.Proofs.YthbncinhhdogpaaGreatDoor
open Go Go.Abs Go.Proofs
theorem aev(l:List Int)(hl:∀ n∈l,pr n){T:aw}{H:ah}{S:ah}{g g2 i:Nat}{bad:Int}{mc:AV}{d e:Def}{es:List Def}{o:cj}{Q:bp->AS->Prop}(ho:CO o (gZ es i H.length).flatten)(hd:es[i]?=some d)(qS:es.length<=100)
  (hS:S.length=i) (he:e.aZ.length<=10)
  (e1:T 1=.slice (ints l) false) (e2:T 2=.int .i64 bad) (e3:T 3=.lbox 0 [mc,.sref H.length 0 es.length 31]) (e7:T 7=.int .i64 i) (e8:T 8=.lbox g2 (fU e (H.length+1+i)))
  (hQ:∀ (T' : aw) (e' : Def),(T' 1=T 1/\T' 2=T 2/\T' 3=T 3/\T' 6=T 6/\T' 7=T 7)->e'.id=e.id->e'.mod=e.mod->(e'.name=e.name\/e'.name=d.name)->e'.aZ.length=e.aZ.length ->
   Q .normal ⟨T',H++.ca (gZ (es.set i e') (i+1) H.length).flatten :: (S++[uK e']),H.length,g⟩) :
  W A PT5 ⟨T,H++o :: (S++[.box aJ (bs e.aZ).flatten]),H.length,g⟩ Q:=by
 rw[Zm]
 have aU:i<es.length:=(aoR.1 hd).1
 have oL:decide (i<es.length)=true:=by simpa using aU
 have iH:∀ o o' : cj,(H++o :: (S++[o']))[H.length+1+i]?=some o':=fun o o'=>by
  rw[ao5 (by omega),show H.length+1+i-H.length=i+1 by omega,apf,<- hS,ao5 (aoU _),apW];rfl
 have dB:∀ o o' o'' : cj,(H++o :: (S++[o'])).set (H.length+1+i) o''=H++o :: (S++[o'']):=fun o o' o''=>by
  rw[apx _ _ (by omega),show H.length+1+i-H.length=i+1 by omega,List.set_cons_succ,<- hS,apx _ _ (aoU _),apW];rfl
 have hgb:∀ (o:cj) S,(H++o :: S)[H.length]?=some o:=fun o S=>by simp
 simp(disch:=omega)only[aL,aa,simprocAttr]
 refine aeu l hl (g2:=g2) (loc:=H.length+1+i) (d:=e) (sl:=e.aZ) (iH _ _) (by omega) rfl (by omega) (by omega) e1 e7 e8 ?_
 rintro T1 sl ⟨a1,a2,a3,a6,a7,a8⟩ pn
 rw[dB]
 have b2:=a2.trans e2
 have b3:=a3.trans e3
 have b7:=a7.trans e7
 have b8:=a8.trans e8
 simp(disch:=omega)only[aL,aa,simprocAttr,b2]
 refine aes (g2:=g2) (loc:=H.length+1+i) (base:=H.length) (bb:=H.length) (i:=i) (mc:=mc) (d:=e) (es:=es) (b0:=bad==0) (hgb _ _) ho (by omega) (by omega) ?_ ?_ ?_ ?_ ?_
 ·simp(disch:=omega)only[aL,aa,simprocAttr,b3]
 ·simp(disch:=omega)only[aL,aa,simprocAttr,b7]
 ·simp(disch:=omega)only[aL,aa,simprocAttr,b8]
 ·simp(disch:=omega)only[aL,aa,simprocAttr]
 rintro T2 bo ⟨f1,f2,f3,f6,f7,f8⟩ f10
 simp(disch:=omega)only[aL,aa,simprocAttr] at f1 f2 f3 f6 f7 f8
 have g2':=f2.trans b2
 have g3':=f3.trans b3
 have g7':=f7.trans b7
 have g8':=f8.trans b8
 have l7:=aeQ (i:=i) (base:=H.length) hd
 have fi:∀ x:Def,x.aZ.length=sl.length->True:=fun _ _=>trivial
 have fin:∀ (T3:aw) (g3:Nat) (q:Def),q.id=e.id->q.mod=e.mod->(q.name=e.name\/q.name=d.name)->q.aZ=sl->(T3 1=T2 1/\T3 2=T2 2/\T3 3=T2 3/\T3 6=T2 6/\T3 7=T2 7)->T3 8=.lbox g3 (fU q (H.length+1+i)) ->
   W A PH5 ⟨T3,H++o :: (S++[.box aJ (bs sl).flatten]),H.length,g⟩ Q:=by
  intro T3 g3 q h1 h2 h3 h4 h5 h8
  obtain⟨p1,p2,p3,p6,p7⟩:=h5
  refine aet (g2:=g3) (mc:=mc) (d:=d) (e:=q) ho hd (p3.trans g3') (p7.trans g7') h8 ?_
  rintro T4 ⟨q1,q2,q3,q6,q7⟩
  have:=hQ T4 q ⟨by rw[q1,p1,f1,a1],by rw[q2,p2,f2,a2],by rw[q3,p3,f3,a3],by rw[q6,p6,f6,a6],by rw[q7,p7,f7,a7]⟩ h1 h2 h3 (by rw[h4];exact pn)
  rw[uK,h4] at this
  exact this
 have h8a:fU e (H.length+1+i)=fU { e with aZ:=sl } (H.length+1+i):=(TR pn).symm
 cases hb:(bad==0) with
 | false =>
  simp(disch:=omega)only[aL,aa,simprocAttr,g2',hb,f10]
  refine fin _ g2 { e with aZ:=sl } rfl rfl (.inl rfl) rfl (by simp(disch:=omega)only[aL,aa,simprocAttr]) ?_
  simp(disch:=omega)only[aL,aa,simprocAttr,g8',h8a]
 | true =>
  cases bo with
  | true =>
   simp(disch:=omega)only[aL,aa,simprocAttr,g2',hb,f10]
   refine fin _ g2 { e with aZ:=sl } rfl rfl (.inl rfl) rfl (by simp(disch:=omega)only[aL,aa,simprocAttr]) ?_
   simp(disch:=omega)only[aL,aa,simprocAttr,g8',h8a]
  | false =>
   have hp7:=Lv (d:={ e with aZ:=sl }) (loc:=H.length+1+i) (n:=d.name)
   rw[h8a] at g8'
   rcases ho with rfl|rfl
   all_goals
    simp(disch:=omega)only[aL,aa,simprocAttr,g2',g3',g7',g8',hb,f10,hgb,oL,l7,aY,kG,hp7,kA]
    refine fin _ g2 { e with aZ:=sl,name:=d.name } rfl rfl (.inr rfl) rfl (by simp(disch:=omega)only[aL,aa,simprocAttr]) ?_
    simp(disch:=omega)only[aL,aa,simprocAttr]
theorem Uv{H:ah}{base l z k:Nat}{o:cj}{R F:List (List AV)}(hb:base<=l)(hl:H[l]?=some o)(ho:jV o=some R.flatten)(hR:∀ r∈R,r.length=z)(hF:(R.map fun r=>r.map fun x=>dY H base k x.drop)=F)(oD:dO z F)(hz:0<z)
  (Mo:∀ r∈R,∀ x∈r,jG x=true):dY H base (k+1) (.sref l 0 R.length z)=.slice F false:=by
 have h1:(R.flatten.all fun x=>(dY H base k x.drop).plain&&jG x)=true:=by
  rw[aoV]
  intro x hx
  obtain⟨r,hr,hx⟩:=aqY.1 hx
  have hm:(r.map fun x=>dY H base k x.drop)∈F:=by rw[<- hF];exact List.mem_map_of_mem (f:=fun r=>r.map fun x=>dY H base k x.drop) hr
  have:=aoV.1 (oD _ hm).2 _ (List.mem_map_of_mem (f:=fun x=>dY H base k x.drop) hx)
  rw[bH this,Mo r hr x hx];rfl
 have h2:(R.flatten.map fun x=>dY H base k x.drop)=F.flatten:=by rw[<- hF,List.map_flatten]
 have h4:R.flatten.length=R.length*z:=dp hR
 have h5:F.length=R.length:=by rw[<- hF,ao']
 rw[dY]
 simp only[apD hb,cond_true,hl,aoW,ho,h1,h2,h4,h5,Nat.zero_add,apN,apD (aoU _),Bool.and_true]
 rw[show Nat.blt 0 z=true by simpa [api] using hz,cond_true,<- h5,nS oD.wide]
theorem vq{H:ah}{base k:Nat}{l:List AV}(h:l.all dh=true):(l.map fun x=>dY H base k x.drop)=l:=by
 conv=>rhs;rw[<- List.map_id l]
 refine aph fun x hx=>?_
 have:=aoV.1 h x hx
 rw[bL this,nf this];rfl
theorem Ou{H:ah}{base k loc:Nat}{d:Def}(hb:base<=loc)(hH:H[loc]?=some (uK d)):((fU d loc).map fun x=>dY H base (k+1) x.drop)=bg d:=by
 have hz:dY H base (k+1) (AV.sref loc 0 d.aZ.length 11).drop=.slice (bs d.aZ) false:=by
  have:=xU (k:=k) (z:=11) (rows:=bs d.aZ) hb hH rfl uL (by omega)
  rw[fh] at this
  exact this
 unfold fU bg
 simp only[aq3,apm,apz,vq d.res.ok,vq d.body.ok,vq d.tl.ok,hz,av]
 rfl
theorem TQ{loc:Nat}{d:Def} : ∀ x∈fU d loc,jG x=true:=by
 intro x hx
 unfold fU at hx
 simp only[aoX,av,ao8,apY,aqM] at hx
 rcases hx with ((((((h|h|h)|h)|h|h|h)|h|h)|h)|h)|h
 all_goals first|(subst h;rfl)|exact jU (aoV.1 d.res.ok x h)|exact jU (aoV.1 d.body.ok x h)|exact jU (aoV.1 d.tl.ok x h)
def NR(s:ga):Prop:=s∈iA++[[97]]
def CD(two:Bool)(es:List Def):Prop:=∀ (j:Nat) (e:Def),es[j]?=some e->e.id=kP ((bO two:Nat)+(j:Nat))/\(e.mod=kP 0\/(two=true/\e.mod=kP 1))/\NR e.name
def CI(two:Bool)(i n:Nat)(es:List Def):Prop:=CD two es/\es.length=n/\∀ (j:Nat) (e:Def),es[j]?=some e->1<=e.aZ.length/\e.aZ.length<=3/\(i<=j->BD e)
theorem acg{j:Nat}(h:j<8):NR (iA.getD j []):=by
 have:j=0\/j=1\/j=2\/j=3\/j=4\/j=5\/j=6\/j=7:=by omega
 rcases this with rfl|rfl|rfl|rfl|rfl|rfl|rfl|rfl<;>(unfold NR;decide)
theorem CI.set{two:Bool}{i n:Nat}{es:List Def}{d e:Def}(h:CI two i n es)(hd:es[i]?=some d)(h1:e.id=d.id)(h2:e.mod=d.mod)(h3:NR e.name)(h4:e.aZ.length=d.aZ.length):CI two (i+1) n (es.set i e):=by
 obtain⟨hc,hl,hs⟩:=h
 refine⟨fun j q hj=>?_,by rw[apX];exact hl,fun j q hj=>?_⟩
 ·rw[apr] at hj
  split at hj
  ·rename_i je;subst je
   split at hj
   ·cases hj
    obtain⟨a1,a2,_⟩:=hc _ d hd
    rw[h1,h2];exact⟨a1,a2,h3⟩
   ·cases hj
  ·exact hc j q hj
 ·rw[apr] at hj
  split at hj
  ·rename_i je;subst je
   split at hj
   ·cases hj
    obtain⟨a1,a2,_⟩:=hs _ d hd
    rw[h4];exact⟨a1,a2,fun h=>absurd h (by omega)⟩
   ·cases hj
  ·rename_i je
   obtain⟨a1,a2,a3⟩:=hs j q hj
   exact⟨a1,a2,fun h=>a3 (by omega)⟩
def In5(H:ah)(l:List Int)(bad:Int)(mc:AV)(two:Bool)(n i:Nat)(T:aw)(s:AS):Prop:=∃ es o S g,s=⟨T,H++o :: S,H.length,g⟩/\CO o (gZ es i H.length).flatten/\CI two i n es/\S.length=i /\
 (∀ (j:Nat) (e:Def),j<i->es[j]?=some e->S[j]?=some (uK e))/\T 1=.slice (ints l) false/\T 2=.int .i64 bad/\T 3=.lbox 0 [mc,.sref H.length 0 n 31]/\T 6=.lbox 1 [.ae,.ae]
theorem TN(l:List Int)(hl:∀ n∈l,pr n)(bad:Int)(ms:List Mod)(two:Bool)(ds:List Def)(ju:GD two ds)(h1:1<=ds.length)(h8:ds.length<=8)(pn:∀ (j:Nat) (d:Def),ds[j]?=some d->1<=d.aZ.length/\d.aZ.length<=3)(H:ah) :
  ∃ es,aE A 5 [.agg (aR ⟨ms,ds⟩),.slice (ints l) false,.int .i64 bad] H=some (.agg (aR ⟨ms,es⟩),none)/\CD two es/\es.length=ds.length:=by
 have key:∃ r,aE A 5 [.agg (aR ⟨ms,ds⟩),.slice (ints l) false,.int .i64 bad] H=some r/\∃ es,r=(.agg (aR ⟨ms,es⟩),none)/\CD two es/\es.length=ds.length:=by
  refine rJ (fn:=TB) rfl rfl rfl ?_
  rw[Lk,aR]
  have fY:(bif decide (H.length<H.length) then H.length else H.length)=H.length:=by simp
  obtain⟨d0,dt,NH⟩:∃ d0 dt,ds=d0 :: dt:=by
   cases ds with
   | nil=>simp at h1
   | cons a t=>exact⟨a,t,rfl⟩
  have hao:∀ {B:AP} {T:aw} {gen t:Nat} {K:AS->Prop} {os:List aj},Bs B 31 352 (.slice [] true) (.slice (cn ds) false) t os T H H.length gen K=WO B false os ⟨T.put t (.sref H.length 0 ds.length 31),H++[.box aJ (cn ds).flatten],H.length,gen⟩ K:=by
   intro B T gen t K os
   have hp:=uE (wT (l:=ds))
   have hlen:=dm (l:=ds)
   rw[NH] at hp hlen ⊢
   rw[show cn (d0 :: dt)=bg d0 :: cn dt from rfl] at hp hlen ⊢
   rw[Hz (by unfold cw;simp only[List.length_cons,fR,List.head?_nil,List.head?_cons,Option.map_none,Option.map_some,Option.getD_none,Option.getD_some,cJ,List.length_nil,dm,Nat.beq_refl,Bool.and_true,Bool.and_eq_true,Nat.ble_eq,Nat.zero_add];rw[NH] at h8;simp at h8;omega) hp]
   simp only[List.length_cons,dm]
   have:Nat.blt H.length H.length=false:=by
    cases h:Nat.blt H.length H.length with
    | true=>have:=Nat.le_of_ble_eq_true h;omega
    | false=>rfl
   rw[this];rfl
  simp(disch:=omega)only[aL,aa,simprocAttr,hao]
  refine bQ ds.length 0 (fun i s=>∃ T,In5 H l bad (.slice (cx ms) false) two ds.length i T s/\T 7=.int .i64 i)
   (fun s=>∃ T,In5 H l bad (.slice (cx ms) false) two ds.length ds.length T s) (fun _=>False) ?_ ?_ (fun _ h=>h.elim) 0 _ (by omega) ?_
  ·rintro i s hi ⟨T,⟨es,o,S,g,rfl,ho,NG,hSl,hS,e1,e2,e3,e6⟩,e7⟩
   have hgb:∀ (o:cj) S,(H++o :: S)[H.length]?=some o:=fun o S=>by simp
   by_cases jT:i<ds.length
   ·obtain⟨YI,Hj,fi⟩:=NG
    obtain⟨d,hd⟩:∃ d,es[i]?=some d:=⟨_,aoT (by omega)⟩
    obtain⟨AL,hs3,Ki⟩:=fi i d hd
    obtain⟨_,_,afR⟩:=YI i d hd
    have lA:=aie (i:=i) (base:=H.length) hd (by omega)
    have oL:decide (i<ds.length)=true:=by simpa using jT
    obtain⟨e',uS,afV⟩:=Zz l hl bad (Ki (aoU _)) (H++o :: S)
    obtain⟨x,qY,hx4,vh⟩:∃ x,0<=x/\x<4/\aE A 15 [.slice (ints l) false,.int .i64 (i:Int),.int .i64 4] (H++o :: S)=some (.int .i64 x,none) :=
     ⟨_,(fN (by omega)).1,(fN (by omega)).2,HC l _ 4 _ hl (by omega)⟩
    obtain⟨y,Kv,hy4,Me⟩:∃ x,0<=x/\x<4/\aE A 15 [.slice (ints l) false,.int .i64 ((i:Int)+3),.int .i64 4] (H++o :: S)=some (.int .i64 x,none) :=
     ⟨_,(fN (by omega)).1,(fN (by omega)).2,HC l _ 4 _ hl (by omega)⟩
    obtain⟨nm,su,ajr⟩:∃ nm:ga,([[.str [102]],[.str [80,111,105,110,116]],[.str [97]],[.str [103]]]:List (List AV))[y.toNat]?=some [.str nm]/\NR nm:=by
     have:y=0\/y=1\/y=2\/y=3:=by omega
     rcases this with rfl|rfl|rfl|rfl<;>exact⟨_,rfl,by unfold NR;decide⟩
    have d14:=ZK (d:=d)
    have hbt:∀ b:Cells 15,b.l.take 15=b.l:=fun b=>apM (by rw[b.len];omega)
    have p14:=Ly (d:=d) (b:=⟨bj e',bS,nq⟩)
    simp only at p14
    have afY:∀ {B:AP} {T:aw} {gen t:Nat} {K:AS->Prop} {os:List aj},Bs B 11 112 (.slice [] true) (.slice (bs d.aZ) false) t os T (H++o :: S) H.length gen K=WO B false os ⟨T.put t (.sref (H.length+1+i) 0 d.aZ.length 11),H++o :: (S++[.box aJ (bs d.aZ).flatten]),H.length,gen⟩ K:=by
     intro B T gen t K os
     obtain⟨a,sl,ajD⟩:∃ a sl,d.aZ=a :: sl:=by
      cases hh:d.aZ with
      | nil=>rw[hh] at AL;simp at AL
      | cons a t=>exact⟨a,t,rfl⟩
     have hp:=uE (uL (l:=d.aZ))
     rw[ajD] at hp hs3 ⊢
     rw[show bs (a :: sl)=dW a :: bs sl from rfl] at hp ⊢
     have hlen:(H++o :: S).length=H.length+1+i:=by simp[hSl];omega
     rw[Hz (by unfold cw;simp only[List.length_cons,fR,List.head?_nil,List.head?_cons,Option.map_none,Option.map_some,Option.getD_none,Option.getD_some,lX,List.length_nil,fh,Nat.beq_refl,Bool.and_true,Bool.and_eq_true,Nat.ble_eq,Nat.zero_add];simp at hs3;omega) hp,hlen]
     simp only[List.length_cons,fh]
     have:Nat.blt (H.length+1+i) H.length=false:=by
      cases h:Nat.blt (H.length+1+i) H.length with
      | true=>have:=Nat.le_of_ble_eq_true h;omega
      | false=>rfl
     rw[this]
     simp
    have step:∀ (T2:aw) (q:Def) (g2 g3:Nat),q.id=d.id->q.mod=d.mod->NR q.name->q.aZ=d.aZ->(T2 1=T 1/\T2 2=T 2/\T2 3=T 3/\T2 6=T 6/\T2 7=T 7)->T2 8=.lbox g2 (fU q (H.length+1+i))->∀ Q:bp->AS->Prop,
      (∀ s',(∃ T,In5 H l bad (.slice (cx ms) false) two ds.length (i+1) T s'/\T 7=.int .i64 i)->Q .normal s')->W A PT5 ⟨T2,H++o :: (S++[.box aJ (bs d.aZ).flatten]),H.length,g3⟩ Q:=by
     intro T2 q g2 g3 q1 q2 q3 q4 hT2 h8' Q hQ
     obtain⟨f1,f2,f3,f6,f7⟩:=hT2
     rw[<- q4]
     refine aev l hl (g2:=g2) (i:=i) (bad:=bad) (mc:=.slice (cx ms) false) (d:=d) (e:=q) (es:=es) ho hd (by omega) hSl (by rw[q4];omega) (by rw[f1,e1]) (by rw[f2,e2]) (by rw[f3,e3,Hj]) (by rw[f7,e7]) h8' ?_
     rintro T3 e3' ⟨p1,p2,p3,p6,p7⟩ r1 r2 r3 r4
     refine hQ _ ⟨T3,⟨es.set i e3',_,_,g3,rfl,.inr rfl,CI.set ⟨YI,Hj,fi⟩ hd (by rw[r1,q1]) (by rw[r2,q2]) (by rcases r3 with r3|r3<;>rw[r3];exact q3;exact afR) (by rw[r4,q4]),by simp[hSl],?_,by rw[p1,f1,e1],by rw[p2,f2,e2],by rw[p3,f3,e3],by rw[p6,f6,e6]⟩,by rw[p7,f7,e7]⟩
     intro j q hj hjq
     rw[apr] at hjq
     split at hjq
     ·rename_i je;subst je
      split at hjq
      ·cases hjq
       rw[<- hSl,ao5 (aoU _),apW];rfl
      ·cases hjq
     ·rename_i je
      rw[ao7 (by omega)]
      exact hS j q (by omega) hjq
    have hc8:∀ q:Def,List.take 8 (bg q)++[.sref (H.length+1+i) 0 q.aZ.length 11]++List.drop 9 (bg q)=fU q (H.length+1+i):=fun q=>by simp[bg,fU,av]
    have h7p:∀ (q:Def) (n:ga),List.take 7 (bg q)++[.str n]++List.drop 8 (bg q)=bg { q with name:=n }:=fun q n=>OA
    have h8q:∀ q:Def,(bg q)[8]?=some (.slice (bs q.aZ) false):=fun q=>Ow
    have hbo:d.body.l.map AV.drop=d.body.l:=jH d.body.ok
    rcases ho with rfl|rfl
    all_goals
     cases qZ:(x==1) with
     | false =>
      simp(disch:=omega)only[aL,aa,simprocAttr,bS,bV,bA,bW,cH,bu,dL,au,ar,aW,e1,e2,e3,e7,hgb,oL,lA,aY,Hj,cJ,cQ,cS,cv,dH,d14,hbo,afV,p14,vh,qZ,h8q,afY,hc8]
      refine step _ { d with body:=⟨bj e',bS,nq⟩ } g (g+1) rfl rfl afR rfl (by simp(disch:=omega)only[aL,aa,simprocAttr,e1,e2,e3,e7]) (by simp(disch:=omega)only[aL,aa,simprocAttr]) _ ?_
      rintro s' ⟨T,⟨es,o,S,g,rfl,a1,a2,a3,a4,b1,b2,b3,b6⟩,b7⟩
      simp(disch:=omega)only[aL,aa,simprocAttr,b7]
      exact⟨jT,_,⟨es,o,S,g,rfl,a1,a2,a3,a4,by simp(disch:=omega)only[aL,aa,simprocAttr,b1,b2,b3,b6]⟩,by simp(disch:=omega)only[aL,aa,simprocAttr]⟩
     | true =>
      simp(disch:=omega)only[aL,aa,simprocAttr,bS,bV,bA,bW,cH,bu,dL,au,ar,aW,e1,e2,e3,e7,hgb,oL,lA,aY,Hj,cJ,cQ,cS,cv,dH,d14,hbo,afV,p14,vh,qZ,Me,su,h7p,h8q,afY,hc8]
      refine step _ { d with body:=⟨bj e',bS,nq⟩,name:=nm } g (g+1) rfl rfl ajr rfl (by simp(disch:=omega)only[aL,aa,simprocAttr,e1,e2,e3,e7]) (by simp(disch:=omega)only[aL,aa,simprocAttr]) _ ?_
      rintro s' ⟨T,⟨es,o,S,g,rfl,a1,a2,a3,a4,b1,b2,b3,b6⟩,b7⟩
      simp(disch:=omega)only[aL,aa,simprocAttr,b7]
      exact⟨jT,_,⟨es,o,S,g,rfl,a1,a2,a3,a4,by simp(disch:=omega)only[aL,aa,simprocAttr,b1,b2,b3,b6]⟩,by simp(disch:=omega)only[aL,aa,simprocAttr]⟩
   ·have:i=ds.length:=by omega
    subst this
    simp(disch:=omega)only[aL,aa,simprocAttr,e3,e7]
    exact⟨_,es,o,S,g,rfl,ho,NG,hSl,hS,by simp(disch:=omega)only[aL,aa,simprocAttr,e1,e2,e3,e6]⟩
  ·rintro s ⟨T,es,o,S,g,rfl,ho,⟨YI,Hj,fi⟩,hSl,hS,e1,e2,e3,e6⟩
   have hlen:es.length=ds.length:=Hj
   have hHj:∀ (j:Nat) (e:Def),es[j]?=some e->(H++o :: S)[H.length+1+j]?=some (uK e):=by
    intro j e hj
    rw[ao5 (by omega),show H.length+1+j-H.length=j+1 by omega,apf]
    exact hS j e (by have:=(aoR.1 hj).1;omega) hj
   have hHb:(H++o :: S)[H.length]?=some o:=by simp
   have hoc:jV o=some (gZ es ds.length H.length).flatten:=by rcases ho with rfl|rfl<;>rfl
   have hF:((gZ es ds.length H.length).map fun r=>r.map fun x=>dY (H++o :: S) H.length 2 x.drop)=cn es:=by
    refine aqa fun j=>?_
    simp only[gZ,cn,ao1,List.getElem?_mapIdx]
    cases hj:es[j]? with
    | none=>rfl
    | some e =>
     have Dr:=(aoR.1 hj).1
     simp only[Option.map_some,jO,if_pos (show j<ds.length by omega)]
     rw[Ou (k:=1) (by omega) (hHj j e hj)]
   have Mo:∀ r∈gZ es ds.length H.length,∀ x∈r,jG x=true:=by
    intro r hr
    obtain⟨j,hj⟩:=apn.1 hr
    simp only[gZ,List.getElem?_mapIdx] at hj
    cases hje:es[j]? with
    | none=>rw[hje] at hj;simp at hj
    | some e =>
     rw[hje] at hj
     have Dr:=(aoR.1 hje).1
     simp only[Option.map_some,jO,if_pos (show j<ds.length by omega),aoQ] at hj
     rw[<- hj]
     exact TQ
   have z2:dY (H++o :: S) H.length 3 (.sref H.length 0 ds.length 31)=.slice (cn es) false:=by
    have:=Uv (k:=2) (base:=H.length) (z:=31) (aoU _) hHb hoc lh hF wT (by omega) Mo
    rwa [Ag,hlen] at this
   have hmp:(([.slice (cx ms) false,.sref H.length 0 ds.length 31]:List AV).map AV.drop).map (dY (H++o :: S) H.length 3)=aR ⟨ms,es⟩:=by
    have z1' : dY (H++o :: S) H.length 3 (AV.slice (cx ms) false).drop=.slice (cx ms) false:=rfl
    have z2' : dY (H++o :: S) H.length 3 (AV.sref H.length 0 ds.length 31).drop=.slice (cn es) false:=z2
    simp only[apm,apz,z1',z2',aR]
   simp(disch:=omega)only[aL,aa,simprocAttr,e3,e6]
   refine⟨(.agg (aR ⟨ms,es⟩),none),?_,es,rfl,YI,Hj⟩
   have hf:=ve (base:=H.length) (fn:=TB) (tc:=6) (n:=2) (g:=1) (s:=⟨(T.put 136 (.agg [.slice (cx ms) false,.sref H.length 0 ds.length 31])).put 6 (.lbox 1 [.slice (cx ms) false,.sref H.length 0 ds.length 31]),H++o :: S,H.length,g⟩) (cs:=[.slice (cx ms) false,.sref H.length 0 ds.length 31]) rfl (by decide) (by simp[aw.put]) rfl (by unfold jW;simp) (by show (List.map _ (List.map AV.drop _)).all AV.plain=true;rw[hmp];rfl)
   rw[show (List.map (dY _ _ 3) (List.map AV.drop _))=_ from hmp] at hf
   unfold finish
   rw[hf,Option.map_some,nB (by decide)]
   simp
  ·refine⟨_,⟨ds,.box aJ (cn ds).flatten,[],2,rfl,.inl (by rw[HV]),⟨fun j e hj=>?_,rfl,fun j e hj=>?_⟩,rfl,fun j e hj=>absurd hj (by omega),by simp(disch:=omega)only[aL,aa,simprocAttr]⟩,by simp(disch:=omega)only[aL,aa,simprocAttr,apb]⟩
   ·obtain⟨a1,a2,a3,a4⟩:=ju j e hj
    exact⟨a1,a2,by rw[a3];exact acg (by have:=(aoR.1 hj).1;omega)⟩
   ·obtain⟨a1,a2,a3,a4⟩:=ju j e hj
    exact⟨(pn j e hj).1,(pn j e hj).2,fun _=>a4⟩
 obtain⟨r,h1,es,rfl,h2⟩:=key
 exact⟨es,h1,h2⟩
theorem AM{n:Nat}(h:n<32):kP (n:Int)=⟨0,1,(n:Int)⟩:=by
 unfold kP
 have h1:((n:Int) / 32)=0:=by omega
 have h2:((n:Int) % 32)=n:=by omega
 rw[h1,h2];rfl
theorem UZ{a b:Nat}(ha:a<32)(hb:b<32)(h:kP (a:Int)=kP (b:Int)):a=b:=by
 rw[AM ha,AM hb] at h
 have:=ari Id.index h
 simp only at this
 omega
theorem Gl(two:Bool)(l0 l1:List Id)(es:List Def):∀ m∈fW two l0 l1,fM ⟨fW two l0 l1,es⟩ m.id=some m:=by
 intro m hm
 cases two with
 | false =>
  simp only[fW,apC,ap2,ao3] at hm
  subst hm
  simp[fM,fW]
 | true =>
  simp only[fW,ap4,ao8,apY,aqM] at hm
  have bB:(kP 0==kP 1)=false:=by decide
  rcases hm with rfl|rfl
  ·simp[fM,fW]
  ·simp only[fM,fW,ap4,List.find?_cons,bB,arq]
theorem OP{two:Bool}{es:List Def}(h:CD two es)(hl:es.length<=8)(ms:List Mod):∀ d∈es,oJ ⟨ms,es⟩ d.id=some d:=by
 intro d hd
 obtain⟨j,hj⟩:=apn.1 hd
 have Dr:=(aoR.1 hj).1
 have su:bO two<=2:=by cases two<;>decide
 unfold oJ
 cases hf:es.find? (fun q=>q.id==d.id) with
 | none =>
  have:=List.find?_eq_none.1 hf d hd
  simp at this
 | some q =>
  obtain⟨k,hk⟩:=apn.1 (List.mem_of_find?_eq_some hf)
  have AF:=(aoR.1 hk).1
  have hid:q.id=d.id:=Pd hf
  have h1:=(h j d hj).1
  have h2:=(h k q hk).1
  rw[h1,h2] at hid
  have e:bO two+k=bO two+j:=UZ (by omega) (by omega) (by simpa using hid)
  have:k=j:=by omega
  subst this
  rw[hj] at hk
  exact hk.symm
theorem ach{s:ga}(h:NR s):46∉s:=by
 unfold NR iA at h
 simp only[apj,apv,ao8,apY,aqM] at h
 rcases h with rfl|rfl|rfl|rfl|rfl|rfl|rfl|rfl|rfl<;>decide
theorem W2{s:ga}(h:NR s):s.length<=10:=by
 unfold NR iA at h
 simp only[apj,apv,ao8,apY,aqM] at h
 rcases h with rfl|rfl|rfl|rfl|rfl|rfl|rfl|rfl|rfl<;>decide
theorem CD.mem{two:Bool}{es:List Def}(h:CD two es){d:Def}(hd:d∈es):∃ j:Nat,j<es.length/\d.id=kP ((bO two:Nat)+(j:Nat))/\(d.mod=kP 0\/(two=true/\d.mod=kP 1))/\NR d.name:=by
 obtain⟨j,hj⟩:=apn.1 hd
 exact⟨j,(aoR.1 hj).1,h j d hj⟩
theorem Af:ji=jL->False:=by decide
theorem J5:46∉ji:=by decide
theorem WG:46∉jL:=by decide
theorem J4:ji.length<=1000000:=by decide
theorem WE:jL.length<=1000000:=by decide
theorem Jg{two:Bool}{l0 l1:List Id}{es:List Def}(h:CD two es)(hl:es.length<=8):NU ⟨fW two l0 l1,es⟩:=by
 refine⟨Gl two l0 l1 es,OP h hl _,?_,?_,fun d hd=>?_,fun d hd=>?_⟩
 ·intro m hm n hn he
  cases two with
  | false =>
   simp only[fW,apC,ap2,ao3] at hm hn
   subst hm;subst hn;rfl
  | true =>
   simp only[fW,ap4,ao8,apY,aqM] at hm hn
   rcases hm with rfl|rfl<;>rcases hn with rfl|rfl<;>first|rfl|exact (Af he).elim|exact (Af he.symm).elim
 ·intro m hm
  cases two with
  | false =>
   simp only[fW,apC,ap2,ao3] at hm
   subst hm;exact J5
  | true =>
   simp only[fW,ap4,ao8,apY,aqM] at hm
   rcases hm with rfl|rfl
   ·exact J5
   ·exact WG
 ·obtain⟨j,_,_,_,hk⟩:=h.mem hd
  exact ach hk
 ·obtain⟨j,_,_,hm,_⟩:=h.mem hd
  rcases hm with hm|⟨ht,hm⟩
  ·exact⟨_,ao9 ..,hm.symm⟩
  ·subst ht
   exact⟨⟨kP 1,jL,[kP 0],dcC l1⟩,by simp[fW],hm.symm⟩
theorem Sa{two:Bool}{l0 l1:List Id}{es:List Def}(h:CD two es)(hl:es.length<=8):Fit ⟨fW two l0 l1,es⟩:=by
 refine⟨?_,by show es.length<=12;omega,?_,?_,fun d hd=>?_⟩
 ·show (fW two l0 l1).length<=_
  rw[mI];cases two<;>decide
 ·intro m hm
  cases two with
  | false =>
   simp only[fW,apC,ap2,ao3] at hm
   subst hm
   exact⟨by simp,by simp⟩
  | true =>
   simp only[fW,ap4,ao8,apY,aqM] at hm
   rcases hm with rfl|rfl
   ·exact⟨by simp,by simp⟩
   ·refine⟨by simp,fun x hx=>?_⟩
    rw[ao3.1 hx]
    simp[fM,fW]
 ·intro m hm
  cases two with
  | false =>
   simp only[fW,apC,ap2,ao3] at hm
   subst hm;exact J4
  | true =>
   simp only[fW,ap4,ao8,apY,aqM] at hm
   rcases hm with rfl|rfl
   ·exact J4
   ·exact WE
 ·obtain⟨j,_,_,_,hk⟩:=h.mem hd
  have:=W2 hk
  omega
section
def W6(args:List AV)(H:ah):Option (AV × Option fQ) :=
 match args,H with
 | [],[]=>some (.bool true,none)
 | _,_=>none
noncomputable def Z5:FuncId->Option ax
 | 3=>some ir3
 | 4=>some ir4
 | _=>none
noncomputable def ov9:FuncId->Option (List AV->ah->Option (AV × Option fQ))
 | 3=>none
 | 4=>none
 | 12=>some W6
 | f=>some (aE A f)
noncomputable def A9:AP:={ fns:=Z5,ov:=ov9,aN:=K1 }
theorem c9{f:FuncId}(h:A9.ov f=some (aE A f)){args:List AV}{H:ah}{r:AV × Option fQ}(hr:aE A f args H=some r)(hn:args.all pV=true:=by rfl):aE A9 f args H=some r:=xi (g:=aE A f) h hr hn
theorem abW:aE A9 12 [] []=some (.bool true,none):=xi (g:=W6) rfl rfl
structure Made (p:Prog):Prop where
 fit:Fit p
 apart:NU p
 ml:1<=p.mods.length/\p.mods.length<=2
 dl:p.defs.length<=8
 nb:∀ d∈p.defs,d.id.bN=0
theorem abX(l m:List Int)(hl:∀ n∈l,pr n)(hm:∀ n∈m,pr n)(bad:Int):∃ q p,Made p/\aE A9 6 [.slice (ints l) false] []=some (.agg (aR q),none)/\aE A9 5 [.agg (aR q),.slice (ints m) false,.int .i64 bad] []=some (.agg (aR p),none):=by
 obtain⟨two,l0,l1,ds,h1,ju,h4,h8,hs⟩:=acw l [] hl
 obtain⟨es,h2,YI,Hj⟩:=TN m hm bad (fW two l0 l1) two ds ju (by omega) h8 hs []
 refine⟨_,_,⟨Sa (l0:=l0) (l1:=l1) YI (by omega),Jg YI (by omega),?_,by show es.length<=8;omega,fun d hd=>?_⟩,c9 rfl h1,c9 rfl h2⟩
 ·show 1<=(fW two l0 l1).length/\(fW two l0 l1).length<=2
  rw[mI];cases two<;>decide
 ·obtain⟨j,_,hid,_⟩:=YI.mem hd
  rw[hid];rfl
section
variable {p:Prog}(hp:Made p)
include hp
theorem aeZ(mod:Id)(name:ga)(hn:name.length<=4611686018427387904):∃ o,aE A9 8 [.agg (aR p),.agg (av mod),.str name] []=some (.slice (aF (dC p mod name)) o,none):=by
 obtain⟨o,h⟩:=Pa p hp.fit mod name [] hn
 exact⟨o,c9 rfl h⟩
theorem L2(mod:Id)(name:ga):(dC p mod name).length<=1000000:=by
 have hn:∀ mods name,(dZ p mods name).length<=8:=fun mods name=>by
  rw[dZ,pR]
  exact apV (uD _ _ _) hp.dl
 unfold dC
 split
 ·simp
 ·split
  ·have:=hn (List.filter (kM p (by assumption:ga × ga).1) (mod :: (by assumption:Mod).fX)) name
   exact apV (hn _ _) (by omega)
  ·split
   ·exact apV (hn _ _) (by omega)
   ·exact apV (hn _ _) (by omega)
theorem wi(x:Id):(((fM p x).map (·.name)).getD []).length<=1000000:=by
 cases h:fM p x with
 | none=>simp
 | some m=>exact hp.fit.mn m (List.mem_of_find?_eq_some h)
theorem agn(mod id:Id):aE A9 10 [.agg (aR p),.agg (av mod),.agg (av id)] []=some (.str (gP dC p mod id),none):=by
 refine c9 rfl ?_
 cases hd:oJ p id with
 | none =>
  have:gP dC p mod id=[]:=by rw[gP,hd]
  rw[this]
  exact WW p mod id [] hp.fit.mods (by have:=hp.dl;omega) hd
 | some d =>
  have:gP dC p mod id=if dC p mod d.name=[id] then d.name else if dC p mod (((fM p d.mod).map (·.name)).getD []++[46]++d.name)=[id] then ((fM p d.mod).map (·.name)).getD []++[46]++d.name else []:=by rw[gP,hd]
  rw[this]
  exact WX p mod id d d.name _ [] hp.fit.mods (by have:=hp.dl;omega) hd rfl rfl ⟨wi hp _,hp.fit.dn d (xu hd)⟩ (fun s hs=>Pa p hp.fit mod s [] (by omega)) (fun s=>L2 hp mod s)
theorem ahc(a b:List Id)(ha:a.length<=1000000):aE A9 7 [.slice (aF a) false,.slice (aF b) false] []=some (.bool (a==b),none):=have _:=hp;c9 rfl (Nk a b [] ha)
end
theorem aiE(l:List Id)(x:Id)(hl:l.length<=1000000):aE A9 13 [sW l,.agg (av x)] []=some (.bool (l.contains x),none):=by
 cases l with
 | nil =>
  refine c9 rfl ?_
  show aE A 13 [.ae,.agg (av x)] []=_
  refine cc (fn:=I1) rfl rfl rfl ?_
  unfold I1
  rw[av]
  simp(disch:=omega)only[aL,aa,simprocAttr]
  refine bQ 0 0 (fun i=>Hd (fun T=>T 0=.ae/\T 5=.int .i64 0) [] 0 1) (Hd (fun T=>True) [] 0 1) (fun _=>False) ?_ ?_ (fun _ h=>h.elim) 0 _ (apZ _) ?_
  ·rintro i s hi hs
   obtain⟨T,rfl,h0,h5⟩:=hs.out
   simp(disch:=omega)only[aL,aa,simprocAttr,h0,h5]
   try trivial
  ·rintro s hs
   obtain⟨T,rfl,_⟩:=hs.out
   simp(disch:=omega)only[aL,aa,simprocAttr]
   try rfl
  ·simp(disch:=omega)only[aL,aa,simprocAttr]
   try trivial
 | cons a t=>exact c9 rfl (ae9 (a :: t) x [] hl)
end
def Al(p:Prog)(k:Nat)(d:Def)(j:Nat)(b:Bool):Prop:=b=true->∀ (q:Nat) (e:Def),q<j->p.defs[q]?=some e->q=k\/e.name≠d.name\/e.mod≠d.mod
theorem abV(l m:List Int)(bad:Int)(hl:∀ n∈l,pr n)(hm:∀ n∈m,pr n):aE A9 4 [.slice (ints l) false,.slice (ints m) false,.int .i64 bad] []=some (.bool true,none):=by
 obtain⟨q,p,hp,h6,h5⟩:=abX l m hl hm (bad.tmod 2)
 refine cc (fn:=ir4) rfl rfl rfl ?_
 unfold ir4
 have pO:=abW
 have vi:∀ p:Prog,(aR p).length=2/\(aR p).map AV.drop=aR p/\(aR p).take 2=aR p/\(aR p).all al=true/\(∀ b,(aR p).all (AV.aG b)=true):=fun p=>⟨rfl,rfl,rfl,rfl,fun b=>rfl⟩
 obtain⟨r1,r2,r3,r4,r5⟩:=vi p
 have lO:=hp.dl
 have Kp:=hp.ml
 have hp2:aR p=[.slice (cx p.mods) false,.slice (cn p.defs) false]:=rfl
 have n1:=fun mod id=>agn hp mod id
 have f1:=fun mod name hn=>aeZ hp mod name hn
 rw[hp2] at h5 r1 r2 r3 r4
 simp only[hp2] at r5 n1 f1
 have te:(aR q).map AV.drop=aR q:=rfl
 simp(disch:=omega)only[aL,aa,simprocAttr,h6,h5,te,r1,r2,r3,r4,r5]
 refine bQ p.mods.length 0 (fun i=>w6 (fun T=>T 7=.lbox 0 [.slice (cx p.mods) false,.slice (cn p.defs) false]/\T 8=.int .i64 i) [] 0) (w6 (fun T=>True) [] 0) (fun _=>False) ?_ ?_ (fun _ h=>h.elim) 0 _ (by omega) ?_
 ·rintro i s hi hs
  obtain⟨T,g,rfl,e7,e8⟩:=hs.out
  by_cases jT:i<p.mods.length
  ·have hmi:=aoT jT
   have hmm:p.mods[i]∈p.mods:=aqy jT
   generalize p.mods[i]=mo at hmi hmm
   have hma:=CG hmi
   have Tv:=Sh (m:=mo)
   have hm4:=Si (m:=mo)
   rw[av] at Tv
   simp(disch:=omega)only[aL,aa,simprocAttr,e7,e8,gO]
   refine bQ p.defs.length 2 (fun k=>w6 (fun T=>T 7=.lbox 0 [.slice (cx p.mods) false,.slice (cn p.defs) false]/\T 8=.int .i64 i/\T 9=.int .i64 k) [] 0) (w6 (fun T=>T 7=.lbox 0 [.slice (cx p.mods) false,.slice (cn p.defs) false]/\T 8=.int .i64 i) [] 0) (fun _=>False) ?_ ?_ (fun _ h=>h.elim) 0 _ (by omega) ?_
   ·rintro k s hk hs
    obtain⟨T,g,rfl,e7,e8,e9⟩:=hs.out
    by_cases iV:k<p.defs.length
    ·have hdk:=aoT iV
     have hdm:p.defs[k]∈p.defs:=aqy iV
     generalize p.defs[k]=d at hdk hdm
     have hda:=tV hdk
     have NH:=xw (d:=d)
     have hd4:=Aj (d:=d)
     have hd7:=DZ (d:=d)
     have su:=n1 mo.id d.id
     have am4:(gP dC p mo.id d.id).length<=3000000:=by
      have hx:=wi hp d.mod
      have hy:=hp.fit.dn d hdm
      unfold gP
      split
      ·simp
      ·rename_i d' IH
       have:d'=d:=apA (IH.symm.trans (hp.apart.defs d hdm))
       subst this
       split
       ·omega
       ·split
        ·simp only[ao6,apt];omega
        ·simp
     obtain⟨of,hfd⟩:=f1 mo.id (gP dC p mo.id d.id) (by omega)
     have aaA:=fun h=>Jm (p:=p) (mod:=mo.id) (id:=d.id) h
     have hsm:=fun a ha=>ahc hp a [d.id] ha
     have II:aF [d.id]=[[.int .i64 d.id.bN,.int .i64 d.id.seq,.int .i64 d.id.index]]:=rfl
     simp only[II] at hsm
     have UG:=aiE mo.fX d.mod (by have:=(hp.fit.fX mo hmm).1;omega)
     have jJ:=fun hn hs ha=>MT hp.apart hmm hdm hn hs ha
     generalize gP dC p mo.id d.id=s0 at *
     rw[av] at NH hd4 UG
     simp only[av] at su hfd
     by_cases hs0:s0=[]
     ·subst hs0
      have hee:(([]:ga) != [])=false:=by decide
      have aiT:(([]:ga)==[])=true:=by decide
      have hU:sW mo.fX=.ae\/sW mo.fX=.slice (aF mo.fX) false:=by
       cases mo.fX with
       | nil=>exact .inl rfl
       | cons a t=>exact .inr rfl
      have jg:∀ (sn b:Bool),(sn=true->d.mod=mo.id\/d.mod∈mo.fX)->Al p k d p.defs.length b->(sn&&b&&(d.name != []))=false:=by
       intro sn b h1 h2
       cases hb:(sn&&b&&(d.name != [])) with
       | false=>rfl
       | true =>
        exfalso
        simp only[Bool.and_eq_true,bne_iff_ne,ne_eq] at hb
        obtain⟨⟨ze,iO⟩,hb3⟩:=hb
        refine jJ hb3 (h1 ze) (fun e he h3 h4=>?_) rfl
        obtain⟨j,hj⟩:=apn.1 he
        rcases h2 iO j e (aoR.1 hj).1 hj with h5|h5|h5
        ·subst h5;rw[hdk] at hj;cases hj;rfl
        ·exact absurd h3 h5
        ·exact absurd h4 h5
      have aak:∃ sn:Bool,(sn=true->d.mod=mo.id\/d.mod∈mo.fX)/\(((d.mod==mo.id)=true/\sn=true)\/((d.mod==mo.id)=false/\mo.fX.contains d.mod=sn)):=by
       cases c1:(d.mod==mo.id) with
       | true=>exact⟨true,fun _=>.inl (eq_of_beq c1),.inl ⟨rfl,rfl⟩⟩
       | false=>exact⟨_,fun h=>.inr (List.contains_iff_mem.1 h),.inr ⟨rfl,rfl⟩⟩
      obtain⟨sn,wW,fi⟩:=aak
      rcases hU with hU|hU<;>rcases fi with ⟨c1,Tr⟩|⟨c1,Tr⟩
      all_goals
       rw[hU] at hm4 UG
       have ajl:((dK mo).drop 4)[0]?=_:=(by rw[apq]:((dK mo).drop 4)[0]?=(dK mo)[4+0]?).trans hm4
       try rw[Tr] at UG
       simp(disch:=omega)only[aL,aa,simprocAttr,e7,e8,e9,gO,dm,hma,hda,Tv,NH,hd4,iJ,iP,iQ,gI,j0,cJ,cQ,cS,cv,dH,su,hee,aiT,hm4,ajl,UG,fT,ib,c1]
       refine bQ p.defs.length 4 (fun j=>w6 (fun T=>T 7=.lbox 0 [.slice (cx p.mods) false,.slice (cn p.defs) false]/\T 8=.int .i64 i/\T 9=.int .i64 k/\T 10=.lbox g (bg d)/\T 12=.bool sn/\T 14=.int .i64 j/\∃ b,T 13=.bool b/\Al p k d j b) [] 0)
        (w6 (fun T=>T 7=.lbox 0 [.slice (cx p.mods) false,.slice (cn p.defs) false]/\T 8=.int .i64 i/\T 9=.int .i64 k/\T 10=.lbox g (bg d)/\T 12=.bool sn/\∃ b,T 13=.bool b/\Al p k d p.defs.length b) [] 0) (fun _=>False) ?_ ?_ (fun _ h=>h.elim) 0 _ (by omega) ?_
       ·rintro j s hj hs
        obtain⟨T,g',rfl,b7,b8,b9,N',b12,b14,b,b13,Md⟩:=hs.out
        by_cases iL:j<p.defs.length
        ·have hq:=aoT iL
         generalize p.defs[j]=q at hq
         have hqa:=tV hq
         have q4:=Aj (d:=q)
         have q7:=DZ (d:=q)
         rw[av] at q4
         have q7' : ((bg q).drop 7)[0]?=some (.str q.name):=by rw[apq];exact q7
         have q27:(List.drop 4 (bg q)).length=27:=by rw[aqV,cJ]
         have Kt:∀ b' : Bool,(b'=true->b=true/\(j=k\/q.name≠d.name\/q.mod≠d.mod))->Al p k d (j+1) b':=by
          intro b' h fP q' e' YV uS
          obtain⟨x1,x2⟩:=h fP
          by_cases hqj:q'=j
          ·subst hqj;rw[hq] at uS;cases uS;exact x2
          ·exact Md x1 q' e' (by omega) uS
         cases b with
         | false =>
          simp(disch:=omega)only[aL,aa,simprocAttr,b7,b8,b9,N',b12,b13,b14,dm]
          exact⟨iL,_,rfl,Kt _ (fun h=>by cases h)⟩
         | true =>
          cases x1:((j:Int)==k)<;>cases x2:(q.name==d.name)<;>cases x3:(q.mod==d.mod)
          all_goals
           simp(disch:=omega)only[aL,aa,simprocAttr,b7,b8,b9,N',b12,b13,b14,gO,dm,cJ,cQ,cS,cv,dH,hd4,hd7,hqa,q4,q7,q7',q27,fT,ib,x1,x2,x3]
           refine⟨iL,_,rfl,Kt _ (fun h=>?_)⟩
           first|(cases h;done)|exact⟨rfl,.inl (by simp at x1;omega)⟩|exact⟨rfl,.inr (.inl (by simpa using x2))⟩|exact⟨rfl,.inr (.inr (by simpa using x3))⟩
        ·have hjn:p.defs.length=j:=by omega
         simp(disch:=omega)only[aL,aa,simprocAttr,b7,b8,b9,N',b12,b13,b14,dm]
         exact⟨_,rfl,by rw[hjn];exact Md⟩
       ·rintro s hs
        obtain⟨T,g',rfl,b7,b8,b9,N',b12,b,b13,Md⟩:=hs.out
        have hz:=jg sn b wW Md
        cases sn<;>cases b<;>cases Ts:(d.name != [])<;>simp only[Ts,Bool.and_true,arw,aql,aqb,Bool.and_self] at hz
        all_goals
         first
         | (exfalso;revert hz;decide)
         | (have hdq:(d.name==[])=!(d.name != []):=(by simp[bne]);rw[Ts] at hdq;simp(disch:=omega)only[aL,aa,simprocAttr,hdq,b7,b8,b9,N',b12,b13,gO,dm,cJ,cQ,cS,cv,dH,hd4,hd7,Ts];exact iV)
       ·simp(disch:=omega)only[aL,aa,simprocAttr,apb,Tr]
        first|exact⟨e7,e8,e9,_,rfl,fun _ q e hq=>absurd hq (by omega)⟩|exact⟨_,rfl,fun _ q e hq=>absurd hq (by omega)⟩|exact⟨rfl,_,rfl,fun _ q e hq=>absurd hq (by omega)⟩|exact⟨Tr.symm,_,rfl,fun _ q e hq=>absurd hq (by omega)⟩|done
     ·have bB:(s0 != [])=true:=by simpa using hs0
      have ajp:(s0==[])=false:=by simpa using hs0
      have hfs:=aaA hs0
      rw[hfs] at hfd
      have hss:=hsm [d.id] (by simp)
      rw[arq] at hss
      simp only[II] at hfd hss
      cases of
      all_goals
       simp(disch:=omega)only[aL,aa,simprocAttr,e7,e8,e9,gO,dm,hma,hda,Tv,NH,iJ,iP,iQ,gI,j0,cJ,cQ,cS,cv,dH,su,bB,ajp,hfd,hss]
       first|exact iV|exact⟨iV,rfl⟩
    ·have:k=p.defs.length:=by omega
     subst this
     simp(disch:=omega)only[aL,aa,simprocAttr,e7,e8,e9,dm]
   ·rintro s hs
    obtain⟨T,g,rfl,e7,e8⟩:=hs.out
    simp(disch:=omega)only[aL,aa,simprocAttr,e7,e8]
    exact jT
   ·simp(disch:=omega)only[aL,aa,simprocAttr,e7,e8,apb]
  ·have:i=p.mods.length:=by omega
   subst this
   simp(disch:=omega)only[aL,aa,simprocAttr,e7,e8,gO]
 ·rintro s hs
  obtain⟨T,g,rfl,_⟩:=hs.out
  simp(disch:=omega)only[aL,aa,simprocAttr,pO]
 ·simp(disch:=omega)only[aL,aa,simprocAttr,apb]
theorem fo{f:FuncId}{fn:Func}{i kK:ax}{a b c:List Nat}(h:Tryz.prog.funcs[f]?=some fn)(k:kU Tryz.prog a b c fn=some i)(e:some i=some kK):∃ fn bF locals muts,Tryz.prog.funcs[f]?=some fn/\kU Tryz.prog bF locals muts fn=some kK:=by
 injection e with e
 subst e
 exact⟨_,_,_,_,h,k⟩
theorem Ch(f:FuncId)(kK:ax)(h:Pc f=some kK):∃ fn bF locals muts,Tryz.prog.funcs[f]?=some fn/\kU Tryz.prog bF locals muts fn=some kK:=by
 unfold Pc at h
 split at h
 ·exact fo Tryz.func3 RJ h
 ·exact fo Tryz.func4 RQ h
 ·exact fo Tryz.func5 abj h
 ·exact fo Tryz.func7 abA h
 ·exact fo Tryz.func8 abH h
 ·exact fo Tryz.func9 abQ h
 ·exact fo Tryz.func10 U2 h
 ·exact fo Tryz.func11 U3 h
 ·exact fo Tryz.func12 U4 h
 ·exact fo Tryz.func13 U5 h
 ·exact fo Tryz.func14 U6 h
 ·exact fo Tryz.func15 U7 h
 ·exact fo Tryz.func16 U8 h
 ·exact fo Tryz.func17 U9 h
 ·exact fo Tryz.func18 U' h
 ·exact fo Tryz.func19 Va h
 ·exact fo Tryz.func20 Vb h
 ·exact fo Tryz.func21 Vc h
 ·exact fo Tryz.func22 Vd h
 ·exact fo Tryz.func23 Ve h
 ·exact fo Tryz.func24 Vf h
 ·exact fo Tryz.func25 Vg h
 ·exact fo Tryz.func26 Vh h
 ·exact fo Tryz.func27 Vi h
 ·exact fo Tryz.func28 Vj h
 ·exact fo Tryz.func29 Vk h
 ·exact fo Tryz.func30 Vl h
 ·exact fo Tryz.func31 Vm h
 ·exact fo Tryz.func32 Vn h
 ·exact fo Tryz.func33 Vo h
 ·exact fo Tryz.func34 Vp h
 ·exact fo Tryz.func35 Vq h
 ·exact fo Tryz.func36 Vs h
 ·exact fo Tryz.func37 Vt h
 ·exact fo Tryz.func38 Vu h
 ·exact fo Tryz.func39 Vv h
 ·exact fo Tryz.func40 Vw h
 ·exact fo Tryz.func41 Vx h
 ·exact fo Tryz.func42 Vy h
 ·exact fo Tryz.func43 Vz h
 ·exact fo Tryz.func44 VA h
 ·exact fo Tryz.func45 VB h
 ·exact fo Tryz.func46 VC h
 ·exact fo Tryz.func47 VD h
 ·exact fo Tryz.func48 VE h
 ·exact fo Tryz.func49 VF h
 ·exact fo Tryz.func50 VG h
 ·exact fo Tryz.func51 VH h
 ·exact fo Tryz.func52 VI h
 ·exact fo Tryz.func53 VJ h
 ·exact fo Tryz.func54 VK h
 ·exact fo Tryz.func55 VL h
 ·exact fo Tryz.func56 VM h
 ·exact fo Tryz.func57 VN h
 ·exact fo Tryz.func58 VO h
 ·exact fo Tryz.func59 VP h
 ·exact fo Tryz.func60 VQ h
 ·exact fo Tryz.func61 VS h
 ·exact fo Tryz.func62 VT h
 ·exact fo Tryz.func63 VU h
 ·exact fo Tryz.func64 VV h
 ·exact fo Tryz.func65 VW h
 ·exact fo Tryz.func66 VX h
 ·exact fo Tryz.func67 VY h
 ·exact fo Tryz.func68 VZ h
 ·exact fo Tryz.func69 V0 h
 ·exact fo Tryz.func70 V1 h
 ·exact fo Tryz.func71 V2 h
 ·exact fo Tryz.func72 V3 h
 ·exact fo Tryz.func73 V4 h
 ·exact fo Tryz.func74 V5 h
 ·exact fo Tryz.func75 V6 h
 ·exact fo Tryz.func76 V7 h
 ·exact fo Tryz.func77 V8 h
 ·exact fo Tryz.func78 V9 h
 ·exact fo Tryz.func79 V' h
 ·exact fo Tryz.func80 Wb h
 ·exact fo Tryz.func81 Wc h
 ·exact fo Tryz.func82 Wd h
 ·exact fo Tryz.func86 We h
 ·exact fo Tryz.func87 Wf h
 ·exact fo Tryz.func88 Wg h
 ·exact fo Tryz.func89 Wh h
 ·exact fo Tryz.func90 Wi h
 ·exact fo Tryz.func91 Wj h
 ·exact fo Tryz.func92 Wk h
 ·exact fo Tryz.func93 Wl h
 ·exact fo Tryz.func94 Wm h
 ·exact fo Tryz.func95 Wn h
 ·exact fo Tryz.func96 Wo h
 ·exact fo Tryz.func97 Wp h
 ·exact fo Tryz.func98 Wq h
 ·exact fo Tryz.func99 Wr h
 ·exact fo Tryz.func100 PW h
 ·exact fo Tryz.func101 PY h
 ·exact fo Tryz.func102 P0 h
 ·exact fo Tryz.func103 P2 h
 ·exact fo Tryz.func104 P4 h
 ·exact fo Tryz.func105 P6 h
 ·exact fo Tryz.func106 P8 h
 ·exact fo Tryz.func107 Qa h
 ·exact fo Tryz.func108 Qc h
 ·exact fo Tryz.func109 Qe h
 ·exact fo Tryz.func110 Qg h
 ·exact fo Tryz.func111 Qi h
 ·exact fo Tryz.func112 Qk h
 ·exact fo Tryz.func113 Qm h
 ·exact fo Tryz.func114 Qo h
 ·exact fo Tryz.func115 Qq h
 ·exact fo Tryz.func116 Qs h
 ·exact fo Tryz.func119 Qu h
 ·exact fo Tryz.func120 Qw h
 ·exact fo Tryz.func121 Qy h
 ·exact fo Tryz.func122 QA h
 ·exact fo Tryz.func123 QC h
 ·exact fo Tryz.func124 QE h
 ·exact fo Tryz.func125 QG h
 ·exact fo Tryz.func126 QI h
 ·exact fo Tryz.func127 QK h
 ·exact fo Tryz.func128 QM h
 ·exact fo Tryz.func129 QO h
 ·exact fo Tryz.func130 QQ h
 ·exact fo Tryz.func131 F3 h
 ·exact fo Tryz.func132 QS h
 ·exact fo Tryz.func133 QU h
 ·exact fo Tryz.func134 QW h
 ·exact fo Tryz.func135 QY h
 ·exact fo Tryz.func137 Q0 h
 ·exact fo Tryz.func138 Q2 h
 ·exact fo Tryz.func139 Q4 h
 ·exact fo Tryz.func140 Q7 h
 ·exact fo Tryz.func141 Q9 h
 ·exact fo Tryz.func143 Rb h
 ·exact fo Tryz.func144 Rd h
 ·exact fo Tryz.func146 Rf h
 ·exact fo Tryz.func147 Rh h
 ·exact fo Tryz.func148 Rj h
 ·exact fo Tryz.func149 Rl h
 ·exact fo Tryz.func150 Ro h
 ·exact fo Tryz.func151 Rq h
 ·exact fo Tryz.func169 Rs h
 ·exact fo Tryz.func170 Rv h
 ·exact fo Tryz.func183 Rx h
 ·cases h
theorem Sw(f:FuncId)(g:List AV->ah->Option (AV × Option fQ))(h:ov0 f=some g):jb Tryz.prog K1 f g:=by
 unfold ov0 at h
 split at h
 ·injection h with h;subst h;exact v8
 ·injection h with h;subst h;exact uk
 ·cases h
theorem wX:mZ Tryz.prog A0:=⟨by kernel_rfl,Ch,Sw⟩
theorem S3:jb Tryz.prog K1 131 rZ:=Nn wX Tryz.func131 F3
theorem ack(f:FuncId)(g:List AV->ah->Option (AV × Option fQ))(h:ov1 f=some g):jb Tryz.prog K1 f g:=by
 unfold ov1 at h
 split at h
 ·injection h with h;subst h;exact S3
 ·injection h with h;subst h;exact v8
 ·injection h with h;subst h;exact uk
 ·cases h
theorem W8:mZ Tryz.prog A1:=⟨wX.mixed,Ch,ack⟩
theorem R' : jb Tryz.prog K1 12 W6:=by
 have h:=ZQ W8 60 12
 intro args H r c he
 unfold W6 at he
 split at he
 ·injection he with he
  injection he with e1 e2
  subst e1 e2
  exact h _ _ _ _ MM
 ·cases he
theorem agx:NX Tryz.prog A:=by
 refine⟨wX.mixed,fun f v h=>?_,Sw⟩
 have h' : fns f=some v:=h
 unfold fns at h'
 split at h'
 ·injection h' with h'
  subst h'
  exact⟨_,_,_,_,_,Tryz.func6,abo,.inr MB⟩
 ·obtain⟨fn,a,b,c,h1,h2⟩:=Ch f v h'
  exact⟨fn,a,b,c,v,h1,h2,.inl rfl⟩
theorem Ut(f:FuncId)(kK:ax)(h:Z5 f=some kK):∃ fn bF locals muts,Tryz.prog.funcs[f]?=some fn/\kU Tryz.prog bF locals muts fn=some kK:=by
 unfold Z5 at h
 split at h
 ·exact fo Tryz.func3 RJ h
 ·exact fo Tryz.func4 RQ h
 ·cases h
theorem acm(f:FuncId)(g:List AV->ah->Option (AV × Option fQ))(h:ov9 f=some g):jb Tryz.prog A9.aN f g:=by
 unfold ov9 at h
 split at h
 ·cases h
 ·cases h
 ·injection h with h;subst h;exact R'
 ·injection h with h;subst h;exact Ok agx
theorem W9:mZ Tryz.prog A9:=⟨wX.mixed,Ut,acm⟩
end Go.Proofs.YthbncinhhdogpaaGreatDoor
