/-
  A part of the proof of SyntaxTokens: T38, T39, T40, T43, T44, T45, T46, T47, T48, T49.
-/
import Derived.Test.YtbdhkgiakaegdaaGreatDoorP20
set_option linter.unusedSimpArgs false
set_option linter.unusedVariables false
set_option linter.defProp false
set_option maxHeartbeats 1000000
set_option maxRecDepth 100000
namespace Go.Proofs.YtbdhkgiakaegdaaGreatDoor
open Go Go.Abs Go.Proofs
theorem qQ{z:Nat} : ∀ {rows:List (List AV)},(∀ r∈rows,r.length=z)->rows.flatten.length=rows.length*z
 | [],_=>by simp
 | r :: rows,h=>by
  rw[ao7,aod,qQ (fun r hr=>h r (apb _ hr)),h r (aox ..),an0,aoM,apU,aqz]
theorem Bq{z:Nat} : ∀ {rows:List (List AV)} {i:Nat} {r:List AV} (j:Nat),(∀ r∈rows,r.length=z)->rows[i]?=some r->j<=z->rows.flatten.drop (i*z+j)=r.drop j++(rows.drop (i+1)).flatten
 | [],i,r,j,_,hi,_=>by simp at hi
 | a :: rows,0,r,j,h,hi,hj=>by
  simp only[aor,anV] at hi
  subst hi
  have ha:=h a (aox ..)
  rw[aqj,Nat.zero_add,ao7,List.drop_append_of_le_length (by omega)]
  rfl
 | a :: rows,i+1,r,j,h,hi,hj=>by
  have ha:=h a (aox ..)
  have e:(i+1)*z+j=a.length+(i*z+j):=by rw[aoM,apU,ha];omega
  rw[e,ao7,<- aqk,List.drop_left' rfl,Bq j (fun r hr=>h r (apb _ hr)) (by simpa using hi) hj]
  rfl
theorem Gu{z:Nat} : ∀ {rows:List (List AV)} {i j:Nat} {r cs:List AV},(∀ r∈rows,r.length=z)->rows[i]?=some r->j+cs.length<=z->putAt rows.flatten (i*z+j) cs=(rows.set i (putAt r j cs)).flatten
 | [],i,j,r,cs,_,hi,_=>by simp at hi
 | a :: rows,0,j,r,cs,h,hi,hj=>by
  simp only[aor,anV] at hi
  subst hi
  have ha:=h a (aox ..)
  simp only[putAt,aqj,Nat.zero_add,ao7,List.set_cons_zero]
  rw[aqB (by omega),List.drop_append_of_le_length (by omega)]
  simp only[apd]
 | a :: rows,i+1,j,r,cs,h,hi,hj=>by
  have ha:=h a (aox ..)
  have ih:=Gu (j:=j) (cs:=cs) (fun r hr=>h r (apb _ hr)) (by simpa using hi) hj
  have e:(i+1)*z+j=a.length+(i*z+j):=by rw[aoM,apU,ha];omega
  simp only[ao7,List.set_cons_succ,<- ih]
  simp only[putAt,e]
  rw[List.take_length_add_append,apR,List.drop_length_add_append]
  simp only[apd]
theorem wH{z:Nat} : ∀ {rows:List (List AV)},(∀ r∈rows,r.length=z)->chunks z rows.length rows.flatten=rows
 | [],_=>rfl
 | r :: rows,h=>by
  have hr:=h r (by simp)
  rw[an0,chunks,ao7,<- hr,List.take_left' rfl,List.drop_left' rfl,hr,wH fun r hr=>h r (by simp[hr])]
theorem DK{A:AP}{T:aU}{H:ai}{lo gen t:Nat}{os:List aO}{K:AS->Prop}{x:aC} : WO A false (⟨some t,none,.xi x⟩ :: os) ⟨T,H,lo,gen⟩ K =
  bS ((x.eval A.aZ T).drop.cells.bind fun cs=>cond (cs.all aH) (some cs) none) fun cs=>WO A false os ⟨T.put t (.ref H.length 0),H++[.ba (cs.map AV.drop)],cond (Nat.blt H.length lo) H.length lo,gen⟩ K:=by
 rw[nJ rfl]
 simp only[aA]
 cases (x.eval A.aZ T).drop.cells with
 | none=>simp[bS]
 | some cs =>
  simp only[an8]
  cases cs.all aH with
  | false=>simp[bS]
  | true=>simp only[cond_true,aJ];rfl
theorem fW{cs:List AV}{agg:Bool}{sz off:Nat} : oS (some (.ba cs)) agg sz off=ab false agg sz off cs:=rfl
def wQ:AV->Bool
 | .int .u8 _=>false
 | .int _ _=>true
 | .str _=>true
 | .bool _=>true
 | .slice _ o=>!o
 | _=>false
theorem y3{x:AV}(h:wQ x=true):x.drop=x/\x.plain=true/\pU x=true/\∀ H b k,je H b k x=x:=by
 cases x with
 | int k n=>cases k<;>first|(exact⟨rfl,rfl,rfl,fun H b k=>by cases k<;>rfl⟩)|(simp[wQ] at h)
 | str s=>exact⟨rfl,rfl,rfl,fun H b k=>by cases k<;>rfl⟩
 | bool s=>exact⟨rfl,rfl,rfl,fun H b k=>by cases k<;>rfl⟩
 | slice e o =>
  cases o with
  | false=>exact⟨rfl,rfl,rfl,fun H b k=>by cases k<;>rfl⟩
  | true=>simp[wQ] at h
 | _=>simp[wQ] at h
theorem Bs{H:ai}{base l z k:Nat}{o:cJ}{rows:List (List AV)}(hb:base<=l)(hl:H[l]?=some o)(ho:pa o=some rows.flatten)(hw:∀ r∈rows,r.length=z)(hz:0<z)
  (hp:∀ r∈rows,r.all wQ=true):je H base (k+1) (.sref l 0 rows.length z)=.slice rows false:=by
 have hx:∀ x∈rows.flatten,wQ x=true:=by
  intro x hx
  obtain⟨r,hr,hx⟩:=aqI.1 hx
  exact an'.1 (hp r hr) x hx
 have h1:(rows.flatten.all fun x=>(je H base k x.drop).plain&&pU x)=true:=by
  rw[an']
  intro x h
  obtain⟨a1,a2,a3,a4⟩:=y3 (hx x h)
  rw[a1,a4,a2,a3];rfl
 have h2:rows.flatten.map (fun x=>je H base k x.drop)=rows.flatten:=by
  conv=>rhs;rw[<- List.map_id rows.flatten]
  refine aoA fun x h=>?_
  obtain⟨a1,a2,a3,a4⟩:=y3 (hx x h)
  rw[a1,a4];rfl
 have h4:=qQ hw
 rw[je]
 simp only[ao1 hb,cond_true,hl,an8,ho,h1,h2,h4,Nat.zero_add,ape,ao1 (an4 _),Bool.and_true]
 rw[show Nat.blt 0 z=true by simpa [aoE] using hz,cond_true,wH hw]
theorem Nt{x:AV}{base:Nat}(h:x.plain=true):x.bd base=true:=by
 cases x<;>first|(simp[AV.plain] at h;done)|exact h
theorem Wv{x:AV}{H:ai}{base k:Nat}(h:x.bd base=true):je H base k x=x:=by
 cases k with
 | zero=>rfl
 | succ k =>
  cases x with
  | sref l o n z =>
   have:Nat.ble base l=false:=by
    simp only[AV.bd,aoE] at h
    cases hb:Nat.ble base l with
    | false=>rfl
    | true=>rw[aoU] at hb;omega
   simp only[je,this,anZ]
  | _=>rfl
theorem IY(x:AV):x.drop.drop=x.drop:=by cases x<;>rfl
theorem uw(cs:List AV):(cs.map AV.drop).map AV.drop=cs.map AV.drop:=by
 rw[apH];exact aoA fun x _=>IY x
theorem C3{base tc tr n g:Nat}{fn:aP}{s:AS}{cs out:List AV}{r:Int}(hr:fn.results=[.cell tc true n,.tmp tr])(m8:fn.muts.elem 888888=false)(m7:fn.muts.elem 777777=true)
  (hT:s.T tc=.lbox g cs) (hR:s.T tr=.int .i64 r) (hn:cs.length=n) (wX:s.lo=base) (vo:((cs.map AV.drop).map (je s.H base 3)).all AV.plain=true) (ho:((cs.map AV.drop).map (je s.H base 3)).map n2=out) :
  finish base fn s=some (.tuple [.agg out,.int .i64 r],none):=by
 have h1:rp base s=true:=by simp[rp,wX]
 have hc:jy s (.cell tc true n)=some (.agg (cs.map AV.drop)):=by
  simp only[jy,hT,ab,cond_true,Nat.zero_add,hn,ao1 (an4 _),ape]
  rw[<- hn,aps]
 have ht:jy s (.tmp tr)=some (.int .i64 r):=by simp only[jy,hR,aH,cond_true]
 have fH:lj s [.cell tc true n,.tmp tr]=some [.agg (cs.map AV.drop),.int .i64 r]:=by
  simp only[lj,hc,ht,an8,aoi,AV.bU,uw,AV.drop]
 have h3:pL base fn s=some (.tuple [.agg ((cs.map AV.drop).map (je s.H base 3)),.int .i64 r],none):=by
  unfold pL xJ rK
  rw[h1,m8,hr]
  simp only[cond_true,anZ]
  cases hl:(cs.map AV.drop).all (AV.bd base) with
  | true =>
   have e:(cs.map AV.drop).map (je s.H base 3)=cs.map AV.drop:=by
    conv=>rhs;rw[<- List.map_id (cs.map AV.drop)]
    exact aoA fun x hx=>Wv (an'.1 hl x hx)
   have h0:j3 base [.cell tc true n,.tmp tr] s=some (.tuple [.agg (cs.map AV.drop),.int .i64 r],none):=by
    simp only[j3,mw,fH,aoi,an8,AV.leaves,aoV,ao5,AV.bN,AV.bd,AV.plain,hl,Bool.and_true,cond_true,wX,aqh]
   rw[h0,e]
  | false =>
   have h0:j3 base [.cell tc true n,.tmp tr] s=none:=by
    simp only[j3,mw,fH,aoi,an8,AV.leaves,aoV,ao5,AV.bN,AV.bd,AV.plain,hl,aoj,anZ]
   have hp:tq base [.cell tc true n,.tmp tr] s=none:=by
    have q:pX s base [.cell tc true n,.tmp tr]=none:=by
     have q1:pY s (.cell tc true n)=none:=rfl
     rw[pX]
     cases pX s base [.tmp tr] with
     | none=>rfl
     | some q=>simp only[an8,q1,hc,AV.bU,uw,AV.bN,hl,anZ]
    simp only[tq,q,Option.bind_none]
    rfl
   have hf:tn base [.cell tc true n,.tmp tr] s=some (.tuple [.agg ((cs.map AV.drop).map (je s.H base 3)),.int .i64 r],none):=by
    have hx:((cs.map AV.drop).map (je s.H base 3)).all (AV.bd base)=true:=by
     rw[an'] at vo ⊢
     exact fun x hx=>Nt (vo x hx)
    simp only[tn,xT,fH,aoi,an8,aoc,aof,Pr,AV.leaves,aoV,ao5,AV.bN,hx,Bool.and_true,wX,aqh,cond_true,show je s.H base 3 (.int .i64 r)=.int .i64 r from rfl,AV.bd,AV.plain]
   rw[h0,hp,hf]
 unfold finish
 rw[h3,aoi,Hm m7,abW]
 simp only[aoc,aof,abP,abQ,ho]
theorem Ue{H:ai}{a b:cJ} : (H++[a,b])[H.length]?=some a:=by simp
theorem h2b{H:ai}{a b:cJ} : (H++[a,b])[H.length+1]?=some b:=by rw[aou (by omega)];simp
theorem h2t{H:ai}{a b:cJ} : (H++[a,b]).take H.length=H:=by simp
theorem s2a{H:ai}{a b c:cJ} : (H++[a,b]).set H.length c=H++[c,b]:=by simp
theorem s2b{H:ai}{a b c:cJ} : (H++[a,b]).set (H.length+1) c=H++[a,c]:=by
 rw[ap6 _ _ (by omega)];simp
theorem h3a{H:ai}{a b c:cJ} : (H++[a,b,c])[H.length]?=some a:=by simp
theorem h3c{H:ai}{a b c:cJ} : (H++[a,b,c])[H.length+2]?=some c:=by rw[aou (by omega)];simp
theorem h3t{H:ai}{a b c:cJ} : (H++[a,b,c]).take H.length=H:=by simp
theorem l2{H:ai}{a b:cJ} : (H++[a,b]).length=H.length+2:=by simp
theorem l1{H:ai}{a:cJ} : (H++[a]).length=H.length+1:=by simp
theorem abF{n:Nat} : decide (n+1<n)=false:=by simp
theorem xY{l:List Tm} : ∀ r∈ar l,r.length=8:=fun r hr=>by
 rw[iD] at hr
 obtain⟨t,_,rfl⟩:=aoD.1 hr
 exact xf
theorem ac1{t:Tm} : (cV t).all wQ=true:=by rw[al];rfl
theorem LS{l:List Tm} : ∀ r∈ar l,r.all wQ=true:=fun r hr=>by
 rw[iD] at hr
 obtain⟨t,_,rfl⟩:=aoD.1 hr
 exact ac1
theorem ac8{l:List Tm}{i:Nat}{u:Tm}(h:l[i]?=some u):(((ar l).flatten.drop (i*8)).take 8).map AV.drop=cV u:=by
 have hw:∀ r∈ar l,r.length=8:=xY
 have:=Bq (z:=8) 0 hw (sL h) (by omega)
 rw[aos] at this
 rw[this,ape,aqB (by rw[xf];omega),aoJ (by rw[xf];omega),al];rfl
theorem ac7{l:List Tm}{i:Nat}{u v:Tm}(h:l[i]?=some u):putAt (ar l).flatten (i*8) (cV v)=(ar (l.set i v)).flatten:=by
 have:=Gu (z:=8) (j:=0) (cs:=cV v) xY (sL h) (by rw[xf];omega)
 rw[aos] at this
 rw[this]
 have e:putAt (cV u) 0 (cV v)=cV v:=by
  simp only[putAt,aoQ,ao0,Nat.zero_add]
  rw[List.drop_of_length_le (by rw[xf,xf];omega),apl]
 rw[e,iD,iD,List.map_set]
theorem X9{l:List Tm} : (ar l).flatten.length=l.length*8:=by rw[qQ xY,bK]
theorem SZ{l:List Tm} : fZ (ar l)=true:=by
 simp only[fZ,an']
 intro r hr x hx
 exact (y3 (an'.1 (LS r hr) x hx)).2.1
theorem DY{l:List Tm} : iB 8 (ar l)=true:=by
 cases l with
 | nil=>simp[ar,iB]
 | cons a r=>simp only[ar,iB,List.head?_cons,aoi,ao3,xf];rfl
def SpP(m h:Nat)(x:AV × Option gS):Prop:=∃ t' r,oH (m+1) h t'/\-1<=r/\r<=100/\x=(.tuple [.agg (cV t'),.int .i64 r],none)
theorem XJ{m h:Nat}{t:Tm}(ht:An m h t)(ih:∀ u,oH m h u->∀ (at' om b:Int),0<=at'->at'<=100->0<=om->om<8->0<=b->b<1000->∀ H,∃ x,aE A 9 [.agg (cV u),.int .i64 at',.int .i64 om,.int .i64 b] H=some x/\SpP m h x)
  {at' om b:Int} (a0:0<at') (a1:at'<=100) (h0:0<=om) (h1:om<8) (b0:0<=b) (b1:b<1000) (H:ai):∃ x,aE A 9 [.agg (cV t),.int .i64 at',.int .i64 om,.int .i64 b] H=some x/\SpP m (h+1) x:=by
 refine Ba (fn:=Lw) rfl rfl rfl ?_
 rw[al]
 unfold Lw
 have og:=ht.kl
 have M3:∀ u∈t.kids,oH (m+1) h u:=fun u hu=>(ht.kb u hu).up (by omega) _ _ _ (an4 _)
 have fin:∀ (acc:List Tm),acc.length=t.kids.length->(∀ u∈acc,oH (m+1) h u)->oH (m+1) (h+1) (.mk t.kind t.n t.name t.field t.wn t.wk acc t.names) :=
  fun acc hl hk=>.mk h _ _ _ _ _ _ _ _ ht.n ht.k ⟨ht.a,ht.f⟩ ht.w (by omega) hk ⟨by have:=ht.nl;omega,ht.nb⟩
 have eN:∀ acc:List Tm,cV (.mk t.kind t.n t.name t.field t.wn t.wk acc t.names)=[.int .i64 t.kind,.int .i64 t.n,.str t.name,.str t.field,.str t.wn,.slice (ax t.wk) false,.slice (ar acc) false,.slice (strs t.names) false]:=fun acc=>by rw[al];rfl
 by_cases hk:t.kids=[]
 ·have e0:ar t.kids=[]:=by rw[hk];simp[ar]
  rw[e0]
  have en:zE .af (.slice [] false)=some .af:=rfl
  simp(disch:=omega)only[aY,aa,simprocAttr,DK,KR en,gy,heap_set,fW,ay,an,anW,anX,ab]
  refine cK 0 0 (fun i s=>∃ T,s=⟨T,H++[.ba [.int .i64 t.kind,.int .i64 t.n,.str t.name,.str t.field,.str t.wn,.slice (ax t.wk) false,.af,.slice (strs t.names) false]],H.length,1⟩/\T 4=.ref H.length 0/\T 8=.lbox 0 [.int .i64 0,.int .i64 0,.str [],.str [],.str [],.af,.af,.af]/\T 1=.int .i64 (at' - 1)/\T 11=.int .i64 0)
   (fun s=>∃ T,s=⟨T,H++[.ba [.int .i64 t.kind,.int .i64 t.n,.str t.name,.str t.field,.str t.wn,.slice (ax t.wk) false,.af,.slice (strs t.names) false]],H.length,1⟩/\T 4=.ref H.length 0/\T 8=.lbox 0 [.int .i64 0,.int .i64 0,.str [],.str [],.str [],.af,.af,.af]/\T 1=.int .i64 (at' - 1)) (fun _=>False) ?_ ?_ (fun _ h=>h.elim) 0 _ (by omega) ?_
  ·rintro i s hi ⟨T,rfl,q4,q8,q1,WD⟩
   simp(disch:=omega)only[aY,aa,simprocAttr,q4,q8,q1,WD,gy,fW,ay,an,anW,anX,ab]
   exact⟨_,rfl,by simp(disch:=omega)only[aV,aa,simprocAttr,q4],by simp(disch:=omega)only[aV,aa,simprocAttr,q8],by simp(disch:=omega)only[aV,aa,simprocAttr,q1]⟩
  ·rintro s ⟨T,rfl,q4,q8,q1⟩
   simp(disch:=omega)only[aY,aa,simprocAttr,q4,q8,q1,gy,fW,ay,an,anW,anX,ab]
   refine⟨_,C3 (tc:=8) (tr:=9) (n:=8) (g:=0) (cs:=[.int .i64 t.kind,.int .i64 t.n,.str t.name,.str t.field,.str t.wn,.slice (ax t.wk) false,.af,.slice (strs t.names) false]) (out:=cV (.mk t.kind t.n t.name t.field t.wn t.wk [] t.names)) (r:=at' - 1) rfl (by decide) (by decide) rfl rfl rfl rfl rfl ?_,_,_,fin [] (by rw[hk]) (by simp),by omega,by omega,rfl⟩
   rw[eN]
   show [n2 _,n2 _,n2 _,n2 _,n2 _,n2 (.slice (ax t.wk) false),_,n2 (.slice (strs t.names) false)]=_
   rw[cH,cH,ik,ig,LR];rfl
  ·exact⟨_,rfl,by simp(disch:=omega)only[aV,aa,simprocAttr],by simp(disch:=omega)only[aV,aa,simprocAttr],by simp(disch:=omega)only[aV,aa,simprocAttr],by simp(disch:=omega)only[aV,aa,simprocAttr]⟩
 ·have ff:∃ u r,t.kids=u :: r:=by cases h:t.kids with|nil=>exact absurd h hk|cons u r=>exact⟨u,r,rfl⟩
  obtain⟨u0,r0,zc⟩:=ff
  have Yz:ar t.kids=cV u0 :: ar r0:=by rw[zc,ar]
  have Ic:=fun (os:List aO) (T0:aU) (lo gen:Nat) (Q:AS->Prop)=>Iw (A:=A) (T:=T0) (lo:=lo) (gen:=gen) (K:=Q) (os:=os) (t:=20) (H:=H++[.ba [.int .i64 t.kind,.int .i64 t.n,.str t.name,.str t.field,.str t.wn,.slice (ax t.wk) false,.slice (ar t.kids) false,.slice (strs t.names) false]]) (sz:=8) (bytes:=136) (r:=cV u0) (f:=ar r0) (own:=false)
   (by rw[<- Yz];simp only[dE,an1,Nat.zero_add,bK,DY,Bool.and_true];rw[ao1 (by omega),ao1 (by omega)];rfl) (by rw[<- Yz];exact SZ)
  rw[<- Yz] at Ic
  have Ih:(ar r0).length+1=t.kids.length:=by rw[bK,zc];rfl
  rw[Ih] at Ic
  simp(disch:=omega)only[aY,aa,simprocAttr,DK,Ic,gy,l1,abF,Ue,s2a,fW,ay,an,anW,anX,ab]
  refine cK t.kids.length 0 (fun i s=>∃ T acc a,s=⟨T,H++[.ba [.int .i64 t.kind,.int .i64 t.n,.str t.name,.str t.field,.str t.wn,.slice (ax t.wk) false,.sref (H.length+1) 0 t.kids.length 8,.slice (strs t.names) false],.box dv (ar acc).flatten],H.length,1⟩/\T 4=.ref H.length 0/\T 8=.lbox 0 [.int .i64 0,.int .i64 0,.str [],.str [],.str [],.af,.af,.af]/\T 1=.int .i64 a/\-1<=a/\a<=100/\T 2=.int .i64 om/\T 3=.int .i64 b/\T 11=.int .i64 i/\acc.length=t.kids.length/\(∀ u∈acc,oH (m+1) h u)/\(∀ j,i<=j->acc[j]?=t.kids[j]?))
   (fun s=>∃ T acc a,s=⟨T,H++[.ba [.int .i64 t.kind,.int .i64 t.n,.str t.name,.str t.field,.str t.wn,.slice (ax t.wk) false,.sref (H.length+1) 0 t.kids.length 8,.slice (strs t.names) false],.box dv (ar acc).flatten],H.length,1⟩/\T 4=.ref H.length 0/\T 8=.lbox 0 [.int .i64 0,.int .i64 0,.str [],.str [],.str [],.af,.af,.af]/\T 1=.int .i64 a/\-1<=a/\a<=100/\acc.length=t.kids.length/\∀ u∈acc,oH (m+1) h u) (fun _=>False) ?_ ?_ (fun _ h=>h.elim) 0 _ (by omega) ?_
  ·rintro i s hi ⟨T,acc,a,rfl,q4,q8,q1,a2,a3,q2,q3,WD,GF,hak,BE⟩
   by_cases bA:i<t.kids.length
   ·by_cases ha:0<=a
    ·have hx:acc[i]?=some t.kids[i]:=by rw[BE i (an4 _)];exact an3 bA
     have hm:=aoX bA
     generalize t.kids[i]=u at hx hm
     have hld:=ac8 hx
     obtain⟨x,wT,u',r,Al,Lr,hr1,rfl⟩:=ih u (ht.kb u hm) a om b ha a3 h0 h1 b0 b1 (H++[.ba [.int .i64 t.kind,.int .i64 t.n,.str t.name,.str t.field,.str t.wn,.slice (ax t.wk) false,.sref (H.length+1) 0 t.kids.length 8,.slice (strs t.names) false],.box dv (ar acc).flatten])
     have lA:=ac7 (v:=u') hx
     have C8:=X9 (l:=acc)
     rw[GF] at C8
     rw[al u] at hld wT
     rw[al u'] at lA wT
     simp only[putAt,an0,an1] at lA
     simp(disch:=omega)only[aY,aa,simprocAttr,q4,q8,q1,q2,q3,WD,Ue,h2b,s2b,abF,hld,wT,C8,lA,Nat.zero_add,fW,ay,an,anW,anX,ab]
     refine⟨bA,_,acc.set i u',r,rfl,?_,?_,?_,Lr,hr1,?_,?_,?_,by rw[List.length_set];exact GF,fun v hv=>?_,fun j hj=>?_⟩
     ·simp(disch:=omega)only[aV,aa,simprocAttr,q4]
     ·simp(disch:=omega)only[aV,aa,simprocAttr,q8]
     ·simp(disch:=omega)only[aV,aa,simprocAttr]
     ·simp(disch:=omega)only[aV,aa,simprocAttr,q2]
     ·simp(disch:=omega)only[aV,aa,simprocAttr,q3]
     ·simp(disch:=omega)only[aV,aa,simprocAttr]
     ·rcases aqF hv with hv|rfl
      ·exact hak v hv
      ·exact Al
     ·rw[List.getElem?_set_ne (by omega)];exact BE j (by omega)
    ·simp(disch:=omega)only[aY,aa,simprocAttr,q4,q8,q1,WD,Ue,fW,ay,an,anW,anX,ab]
     exact⟨_,acc,a,rfl,by simp(disch:=omega)only[aV,aa,simprocAttr,q4],by simp(disch:=omega)only[aV,aa,simprocAttr,q8],by simp(disch:=omega)only[aV,aa,simprocAttr,q1],a2,a3,GF,hak⟩
   ·simp(disch:=omega)only[aY,aa,simprocAttr,q4,q8,q1,WD,Ue,fW,ay,an,anW,anX,ab]
    exact⟨_,acc,a,rfl,by simp(disch:=omega)only[aV,aa,simprocAttr,q4],by simp(disch:=omega)only[aV,aa,simprocAttr,q8],by simp(disch:=omega)only[aV,aa,simprocAttr,q1],a2,a3,GF,hak⟩
  ·rintro s ⟨T,acc,a,rfl,q4,q8,q1,a2,a3,GF,hak⟩
   simp(disch:=omega)only[aY,aa,simprocAttr,q4,q8,q1,Ue,fW,ay,an,anW,anX,ab]
   have ef:je (H++[.ba [.int .i64 t.kind,.int .i64 t.n,.str t.name,.str t.field,.str t.wn,.slice (ax t.wk) false,.sref (H.length+1) 0 t.kids.length 8,.slice (strs t.names) false],.box dv (ar acc).flatten]) H.length 3 (.sref (H.length+1) 0 t.kids.length 8)=.slice (ar acc) false:=by
    have:=Bs (k:=2) (base:=H.length) (rows:=ar acc) (z:=8) (o:=.box dv (ar acc).flatten) (show H.length<=H.length+1 by omega) (h2b (a:=.ba [.int .i64 t.kind,.int .i64 t.n,.str t.name,.str t.field,.str t.wn,.slice (ax t.wk) false,.sref (H.length+1) 0 t.kids.length 8,.slice (strs t.names) false])) rfl xY (by omega) LS
    rwa [bK,GF] at this
   have hz:(([.int .i64 t.kind,.int .i64 t.n,.str t.name,.str t.field,.str t.wn,.slice (ax t.wk) false,.sref (H.length+1) 0 t.kids.length 8,.slice (strs t.names) false]:List AV).map AV.drop).map (je (H++[.ba [.int .i64 t.kind,.int .i64 t.n,.str t.name,.str t.field,.str t.wn,.slice (ax t.wk) false,.sref (H.length+1) 0 t.kids.length 8,.slice (strs t.names) false],.box dv (ar acc).flatten]) H.length 3)=[.int .i64 t.kind,.int .i64 t.n,.str t.name,.str t.field,.str t.wn,.slice (ax t.wk) false,.slice (ar acc) false,.slice (strs t.names) false]:=by
    simp only[aoc,aof,AV.drop]
    rw[ef];rfl
   refine⟨_,C3 (tc:=8) (tr:=9) (n:=8) (g:=0) (cs:=[.int .i64 t.kind,.int .i64 t.n,.str t.name,.str t.field,.str t.wn,.slice (ax t.wk) false,.sref (H.length+1) 0 t.kids.length 8,.slice (strs t.names) false]) (out:=cV (.mk t.kind t.n t.name t.field t.wn t.wk acc t.names)) (r:=a) rfl (by decide) (by decide) rfl rfl rfl rfl ?_ ?_,_,_,fin acc GF hak,a2,a3,rfl⟩
   ·rw[hz];rfl
   ·rw[hz,eN]
    show [n2 _,n2 _,n2 _,n2 _,n2 _,n2 (.slice (ax t.wk) false),n2 (.slice (ar acc) false),n2 (.slice (strs t.names) false)]=_
    rw[cH,cH,cH,ik,ig,iv];rfl
  ·exact⟨_,t.kids,at' - 1,rfl,by simp(disch:=omega)only[aV,aa,simprocAttr],by simp(disch:=omega)only[aV,aa,simprocAttr],by simp(disch:=omega)only[aV,aa,simprocAttr],by omega,by omega,by simp(disch:=omega)only[aV,aa,simprocAttr],by simp(disch:=omega)only[aV,aa,simprocAttr],by simp(disch:=omega)only[aV,aa,simprocAttr,aoG],rfl,M3,fun _ _=>rfl⟩
theorem MT{H L:ai}{a:cJ} : (H++a :: L)[H.length]?=some a:=by simp
theorem sf{H L:ai}{a b:cJ} : (H++a :: L).set H.length b=H++b :: L:=by simp
theorem hgj{H L:ai}{a:cJ}{j:Nat} : (H++a :: L)[H.length+1+j]?=L[j]?:=by
 rw[aou (by omega),show H.length+1+j-H.length=j+1 by omega];rfl
theorem aeM{H L:ai}{a b:cJ}{j:Nat} : (H++a :: L).set (H.length+1+j) b=H++a :: L.set j b:=by
 rw[ap6 _ _ (by omega),show H.length+1+j-H.length=j+1 by omega];rfl
theorem hgl{H L:ai}{a:cJ} : (H++a :: L).length=H.length+1+L.length:=by simp;omega
theorem B5{l:List cd} : (strs l).flatten=l.map AV.str:=by
 rw[strs];induction l with
 | nil=>rfl
 | cons a r ih=>simp only[aoc,ao7,ih];rfl
theorem ahq{k:IntKind}{n:Int} : (AV.int k n).drop=.int k n:=rfl
theorem ahs{s:cd} : (AV.str s).drop=.str s:=rfl
theorem ahr{e:List (List AV)} : (AV.slice e false).drop=.slice e false:=rfl
theorem ai1{k:IntKind}{n:Int} : (AV.int k n).plain=true:=rfl
theorem ai3{s:cd} : (AV.str s).plain=true:=rfl
theorem ai2{e:List (List AV)} : (AV.slice e false).plain=true:=rfl
theorem ahB{H:ai}{b:Nat}{k:IntKind}{n:Int} : je H b 3 (.int k n)=.int k n:=rfl
theorem ahD{H:ai}{b:Nat}{s:cd} : je H b 3 (.str s)=.str s:=rfl
theorem ahC{H:ai}{b:Nat}{e:List (List AV)} : je H b 3 (.slice e false)=.slice e false:=rfl
def Ik(H HT:ai)(NM:AV)(L:List cd):Prop:=(NM=.af/\L=[])\/∃ j,NM=.sref (H.length+1+j) 0 L.length 1/\HT[j]?=some (.box dv (L.map .str))
theorem Ik.ok{H HT:ai}{NM:AV}{L:List cd}(h:Ik H HT NM L)(a:cJ):aH NM=true/\NM.drop=NM/\(je (H++a :: HT) H.length 3 NM).plain=true/\n2 (je (H++a :: HT) H.length 3 NM)=.slice (strs L) false:=by
 rcases h with ⟨rfl,rfl⟩|⟨j,rfl,hj⟩
 ·exact⟨rfl,rfl,rfl,rfl⟩
 ·have hz:je (H++a :: HT) H.length 3 (.sref (H.length+1+j) 0 L.length 1)=.slice (strs L) false:=by
   have:=Bs (k:=2) (base:=H.length) (H:=H++a :: HT) (l:=H.length+1+j) (rows:=strs L) (z:=1) (o:=.box dv (L.map .str)) (by omega) (by rw[hgj];exact hj) (by rw[B5];rfl)
    (fun r hr=>by simp only[strs,aoD] at hr;obtain⟨s,_,rfl⟩:=hr;rfl) (by omega) (fun r hr=>by simp only[strs,aoD] at hr;obtain⟨s,_,rfl⟩:=hr;rfl)
   rwa [cg] at this
  exact⟨rfl,rfl,by rw[hz];rfl,by rw[hz,cH,ig]⟩
structure Il (WK:AV) (wk:List Wd):Prop where
 f:aH WK=true
 d:WK.drop=WK
 z:∀ (H:ai) (b:Nat),je H b 3 WK=WK
 p:WK.plain=true
 n:n2 WK=.slice (ax wk) false
theorem Il.self{wk:List Wd} : Il (.slice (ax wk) false) wk:=⟨rfl,rfl,fun _ _=>rfl,rfl,by rw[cH,ik]⟩
def SpQ(m h:Nat)(H:ai)(s:AS):Prop:=∃ T HT t NM WK,s=⟨T,H++.ba [.int .i64 t.kind,.int .i64 t.n,.str t.name,.str t.field,.str t.wn,WK,.slice (ar t.kids) false,NM] :: HT,H.length,1⟩/\T 4=.ref H.length 0/\T 8=.lbox 0 [.int .i64 0,.int .i64 0,.str [],.str [],.str [],.af,.af,.af]/\Ik H HT NM t.names/\Il WK t.wk/\oH (m+1) (h+1) t
theorem ac0{m h:Nat}{H:ai}{s:AS}(hs:SpQ m h H s):W A (Lw.body.post 4) s (KW H.length Lw (SpP m (h+1))):=by
 obtain⟨T,HT,t,NM,WK,rfl,q4,q8,Pw,⟨w1,w2,w3,w4,w5⟩,ht⟩:=hs
 obtain⟨n1',n2',n3',n4'⟩:=Pw.ok (.ba [.int .i64 t.kind,.int .i64 t.n,.str t.name,.str t.field,.str t.wn,WK,.slice (ar t.kids) false,NM])
 unfold Lw
 simp only[bq.post]
 simp(disch:=omega)only[aY,aa,simprocAttr,q4,q8,MT,n1',n2',w1,w2,fW,ay,an,anW,anX,ab]
 have hz:(([.int .i64 t.kind,.int .i64 t.n,.str t.name,.str t.field,.str t.wn,WK,.slice (ar t.kids) false,NM]:List AV).map AV.drop).map (je (H++.ba [.int .i64 t.kind,.int .i64 t.n,.str t.name,.str t.field,.str t.wn,WK,.slice (ar t.kids) false,NM] :: HT) H.length 3)=[.int .i64 t.kind,.int .i64 t.n,.str t.name,.str t.field,.str t.wn,WK,.slice (ar t.kids) false,(je (H++.ba [.int .i64 t.kind,.int .i64 t.n,.str t.name,.str t.field,.str t.wn,WK,.slice (ar t.kids) false,NM] :: HT) H.length 3 NM)]:=by
  simp only[aoc,aof,n2',w2,w3,ahq,ahs,ahr,ahB,ahD,ahC]
 refine⟨_,C3 (fn:=Lw) (tc:=8) (tr:=9) (n:=8) (g:=0) (cs:=[.int .i64 t.kind,.int .i64 t.n,.str t.name,.str t.field,.str t.wn,WK,.slice (ar t.kids) false,NM]) (out:=cV t) (r:=-1) rfl (by decide) (by decide) rfl rfl rfl rfl ?_ ?_,t, -1,ht,by omega,by omega,rfl⟩
 ·rw[hz];simp only[aoV,ao5,n3',w4,ai1,ai3,ai2,Bool.and_true]
 ·rw[hz];simp only[aoc,aof,n4',w5,cH,ik,iv,dh,cL]
  rw[al]
theorem SK{m h:Nat}{t:Tm}(ht:An m h t)(hm:m<=100){om b:Int}(H:ai){Q:cq->AS->Prop} :
  W A (Lw.body.pre 3) ⟨gY [.agg (cV t),.int .i64 0,.int .i64 om,.int .i64 b],H,H.length,0⟩ (andThen (fun s=>∃ T HT NM,s=⟨T,H++.ba [.int .i64 t.kind,.int .i64 t.n,.str t.name,.str t.field,.str t.wn,.slice (ax t.wk) false,.slice (ar t.kids) false,NM] :: HT,H.length,1⟩/\T 4=.ref H.length 0/\T 8=.lbox 0 [.int .i64 0,.int .i64 0,.str [],.str [],.str [],.af,.af,.af]/\T 2=.int .i64 om/\T 3=.int .i64 b/\Ik H HT NM t.names/\(t.names=[]/\HT=[]\/HT.length=1)) Q):=by
 rw[al]
 unfold Lw
 simp only[bq.pre]
 have qk:=ht.nl
 by_cases hk:t.names=[]
 ·have en:zE .af (.slice [] false)=some .af:=rfl
  rw[hk,jT]
  simp(disch:=omega)only[aY,aa,simprocAttr,DK,KR en,gy,heap_set,fW,ay,an,anW,anX,ab]
  refine⟨_,[],.af,rfl,?_,?_,?_,?_,.inl ⟨rfl,rfl⟩,.inl rfl⟩
  all_goals simp(disch:=omega)only[aV,aa,simprocAttr]
 ·have ff:∃ u r,t.names=u :: r:=by cases h:t.names with|nil=>exact absurd h hk|cons u r=>exact⟨u,r,rfl⟩
  obtain⟨u0,r0,zc⟩:=ff
  have Yz:strs t.names=[.str u0] :: strs r0:=by rw[zc];rfl
  have hph:iB 1 (strs t.names)=true:=by rw[Yz];rfl
  have l9:fZ (strs t.names)=true:=by
   simp only[fZ,an']
   intro r hr x hx
   simp only[strs,aoD] at hr
   obtain⟨s,_,rfl⟩:=hr
   rw[aom.1 hx];rfl
  have Ic:=fun (os:List aO) (T0:aU) (lo gen:Nat) (Q:AS->Prop)=>Iw (A:=A) (T:=T0) (lo:=lo) (gen:=gen) (K:=Q) (os:=os) (t:=54) (H:=H++[.ba [.int .i64 t.kind,.int .i64 t.n,.str t.name,.str t.field,.str t.wn,.slice (ax t.wk) false,.slice (ar t.kids) false,.slice (strs t.names) false]]) (sz:=1) (bytes:=16) (r:=[.str u0]) (f:=strs r0) (own:=false)
   (by rw[<- Yz];simp only[dE,an1,Nat.zero_add,cg,hph,Bool.and_true];rw[ao1 (by omega),ao1 (by omega)];rfl) (by rw[<- Yz];exact l9)
  rw[<- Yz] at Ic
  have Ih:(strs r0).length+1=t.names.length:=by rw[cg,zc];rfl
  rw[Ih,B5] at Ic
  simp(disch:=omega)only[aY,aa,simprocAttr,DK,Ic,gy,l1,abF,Ue,s2a,fW,ay,an,anW,anX,ab]
  refine⟨_,[.box dv (t.names.map .str)],.sref (H.length+1) 0 t.names.length 1,rfl,?_,?_,?_,?_,.inr ⟨0,rfl,rfl⟩,.inr rfl⟩
  all_goals simp(disch:=omega)only[aV,aa,simprocAttr]
theorem XN{x:Int}(h0:0<=x)(h1:x<7):∃ v:Int, -2199023255552<=v/\v<=2199023255552/\([[.int .i64 (-1)],[.int .i64 0],[.int .i64 1],[.int .i64 11],[.int .i64 12],[.int .i64 1099511627777],[.int .i64 (-1099511627777)]]:List (List AV))[x.toNat]?=some [.int .i64 v]:=by
 have:x.toNat=0\/x.toNat=1\/x.toNat=2\/x.toNat=3\/x.toNat=4\/x.toNat=5\/x.toNat=6:=by omega
 rcases this with e|e|e|e|e|e|e<;>rw[e]<;>exact⟨_,by decide,by decide,rfl⟩
theorem XO{x:Int}(h0:0<=x)(h1:x<8):∃ s:cd,s.length<=1100000/\([[.str []],[.str [105,102]],[.str [97,46,98]],[.str [97,46,98,46,99]],[.str [46,97]],[.str [97,46]],[.str [97,86,101,114,121,76,111,110,103,78,97,109,101,49,50,51,52]],[.str [120,32,121]]]:List (List AV))[x.toNat]?=some [.str s]:=by
 have:x.toNat=0\/x.toNat=1\/x.toNat=2\/x.toNat=3\/x.toNat=4\/x.toNat=5\/x.toNat=6\/x.toNat=7:=by omega
 rcases this with e|e|e|e|e|e|e|e<;>rw[e]<;>exact⟨_,by decide,rfl⟩
theorem XL{x:Int}(h0:0<=x)(h1:x<4):∃ s:cd,s.length<=1100000/\([[.str []],[.str [100,111]],[.str [121]],[.str [97,46,98]]]:List (List AV))[x.toNat]?=some [.str s]:=by
 have:x.toNat=0\/x.toNat=1\/x.toNat=2\/x.toNat=3:=by omega
 rcases this with e|e|e|e<;>rw[e]<;>exact⟨_,by decide,rfl⟩
theorem XK{x:Int}(h0:0<=x)(h1:x<3):∃ s:cd,s.length<=1100000/\([[.str []],[.str [73,110,116]],[.str [97,46,98]]]:List (List AV))[x.toNat]?=some [.str s]:=by
 have:x.toNat=0\/x.toNat=1\/x.toNat=2:=by omega
 rcases this with e|e|e<;>rw[e]<;>exact⟨_,by decide,rfl⟩
theorem gf{m h:Nat}{k n:Int}{a f wn:cd}{wk:List Wd}{ks:List Tm}{ns:List cd}(hn:-2199023255552<=n/\n<=2199023255552)(hk:-100<=k/\k<=100)(ha:a.length<=1100000)(hf:f.length<=1100000)(hw:wD 3 (.mk wn wk))(h1:ks.length<=3)(h2:∀ u∈ks,oH m h u)(h3:ns.length<=m)(h4:∀ s∈ns,s.length<=1100000):An m h (.mk k n a f wn wk ks ns):=⟨hn,hk,ha,hf,hw,h1,h2,h3,h4⟩
theorem XM{x:Int}(h0:0<=x)(h1:x<5):∃ (w:Wd) (WK:AV),wD 3 w/\Il WK w.kids/\([[.str [],.af],[.str [73,110,116],.af],[.str [76,105,115,116],.af],[.str [66,111,111,108],.slice [[.str [73,110,116],.af]] false],[.str [102,111,108,100],.af]]:List (List AV))[x.toNat]?=some [.str w.name,WK]:=by
 have lf:∀ s:cd,s.length<=1100000->wD 3 (.mk s []):=fun s hs=>mN hs
 have w0:Il .af []:=⟨rfl,rfl,fun _ _=>rfl,rfl,by rw[nL];rfl⟩
 have:x.toNat=0\/x.toNat=1\/x.toNat=2\/x.toNat=3\/x.toNat=4:=by omega
 rcases this with e|e|e|e|e<;>rw[e]
 ·exact⟨.mk [] [],_,lf _ (by decide),w0,rfl⟩
 ·exact⟨.mk [73,110,116] [],_,lf _ (by decide),w0,rfl⟩
 ·exact⟨.mk [76,105,115,116] [],_,lf _ (by decide),w0,rfl⟩
 ·exact⟨.mk [66,111,111,108] [.mk [73,110,116] []],.slice [[.str [73,110,116],.af]] false,⟨by decide,by decide,fun k hk=>by rw[aom.1 hk];exact mN (by decide)⟩,⟨rfl,rfl,fun _ _=>rfl,rfl,by simp only[Wd.kids,ax,hN];rfl⟩,rfl⟩
 ·exact⟨.mk [102,111,108,100] [],_,lf _ (by decide),w0,rfl⟩
theorem acZ{m h:Nat}{t:Tm}(ht:An m h t)(hm:m<=100){om b:Int}(h0:0<=om)(h1:om<8)(b0:0<=b)(b1:b<1000){H:ai}{s:AS}{Q:cq->AS->Prop}
  (hs:∃ T HT NM,s=⟨T,H++.ba [.int .i64 t.kind,.int .i64 t.n,.str t.name,.str t.field,.str t.wn,.slice (ax t.wk) false,.slice (ar t.kids) false,NM] :: HT,H.length,1⟩/\T 4=.ref H.length 0/\T 8=.lbox 0 [.int .i64 0,.int .i64 0,.str [],.str [],.str [],.af,.af,.af]/\T 2=.int .i64 om/\T 3=.int .i64 b/\Ik H HT NM t.names/\(t.names=[]/\HT=[]\/HT.length=1)) :
  W A ((Lw.body.post 3).pre 0) s (andThen (SpQ m h H) Q):=by
 obtain⟨T,HT,NM,rfl,q4,q8,q2,q3,Pw,hHT⟩:=hs
 have M3:∀ u∈t.kids,oH (m+1) h u:=fun u hu=>(ht.kb u hu).up (by omega) _ _ _ (an4 _)
 have qk:=ht.nl
 have fin:∀ (T' : aU) (t' : Tm),An (m+1) h t'->Ik H HT NM t'.names->T' 4=.ref H.length 0->T' 8=.lbox 0 [.int .i64 0,.int .i64 0,.str [],.str [],.str [],.af,.af,.af]->SpQ m h H ⟨T',H++.ba [.int .i64 t'.kind,.int .i64 t'.n,.str t'.name,.str t'.field,.str t'.wn,.slice (ax t'.wk) false,.slice (ar t'.kids) false,NM] :: HT,H.length,1⟩ :=
  fun T' t' h1 h2 h4 h8=>⟨T',HT,t',NM,_,rfl,h4,h8,h2,Il.self,h1.mk'⟩
 unfold Lw
 simp only[bq.post,bq.pre]
 by_cases k0:om=0
 ·have hd:(0:Int)<=b % 14/\b % 14<14:=by omega
  simp(disch:=omega)only[aY,aa,simprocAttr,q2,q3,q4,gQ,MT,sf,fW,ay,an,anW,anX,ab]
  exact fin _ (.mk (b % 14) t.n t.name t.field t.wn t.wk t.kids t.names) (gf ht.n (by omega) ht.a ht.f ht.w ht.kl M3 (by omega) ht.nb) Pw (by simp(disch:=omega)only[aV,aa,simprocAttr,q4]) (by simp(disch:=omega)only[aV,aa,simprocAttr,q8])
 by_cases k1:om=1
 ·obtain⟨v,v0,v1,hv⟩:=XN (x:=b % 7) (by omega) (by omega)
  simp(disch:=omega)only[aY,aa,simprocAttr,q2,q3,q4,gQ,MT,sf,hv,fW,ay,an,anW,anX,ab]
  refine fin _ (.mk t.kind v t.name t.field t.wn t.wk t.kids t.names) (gf ⟨v0,v1⟩ ht.k ht.a ht.f ht.w ht.kl M3 (by omega) ht.nb) Pw ?_ ?_
  all_goals simp(disch:=omega)only[aV,aa,simprocAttr,q4,q8]
 by_cases k2:om=2
 ·obtain⟨v,v0,hv⟩:=XO (x:=b % 8) (by omega) (by omega)
  simp(disch:=omega)only[aY,aa,simprocAttr,q2,q3,q4,gQ,MT,sf,hv,fW,ay,an,anW,anX,ab]
  refine fin _ (.mk t.kind t.n v t.field t.wn t.wk t.kids t.names) (gf ht.n ht.k v0 ht.f ht.w ht.kl M3 (by omega) ht.nb) Pw ?_ ?_
  all_goals simp(disch:=omega)only[aV,aa,simprocAttr,q4,q8]
 by_cases k3:om=3
 ·obtain⟨v,v0,hv⟩:=XL (x:=b % 4) (by omega) (by omega)
  simp(disch:=omega)only[aY,aa,simprocAttr,q2,q3,q4,gQ,MT,sf,hv,fW,ay,an,anW,anX,ab]
  refine fin _ (.mk t.kind t.n t.name v t.wn t.wk t.kids t.names) (gf ht.n ht.k ht.a v0 ht.w ht.kl M3 (by omega) ht.nb) Pw ?_ ?_
  all_goals simp(disch:=omega)only[aV,aa,simprocAttr,q4,q8]
 by_cases k6:om=6
 ·by_cases hk:t.kids=[]
  ·have zc:t.kids.length=0:=by rw[hk];rfl
   simp(disch:=omega)only[aY,aa,simprocAttr,q2,q3,q4,MT,sf,bK,fW,ay,an,anW,anX,ab]
   refine fin _ t ⟨ht.n,ht.k,ht.a,ht.f,ht.w,ht.kl,M3,by omega,ht.nb⟩ Pw ?_ ?_
   all_goals simp(disch:=omega)only[aV,aa,simprocAttr,q4,q8]
  ·have zc:0<t.kids.length:=by cases h:t.kids with|nil=>exact absurd h hk|cons a r=>simp
   have kU:(ar t.kids).take t.kids.length=ar t.kids:=aoJ (by rw[bK];omega)
   have hdr:(ar t.kids).drop 1=ar (t.kids.drop 1):=by rw[iD,iD,List.map_drop]
   simp(disch:=omega)only[aY,aa,simprocAttr,q2,q3,q4,MT,sf,bK,DY,kU,hdr,fW,ay,an,anW,anX,ab]
   refine fin _ (.mk t.kind t.n t.name t.field t.wn t.wk (t.kids.drop 1) t.names) (gf ht.n ht.k ht.a ht.f ht.w (by have:=ht.kl;rw[aqt];omega) (fun u hu=>M3 u (aqy hu)) (by omega) ht.nb) Pw ?_ ?_
   all_goals simp(disch:=omega)only[aV,aa,simprocAttr,q4,q8]
 by_cases k7:om=7
 ·obtain⟨w,WK,wb,⟨w1,w2,w3,w4,w5⟩,hv⟩:=XM (x:=b % 5) (by omega) (by omega)
  simp(disch:=omega)only[aY,aa,simprocAttr,q2,q3,q4,gQ,MT,sf,hv,w1,w2,cF,fW,ay,an,anW,anX,ab]
  refine⟨_,HT,.mk t.kind t.n t.name t.field w.name w.kids t.kids t.names,NM,WK,rfl,?_,?_,Pw,⟨w1,w2,w3,w4,w5⟩,(gf ht.n ht.k ht.a ht.f (by cases w;exact wb) ht.kl M3 (by omega) ht.nb).mk'⟩
  all_goals simp(disch:=omega)only[aV,aa,simprocAttr,q4,q8]
 have Po:∀ (T' : aU) (HT' : ai) (NM' : AV) (ns:List cd),An (m+1) h (.mk t.kind t.n t.name t.field t.wn t.wk t.kids ns)->Ik H HT' NM' ns->T' 4=.ref H.length 0->T' 8=.lbox 0 [.int .i64 0,.int .i64 0,.str [],.str [],.str [],.af,.af,.af]->SpQ m h H ⟨T',H++.ba [.int .i64 t.kind,.int .i64 t.n,.str t.name,.str t.field,.str t.wn,.slice (ax t.wk) false,.slice (ar t.kids) false,NM'] :: HT',H.length,1⟩ :=
  fun T' HT' NM' ns h1 h2 h4 h8=>⟨T',HT',.mk t.kind t.n t.name t.field t.wn t.wk t.kids ns,NM',_,rfl,h4,h8,h2,Il.self,h1.mk'⟩
 by_cases k4:om=4
 ·have hg:An (m+1) h (.mk t.kind t.n t.name t.field t.wn t.wk t.kids (t.names++[[97]])):=gf ht.n ht.k ht.a ht.f ht.w ht.kl M3 (by simp;omega) (fun s hs=>by
   rcases an9.1 hs with hs|hs
   ·exact ht.nb s hs
   ·rw[aom.1 hs];decide)
  rcases Pw with ⟨rfl,hL⟩|⟨j,rfl,hj⟩
  ·have AL:decide (H.length+1+HT.length<H.length)=false:=by simp;omega
   have Ic:=fun (os:List aO) (T0:aU) (lo gen:Nat) (Q:AS->Prop)=>Iw (A:=A) (T:=T0) (lo:=lo) (gen:=gen) (K:=Q) (os:=os) (t:=91) (H:=H++.ba [.int .i64 t.kind,.int .i64 t.n,.str t.name,.str t.field,.str t.wn,.slice (ax t.wk) false,.slice (ar t.kids) false,.af] :: HT) (sz:=1) (bytes:=16) (r:=[.str [97]]) (f:=[]) (own:=true) rfl rfl
   rw[hgl] at Ic
   simp(disch:=omega)only[aY,aa,simprocAttr,q2,q3,q4,MT,Ic,AL,an1,ao7,aqH,apl,apd,apm,sf,fW,ay,an,anW,anX,ab]
   refine Po _ (HT++[.box dv [.str [97]]]) (.sref (H.length+1+HT.length) 0 (0+1) 1) (t.names++[[97]]) hg (.inr ⟨HT.length,by rw[hL];rfl,by rw[hL];simp⟩) ?_ ?_
   all_goals simp(disch:=omega)only[aV,aa,simprocAttr,q4,q8]
  ·have vS:j<HT.length:=(an2.1 hj).1
   have AL:decide (H.length+1+j<H.length)=false:=by simp;omega
   have hbx:(H++.ba [.int .i64 t.kind,.int .i64 t.n,.str t.name,.str t.field,.str t.wn,.slice (ax t.wk) false,.slice (ar t.kids) false,.sref (H.length+1+j) 0 t.names.length 1] :: HT)[H.length+1+j]?=some (.box dv (t.names.map .str)):=by rw[hgj];exact hj
   have Ic:=fun (os:List aO) (T0:aU) (lo gen:Nat) (Q:AS->Prop)=>Ts (A:=A) (T:=T0) (lo:=lo) (gen:=gen) (K:=Q) (os:=os) (t:=91) (sz:=1) (bytes:=16) (n:=t.names.length) (f:=[[.str [97]]]) (own:=true) hbx (by rw[aoI];omega) (by simp only[an0,an1];omega) (by simp only[an0,an1];omega) rfl rfl
   rw[hgl,aeM] at Ic
   simp(disch:=omega)only[aY,aa,simprocAttr,q2,q3,q4,MT,Ic,AL,an0,an1,ao7,aqH,apl,apd,apm,sf,fW,ay,an,anW,anX,ab]
   refine Po _ (HT.set j .dead++[.box dv (t.names.map .str++[.str [97]])]) (.sref (H.length+1+HT.length) 0 (t.names.length+(0+1)) 1) (t.names++[[97]]) hg (.inr ⟨HT.length,by simp,?_⟩) ?_ ?_
   ·rw[aou (by rw[List.length_set];omega),List.length_set,ap7,List.map_append];rfl
   all_goals simp(disch:=omega)only[aV,aa,simprocAttr,q4,q8]
 have k5:om=5:=by omega
 rcases Pw with ⟨rfl,hL⟩|⟨j,rfl,hj⟩
 ·simp(disch:=omega)only[aY,aa,simprocAttr,q2,q3,q4,MT,fW,ay,an,anW,anX,ab]
  refine Po _ HT .af t.names ⟨ht.n,ht.k,ht.a,ht.f,ht.w,ht.kl,M3,by have:=ht.nl;exact Nat.le_succ_of_le this,ht.nb⟩ (.inl ⟨rfl,hL⟩) ?_ ?_
  all_goals simp(disch:=omega)only[aV,aa,simprocAttr,q4,q8]
 by_cases hn0:t.names.length=0
 ·simp(disch:=omega)only[aY,aa,simprocAttr,q2,q3,q4,MT,fW,ay,an,anW,anX,ab]
  refine Po _ HT (.sref (H.length+1+j) 0 t.names.length 1) t.names ⟨ht.n,ht.k,ht.a,ht.f,ht.w,ht.kl,M3,by have:=ht.nl;exact Nat.le_succ_of_le this,ht.nb⟩ (.inr ⟨j,rfl,hj⟩) ?_ ?_
  all_goals simp(disch:=omega)only[aV,aa,simprocAttr,q4,q8]
 ·obtain⟨v,v0,hv⟩:=XK (x:=b % 3) (by omega) (by omega)
  have vS:j<HT.length:=(an2.1 hj).1
  have AL:decide (H.length+1+j<H.length)=false:=by simp;omega
  have hbx:(H++.ba [.int .i64 t.kind,.int .i64 t.n,.str t.name,.str t.field,.str t.wn,.slice (ax t.wk) false,.slice (ar t.kids) false,.sref (H.length+1+j) 0 t.names.length 1] :: HT)[H.length+1+j]?=some (.box dv (t.names.map .str)):=by rw[hgj];exact hj
  have YU:(t.names.map AV.str).length=t.names.length:=aoI _
  simp(disch:=omega)only[aY,aa,simprocAttr,q2,q3,q4,MT,hbx,YU,aeM,AL,gQ,hv,fW,ay,an,anW,anX,ab]
  have hlen:(v :: t.names.drop 1).length=t.names.length:=by rw[an0,aqt];omega
  refine Po _ (HT.set j (.box dv (.str v :: (t.names.map .str).drop 1))) (.sref (H.length+1+j) 0 t.names.length 1) (v :: t.names.drop 1) (gf ht.n ht.k ht.a ht.f ht.w ht.kl M3 (by rw[hlen];omega) (fun s hs=>?_)) (.inr ⟨j,by rw[hlen],by rw[List.getElem?_set_self vS,aoc,List.map_drop]⟩) ?_ ?_
  ·rcases aoH.1 hs with rfl|hs
   ·exact v0
   ·exact ht.nb s (aqy hs)
  all_goals simp(disch:=omega)only[aV,aa,simprocAttr,q4,q8]
theorem agl{m:Nat}(hm:m<=100):∀ (h:Nat) (u:Tm),oH m h u->∀ (at' om b:Int),0<=at'->at'<=100->0<=om->om<8->0<=b->b<1000->∀ H,∃ x,aE A 9 [.agg (cV u),.int .i64 at',.int .i64 om,.int .i64 b] H=some x/\SpP m h x:=by
 intro h
 induction h with
 | zero=>intro u hu;cases hu
 | succ h ih =>
  intro u hu at' om b a0 a1 h0 h1 b0 b1 H
  by_cases ha:0<at'
  ·exact XJ hu.out ih ha a1 h0 h1 b0 b1 H
  ·obtain rfl:at'=0:=by omega
   refine Ba (fn:=Lw) rfl rfl rfl ?_
   refine iz 3 _ (SK hu.out hm H) fun s1 Pu=>?_
   refine iz 0 _ (acZ hu.out hm h0 h1 b0 b1 Pu) fun s2 h2=>?_
   rw[lM]
   exact ac0 h2
theorem aem:A.aZ 1=fC.map .str:=rfl
theorem aen:A.aZ 2=[.func (.func 78) [] [],.func (.func 169) [] [],.func (.func 170) [] [],.func (.func 170) [] []]:=rfl
theorem aeo:A.aZ 3=kH.map .str:=rfl
theorem rf{c:UInt8} : jl c=decide (kindOf c=1):=by
 unfold kindOf
 cases h:jl c<;>cases h2:isDigit c<;>simp
theorem tI{c:UInt8} : isDigit c=decide (kindOf c=2):=by
 unfold kindOf
 cases h:jl c<;>cases h2:isDigit c<;>simp
 simp only[jl,isDigit,apZ,an7,aoq] at h h2
 omega
def mM(s:cd):List cd->Nat
 | []=>0
 | x :: r=>if x.isPrefixOf s then x.length else mM s r
theorem vi{b:UInt8}{r:cd} : ∀ l:cd,mM (b :: r) (l.map fun x=>[x])=if l.contains b=true then 1 else 0
 | []=>rfl
 | x :: l=>by
  simp only[aoc,mM,List.isPrefixOf,List.isPrefixOf_nil_left,Bool.and_true,apP,apZ,vi l,an0,an1]
  by_cases h:x=b
  ·subst h;simp
  ·have h1:(x==b)=false:=by simpa using h
   have h2:(b==x)=false:=by simpa using fun e=>h e.symm
   simp[h1,h2]
theorem HO{b:UInt8}{r:cd}(h:kindOf b=0):mM (b :: r) kH=nU (b :: r):=by
 simp only[nU]
 rw[if_neg (by omega)]
 have AQ:lL [b]=lQ.contains b:=by unfold lL;simp
 rw[AQ]
 have two:(1<=r.length/\lL ((b :: r).take 2)=true)↔([61,61].isPrefixOf (b :: r)=true\/[45,62].isPrefixOf (b :: r)=true):=by
  cases r with
  | nil=>simp[List.isPrefixOf]
  | cons c r' =>
   simp only[apj,aoQ,lL,List.isPrefixOf,an0,an1]
   simp
   constructor
   ·rintro (⟨rfl,rfl⟩|⟨rfl,rfl⟩)<;>simp
   ·rintro (⟨rfl,rfl⟩|⟨rfl,rfl⟩)<;>simp
 have e:kH=[61,61] :: [45,62] :: (lQ.map fun x=>[x]):=rfl
 rw[e]
 simp only[mM,vi]
 by_cases h2:[61,61].isPrefixOf (b :: r)=true
 ·rw[if_pos h2,if_pos (two.2 (.inl h2))];rfl
 rw[if_neg h2]
 by_cases h3:[45,62].isPrefixOf (b :: r)=true
 ·rw[if_pos h3,if_pos (two.2 (.inr h3))];rfl
 rw[if_neg h3,if_neg (fun h=>(two.1 h).elim h2 h3)]
theorem LQ(s:cd)(H:ai)(Ud:s≠[])(hs:s.length<=4611686018427387904):aE A 79 [.str s] H=some (.int .i64 (nU s),none):=by
 refine aD (fn:=Rd) rfl rfl rfl ?_
 unfold Rd
 obtain⟨b,r,rO⟩:∃ b r,s=b :: r:=by cases s with|nil=>exact absurd rfl Ud|cons b r=>exact⟨b,r,rfl⟩
 have hb:s[0]?=some b:=by rw[rO];rfl
 have hd:s.drop 1=r:=by rw[rO];rfl
 simp(disch:=omega)only[iX,aa,simprocAttr,aen]
 cases hl:jl b with
 | true =>
  have hk:kindOf b=1:=by rw[rf] at hl;simpa using hl
  refine tZ ?_
  simp(disch:=omega)only[iX,aa,simprocAttr,aN,putAt,hb,o8,hl]
  refine cK s.length 2 (fun i=>Hd (fun T=>T 0=.str s/\T 4=.lbox 0 [.func (.func 78) [] [],.func (.func 169) [] []]/\T 5=.int .i64 i/\1<=i/\1+fi 1 r=i+fi 1 (s.drop i)) H H.length 1)
   (Hd (fun T=>T 5=.int .i64 ((1+fi 1 r:Nat):Int)) H H.length 1) (fun _=>False) ?_ ?_ (fun _ h=>h.elim) 1 _ (by rw[rO];simp) ?_
  ·rintro i st hi lA
   obtain⟨T,rfl,h0,h4,h5,hi1,hc⟩:=lA.out
   by_cases h:i<s.length
   ·rw[aoF h] at hc
    have AM:s[i]?=some s[i]:=an3 h
    generalize s[i]=c at hc AM
    simp only[fi,apt] at hc
    have he:(jl c || isDigit c)=decide (kindOf c=2\/kindOf c=1):=by rw[rf,tI];by_cases e1:kindOf c=1<;>by_cases e2:kindOf c=2<;>simp[e1,e2]
    by_cases qi:kindOf c=2\/kindOf c=1
    ·rw[if_pos qi] at hc
     simp(disch:=omega)only[aV,aa,simprocAttr,h0,h4,h5,AM,FX,he,qi]
     omega
    ·rw[if_neg qi] at hc
     simp(disch:=omega)only[aV,aa,simprocAttr,h0,h4,h5,AM,FX,he,qi]
     omega
   ·have:i=s.length:=by omega
    subst this
    rw[apW] at hc
    simp only[fi] at hc
    simp(disch:=omega)only[aV,aa,simprocAttr,h0,h4,h5]
    omega
  ·intro st lA
   obtain⟨T,rfl,h5⟩:=lA.out
   have ht:nU s=if 16<1+fi 1 r then 0 else 1+fi 1 r:=by rw[rO];simp only[nU,hk,if_pos (show (0:Int)<1 by omega)]
   by_cases h16:16<1+fi 1 r
   ·rw[if_pos h16] at ht
    simp(disch:=omega)only[aV,aa,simprocAttr,h5,ht]
   ·rw[if_neg h16] at ht
    simp(disch:=omega)only[aV,aa,simprocAttr,h5,ht]
  ·simp(disch:=omega)only[iX,aa,simprocAttr,hd]
 | false =>
  refine tZ ?_
  simp(disch:=omega)only[iX,aa,simprocAttr,aN,putAt,hb,o8,hl]
  refine tZ ?_
  cases hl2:isDigit b with
  | true =>
   have hk:kindOf b=2:=by rw[tI] at hl2;simpa using hl2
   simp(disch:=omega)only[iX,aa,simprocAttr,aN,putAt,hb,uo,hl2]
   refine cK s.length 2 (fun i=>Hd (fun T=>T 0=.str s/\T 4=.lbox 1 [.func (.func 170) [] [],.func (.func 170) [] []]/\T 5=.int .i64 i/\1<=i/\1+fi 2 r=i+fi 2 (s.drop i)) H H.length 2)
    (Hd (fun T=>T 5=.int .i64 ((1+fi 2 r:Nat):Int)) H H.length 2) (fun _=>False) ?_ ?_ (fun _ h=>h.elim) 1 _ (by rw[rO];simp) ?_
   ·rintro i st hi lA
    obtain⟨T,rfl,h0,h4,h5,hi1,hc⟩:=lA.out
    by_cases h:i<s.length
    ·rw[aoF h] at hc
     have AM:s[i]?=some s[i]:=an3 h
     generalize s[i]=c at hc AM
     simp only[fi,show ((2:Int)=1)=False by simp,aqv,aqJ] at hc
     have he:isDigit c=decide (kindOf c=2):=tI
     by_cases qi:kindOf c=2
     ·rw[if_pos qi] at hc
      simp(disch:=omega)only[aV,aa,simprocAttr,h0,h4,h5,AM,uo,he,qi]
      omega
     ·rw[if_neg qi] at hc
      simp(disch:=omega)only[aV,aa,simprocAttr,h0,h4,h5,AM,uo,he,qi]
      omega
    ·have:i=s.length:=by omega
     subst this
     rw[apW] at hc
     simp only[fi] at hc
     simp(disch:=omega)only[aV,aa,simprocAttr,h0,h4,h5]
     omega
   ·intro st lA
    obtain⟨T,rfl,h5⟩:=lA.out
    have ht:nU s=if 16<1+fi 2 r then 0 else 1+fi 2 r:=by rw[rO];simp only[nU,hk,if_pos (show (0:Int)<2 by omega)]
    by_cases h16:16<1+fi 2 r
    ·rw[if_pos h16] at ht
     simp(disch:=omega)only[aV,aa,simprocAttr,h5,ht]
    ·rw[if_neg h16] at ht
     simp(disch:=omega)only[aV,aa,simprocAttr,h5,ht]
   ·simp(disch:=omega)only[iX,aa,simprocAttr,hd]
  | false =>
   have hk:kindOf b=0:=by unfold kindOf;rw[hl,hl2];rfl
   simp(disch:=omega)only[iX,aa,simprocAttr,aN,putAt,hb,uo,hl2]
   refine tZ ?_
   simp(disch:=omega)only[iX,aa,simprocAttr,aeo]
   refine Zl (.agg (kH.map .str)) (by kernel_rfl) rfl ?_
   simp(disch:=omega)only[iX,aa,simprocAttr]
   have ait:mM s kH=nU s:=by rw[rO];exact HO hk
   have h18:kH.length=18:=rfl
   refine cK 18 4 (fun i=>Hd (fun T=>T 0=.str s/\T 36=.agg (kH.map .str)/\T 37=.int .i64 i/\nU s=mM s (kH.drop i)) H H.length 2)
    (Hd (fun T=>nU s=0) H H.length 2) (Hd (fun T=>T 2=.int .i64 (nU s)) H H.length 2) ?_ ?_ ?_ 0 _ (by omega) ?_
   ·rintro i st hi lA
    obtain⟨T,rfl,h0,h36,h37,hc⟩:=lA.out
    by_cases h:i<18
    ·have mn:i<kH.length:=by rw[h18];exact h
     have hx:(kH.map AV.str)[i]?=some (.str kH[i]):=by rw[aol,an3 mn];rfl
     rw[aoF mn] at hc
     simp only[mM] at hc
     generalize kH[i]=x at hc hx
     cases hp:x.isPrefixOf s with
     | true =>
      rw[if_pos hp] at hc
      simp(disch:=omega)only[aV,aa,simprocAttr,h0,h36,h37,aqp,hx,wS,hp]
      omega
     | false =>
      rw[if_neg (by simp[hp])] at hc
      simp(disch:=omega)only[aV,aa,simprocAttr,h0,h36,h37,aqp,hx,wS,hp]
      exact⟨h,hc⟩
    ·have:i=18:=by omega
     subst this
     rw[show kH.drop 18=[] from rfl] at hc
     simp only[mM] at hc
     simp(disch:=omega)only[aV,aa,simprocAttr,h37,hc]
   ·intro st lA
    obtain⟨T,rfl,hc⟩:=lA.out
    simp(disch:=omega)only[iX,aa,simprocAttr,hc]
   ·intro st lA
    obtain⟨T,rfl,hc⟩:=lA.out
    simp(disch:=omega)only[iX,aa,simprocAttr,hc]
   ·simp(disch:=omega)only[iX,aa,simprocAttr,ait]
theorem Yg(s:cd)(H:ai)(hs:s.length<=4611686018427387904):aE A 44 [.str s] H=some (.bool (isWord s),none):=by
 refine aD (fn:=QU) rfl rfl rfl ?_
 unfold QU
 cases rO:s with
 | nil=>simp(disch:=omega)only[iX,aa,simprocAttr,isWord,bne_self_eq_false]
 | cons b r =>
 rw[<- rO]
 have ff:s≠[]:=by rw[rO];simp
 have hl:(s==[])=false:=by simpa using ff
 have h27:fC.length=27:=rfl
 have hb:s[0]?=some b:=by rw[rO];rfl
 have hw:isWord s=(decide (kindOf b=1)&&!fC.contains s&&decide (nU s=s.length)):=by rw[rO];rfl
 have hk:=rf (c:=b)
 rw[hw]
 by_cases vT:kindOf b=1
 ·by_cases ht:nU s=s.length
  ·simp(disch:=omega)only[aV,aa,simprocAttr,hl,hb,o8,hk,vT,LQ s H ff hs,ht,aem,h27,IW fC s H (by omega)]
  ·simp(disch:=omega)only[aV,aa,simprocAttr,hl,hb,o8,hk,vT,LQ s H ff hs,ht]
 ·simp(disch:=omega)only[aV,aa,simprocAttr,hl,hb,o8,hk,vT]
theorem aiK(s:cd)(c:UInt8)(H:ai):aE A 119 [.str s,.int .u8 c.toNat] H=some (.int .i64 (jf c.toNat 0 s),none):=by
 refine qA (A:=A) (f:=119) rfl ?_
 have h1:decide ((0:Int)<=c.toNat)=true:=by simp
 have h2:decide ((c.toNat:Int)<256)=true:=by have:=c.toNat_lt;simp;omega
 simp only[iI,h1,h2,ao9,cond_true]
theorem Y5(s:cd)(c:UInt8)(H:ai)(hs:s.length<=10000000):aE A 111 [.str s,.str [c]] H=some (.int .i64 (jf c.toNat 0 s),none):=by
 refine aD (fn:=GP) rfl rfl rfl ?_
 unfold GP
 have hib:=aiK s c H
 cases h:(([c]:cd)==s) with
 | true =>
  have e:s=[c]:=(aoZ.1 h).symm
  subst e
  have:jf (c.toNat:Int) 0 [c]=0:=by simp[jf]
  rw[this]
  simp(disch:=omega)only[aY,aa,simprocAttr,an0,an1,h]
 | false =>
  simp(disch:=omega)only[aY,aa,simprocAttr,an0,an1,h,aor,hib]
theorem aiR(s:cd)(c:UInt8)(H:ai)(hs:s.length<=10000000):aE A 83 [.str s,.str [c]] H=some (.int .i64 (jf c.toNat 0 s),none):=by
 have h:=Y5 s c H hs
 refine aD (fn:=Rg) rfl rfl rfl ?_
 unfold Rg
 simp(disch:=omega)only[aY,aa,simprocAttr,h]
theorem FE(s:cd)(c:UInt8)(H:ai)(hs:s.length<=10000000):aE A 49 [.str s,.str [c]] H=some (.bool (decide (0<=jf c.toNat 0 s)),none):=by
 have h:=aiR s c H hs
 refine aD (fn:=QW) rfl rfl rfl ?_
 unfold QW
 simp(disch:=omega)only[aY,aa,simprocAttr,h]
theorem BG:∀ (s:cd) (k:Nat),((br s).2.2=true->jf 46 k s=k+(br s).1.length/\s=(br s).1++46 :: (br s).2.1)/\((br s).2.2=false->jf 46 k s=-1)
 | [],k=>⟨fun h=>by simp[br] at h,fun _=>rfl⟩
 | b :: r,k=>by
  by_cases hb:b.toNat=46
  ·have e:b=46:=UInt8.toNat_inj.1 hb
   subst e
   refine⟨fun _=>?_,fun h=>by simp[br] at h⟩
   simp[br,jf]
  ·have hi:jf 46 k (b :: r)=jf 46 (k+1) r:=by
    have:decide ((b.toNat:Int)=46)=false:=by simp;omega
    rw[jf,this,anZ]
   have hf:br (b :: r)=(b :: (br r).1,(br r).2.1,(br r).2.2):=by rw[br,if_neg hb]
   obtain⟨h1,h2⟩:=BG r (k+1)
   rw[hf,hi]
   refine⟨fun h=>?_,h2⟩
   obtain⟨a1,a2⟩:=h1 h
   refine⟨by simp only[a1,an0];omega,?_⟩
   simp only[apm]
   rw[<- a2]
theorem ZR(s:cd)(H:ai)(hs:s.length<=10000000):aE A 106 [.str s,.str [46]] H=some (.tuple [.str (br s).1,.str (br s).2.1,.bool (br s).2.2],none):=by
 have h:=Y5 s 46 H hs
 rw[show (((46:UInt8).toNat:Nat):Int)=46 from rfl] at h
 obtain⟨h1,h2⟩:=BG s 0
 refine aD (fn:=GO) rfl rfl rfl ?_
 unfold GO
 cases hf:(br s).2.2 with
 | true =>
  obtain⟨a1,a2⟩:=h1 hf
  rw[a1] at h
  rw[show ((0:Nat):Int)+(br s).1.length=(br s).1.length by omega] at h
  have hl:=pM s
  obtain⟨p,q,hp,hq,Ti⟩:∃ p q,p=(br s).1/\q=(br s).2.1/\s=p++46 :: q:=⟨_,_,rfl,rfl,a2⟩
  rw[<- hp,<- hq]
  rw[<- hp] at h
  have e1:s.take p.length=p:=by rw[Ti];exact List.take_left' rfl
  have e2:s.drop (p.length+1)=q:=by rw[Ti,List.drop_append];simp
  have e3:p.length+1<=s.length:=by rw[Ti,aod,an0];omega
  have en:asNat (.int .i64 ((p.length:Int)+1))=some (p.length+1):=by rw[bO (by omega)];rfl
  simp(disch:=omega)only[aY,aa,simprocAttr,h,an0,an1,aps,ape,e1,e2,en]
 | false =>
  rw[h2 hf] at h
  have e:=wP hf
  have e1:(br s).1=s:=by rw[e]
  have e2:(br s).2.1=[]:=by rw[e]
  rw[e1,e2]
  simp(disch:=omega)only[aY,aa,simprocAttr,h]
theorem ad7(s:cd)(H:ai)(hs:s.length<=10000000):aE A 81 [.str s,.str [46]] H=some (.tuple [.str (br s).1,.str (br s).2.1,.bool (br s).2.2],none):=by
 have h:=ZR s H hs
 refine aD (fn:=Rf) rfl rfl rfl ?_
 unfold Rf
 simp(disch:=omega)only[aY,aa,simprocAttr,h]
theorem X8(s:cd)(c:UInt8)(H:ai)(hs:s.length<=10000000):aE A 84 [.str s,.str [c]] H=some (.str (if [c].isPrefixOf s=true then s.drop 1 else s),none):=by
 have h:=uJ s [c] H
 refine aD (fn:=Rh) rfl rfl rfl ?_
 unfold Rh
 cases hp:[c].isPrefixOf s with
 | true =>
  have hl:1<=s.length:=by
   cases s with
   | nil=>simp[List.isPrefixOf] at hp
   | cons a r=>simp
  rw[if_pos rfl]
  simp(disch:=omega)only[aY,aa,simprocAttr,h,hp,an0,an1,aps]
 | false =>
  rw[if_neg (by decide)]
  simp(disch:=omega)only[aY,aa,simprocAttr,h,hp]
theorem ac6(s:cd)(c:UInt8)(H:ai)(hs:s.length<=10000000):aE A 51 [.str s,.str [c]] H=some (.str (if [c].isPrefixOf s=true then s.drop 1 else s),none):=by
 have h:=X8 s c H hs
 refine aD (fn:=QY) rfl rfl rfl ?_
 unfold QY
 simp(disch:=omega)only[aY,aa,simprocAttr,h]
theorem T6(b:Bool)(H:ai):aE A 85 [.bool b] H=some (.str (bif b then [116,114,117,101] else [102,97,108,115,101]),none):=by
 refine aD (fn:=Ri) rfl rfl rfl ?_
 unfold Ri
 cases b<;>simp(disch:=omega)only[aY,aa,simprocAttr,cond_true,anZ]
theorem aar(b:Bool)(H:ai):aE A 52 [.bool b] H=some (.str (bif b then [116,114,117,101] else [102,97,108,115,101]),none):=by
 have h:=T6 b H
 refine aD (fn:=QZ) rfl rfl rfl ?_
 unfold QZ
 simp(disch:=omega)only[aY,aa,simprocAttr,h]
theorem Rs(n:Int)(H:ai)(hn:D1 n):aE A 25 [.int .i64 n] H=some (.str (ql n),none):=by
 refine qA (A:=A) (f:=25) rfl ?_
 obtain⟨h1,h2⟩:=hn
 have e1:decide (-9223372036854775808<=n)=true:=by simp;omega
 have e2:decide (n<=9223372036854775807)=true:=by simp;omega
 simp only[zH,e1,e2,ao9,cond_true]
theorem ur:∀ (f n:Nat) (acc:cd),n<f->∃ d r,gE f n acc=d :: r/\d≠45
 | 0,n,acc,h=>by omega
 | f+1,n,acc,h=>by
  rw[gE]
  cases hb:Nat.blt n 10 with
  | true =>
   have hn:n<10:=by simpa [aoE] using hb
   refine⟨_,_,rfl,fun e=>?_⟩
   have:=apK UInt8.toNat e
   rw[UInt8.toNat_ofNat'] at this
   simp at this
   omega
  | false =>
   have hn:¬ n<10:=fun h=>by
    have:Nat.blt n 10=true:=by simpa [aoE] using h
    rw[hb] at this;cases this
   exact ur f (n / 10) _ (by omega)
theorem Dg{n:Int}(h:0<=n):ql n=mH n.toNat:=by
 obtain⟨k,rfl⟩:∃ k:Nat,n=k:=⟨n.toNat,by omega⟩
 rfl
theorem itoa_neg{n:Int}(h:n<0):ql n=45 :: mH (-n).toNat:=by
 cases n with
 | ofNat k=>exact absurd h (by simp)
 | negSucc k =>
  have:(-(Int.negSucc k)).toNat=k+1:=by simp[Int.neg_negSucc]
  rw[this];rfl
theorem NR(n:Int):(if ([45]:cd).isPrefixOf (ql n)=true then (ql n).drop 1 else ql n)=mH (if n<0 then (-n).toNat else n.toNat):=by
 by_cases h:n<0
 ·rw[itoa_neg h,if_pos h,if_pos (by simp[List.isPrefixOf])];rfl
 ·rw[Dg (by omega),if_neg h]
  obtain⟨d,r,e,hd⟩:=ur (n.toNat+1) n.toNat [] (by omega)
  have e' : mH n.toNat=d :: r:=e
  rw[e',if_neg]
  simp only[List.isPrefixOf,Bool.and_true]
  simpa using fun h=>hd h.symm
structure PW (mm:Nat) (K:ai):Prop where
 lt:mm<K.length
 nob:∀ j cs,mm<=j->K[j]?≠some (.ba cs)
def lq(l:List cd)(b:Bool):cJ:=.box 74 [.slice (strs l) true,.bool b]
def cE(mm:Nat)(l:List cd)(b:Bool)(K:ai):ai:=K.set mm (lq l b)
theorem aB{mm:Nat}{l:List cd}{b:Bool}{K:ai} : (cE mm l b K).length=K.length:=by unfold cE;rw[List.length_set]
theorem fG{mm:Nat}{l:List cd}{b:Bool}{K:ai}(h:PW mm K):(cE mm l b K)[mm]?=some (lq l b):=by unfold cE;exact List.getElem?_set_self h.lt
theorem DQ{mm j:Nat}{l:List cd}{b:Bool}{K:ai}(h:mm≠j):(cE mm l b K)[j]?=K[j]?:=by unfold cE;exact List.getElem?_set_ne h
theorem rz{mm:Nat}{l l' : List cd}{b b' : Bool}{K:ai} : (cE mm l b K).set mm (.box 74 [.slice (strs l') true,.bool b'])=cE mm l' b' K:=by unfold cE lq;rw[List.set_set]
theorem ga{mm:Nat}{l:List cd}{b:Bool}{K:ai} : (cE mm l b K).take K.length=cE mm l b K:=aoJ (apy aB)
theorem PW.open{mm:Nat}{K:ai}(h:PW mm K)(l:List cd)(b:Bool):rm K.length mm (cE mm l b K)=true:=by
 unfold rm
 cases hb:Nat.beq mm K.length with
 | true=>rfl
 | false =>
  rw[anZ,an']
  intro x hx
  obtain⟨j,hj⟩:=aoC hx
  rw[ga,aoS] at hj
  unfold cE at hj
  rw[ao8] at hj
  split at hj
  ·split at hj
   ·cases hj;rfl
   ·cases hj
  ·cases x with
   | ba cs=>exact absurd hj (h.nob _ cs (by omega))
   | _=>rfl
theorem PW.push{mm:Nat}{K:ai}(h:PW mm K){o:cJ}(ho:∀ cs,o≠.ba cs):PW mm (K++[o]):=⟨by have:=h.lt;rw[aod];omega,fun j cs hj=>by
 rw[apa]
 split
 ·exact h.nob j cs hj
 ·intro e
  cases vS:j-K.length with
  | zero=>rw[vS] at e;exact ho cs (by simpa using e)
  | succ n=>rw[vS] at e;simp at e⟩
theorem lP{mm:Nat}{l:List cd}{b:Bool}{K:ai}(h:PW mm K){L:ai} : cE mm l b K++L=cE mm l b (K++L):=by unfold cE;rw[List.set_append_left _ _ h.lt]
theorem kG{mm:Nat}{l:List cd}{b:Bool}{K:ai}(h:PW mm K){L:ai} : (cE mm l b (K++L)).take K.length=cE mm l b K:=by
 rw[<- lP h,List.take_left' aB]
theorem PW.BU{mm:Nat}{K:ai}(h:PW mm K){L:ai}(l:List cd)(b:Bool):rm K.length mm (cE mm l b (K++L))=true:=by
 have:=h.open l b
 unfold rm at this ⊢
 rw[kG h]
 rwa [ga] at this
def rB(mm:Nat)(K:ai)(f:FuncId)(args:List AV)(ok:Bool)(nK:List cd)(n:Nat):Prop :=
 ∀ l b,l.length+n<=10000000->∃ l',aE A f args (cE mm l b K)=some (.undef,some ⟨cE mm l' (b || !ok) K,mm⟩)/\((b || !ok)=false->l'=l++nK)/\l'.length<=l.length+n
theorem fL{mm:Nat}{K:ai}(h:PW mm K)(xs:List cd)(hx:xs.length<=1000):rB mm K 21 [.ref mm 0,.slice (strs xs) false] true xs xs.length:=by
 intro l b hl
 refine⟨l++xs,?_,fun _=>rfl,by simp⟩
 have e:(b || !true)=b:=by cases b<;>rfl
 rw[e]
 refine aD (fn:=Dc) rfl rfl rfl ?_
 unfold Dc
 have h0:=fG (l:=l) (b:=b) h
 unfold lq at h0
 have a1:aF false 1 16 (.slice (strs l) true) (.slice (strs xs) false)=some (.slice (strs (l++xs)) true):=cD (by omega)
 have bA:=h.lt
 have ho:=h.open (l++xs) b
 have h1:∀ x:cJ,((cE mm l b K).set mm x)[mm]?=some x:=fun x=>List.getElem?_set_self (by rw[aB];exact bA)
 simp(disch:=omega)only[mf,cZ,ca,cA,cu,gr,bj,aA,bf,aC.eval,AS.bW,↓reduceIte,Nat.reduceEqDiff,Option.isSome,Option.isNone,cond_true,anZ,Nat.reduceBEq,Nat.reduceAdd,Nat.reduceMul,aa,cj,eq_self,reduceCtorEq,gk,cQ,cm,bH,bound,dj,AS.bI,aQ,bF,bu,Nat.reduceLeDiff,cn,putAt,Int.reduceEq,Int.reduceLT,Int.reduceLE,Int.reduceBEq,Int.reduceBNe,Int.reduceAdd,Int.reduceNeg,Int.reduceSub,Int.reduceMul,dZ,dY,dX,dW,dV,dU,fc,fa,aN,bO,Int.toNat_natCast,aos,h0,h1,a1,aB,rz,List.set_set,ga,ho,ay,an,anW,anX,ab]
theorem xH{mm:Nat}{K:ai}(h:PW mm K)(ok:Bool):rB mm K 24 [.ref mm 0,.bool ok] ok [] 0:=by
 intro l b hl
 refine⟨l,?_,fun _=>by simp,by simp⟩
 refine aD (fn:=JR) rfl rfl rfl ?_
 unfold JR
 have h0:=fG (l:=l) (b:=b) h
 unfold lq at h0
 have bA:=h.lt
 have ho:=fun b=>h.open l b
 have h1:∀ x:cJ,((cE mm l b K).set mm x)[mm]?=some x:=fun x=>List.getElem?_set_self (by rw[aB];exact bA)
 cases b<;>simp(disch:=omega)only[mf,cZ,ca,cA,cu,gr,bj,aA,bf,aC.eval,AS.bW,↓reduceIte,Nat.reduceEqDiff,Option.isSome,Option.isNone,cond_true,anZ,Nat.reduceBEq,Nat.reduceAdd,Nat.reduceMul,aa,cj,eq_self,reduceCtorEq,gk,cQ,cm,bH,bound,dj,AS.bI,aQ,bF,bu,Nat.reduceLeDiff,cn,putAt,Int.reduceEq,Int.reduceLT,Int.reduceLE,Int.reduceBEq,Int.reduceBNe,Int.reduceAdd,Int.reduceNeg,Int.reduceSub,Int.reduceMul,dZ,dY,dX,dW,dV,dU,fc,fa,aN,bO,Int.toNat_natCast,aos,h0,h1,aB,rz,ga,ho,aog,aoz,ay,an,anW,anX,ab]
theorem RZ{mm:Nat}{K:ai}(h:PW mm K)(xs:List cd)(hx:xs.length<=1000)(h0:K[mm]?=some (.box 74 [.af,.bool false])):aE A 21 [.ref mm 0,.slice (strs xs) false] K=some (.undef,some ⟨cE mm xs false K,mm⟩):=by
 refine aD (fn:=Dc) rfl rfl rfl ?_
 unfold Dc
 have a1:aF false 1 16 (.slice [] true) (.slice (strs xs) false)=some (.slice (strs xs) true):=cD (l:=[]) (by simp;omega)
 have bA:=h.lt
 have ho:=h.open xs false
 have h1:∀ x:cJ,(K.set mm x)[mm]?=some x:=fun x=>List.getElem?_set_self bA
 have h2:∀ x:cJ,(K.set mm x).length=K.length:=fun x=>List.length_set
 have h3:K.set mm (.box 74 [.slice (strs xs) true,.bool false])=cE mm xs false K:=rfl
 simp(disch:=omega)only[aY,aa,simprocAttr,h0,h1,a1,h2,h3,List.set_set,ga,aB,ho,ay,an,anW,anX,ab]
theorem jh{mm:Nat}{K:ai}(h:PW mm K)(s:cd)(hs:s.length<=2000000):rB mm K 22 [.ref mm 0,.str s] (isWord s) [s] 1:=by
 intro l b hl
 have hw:=fun K=>Yg s K (by omega)
 obtain⟨l1,e1,t1,n1⟩:=xH h (isWord s) l b (by omega)
 obtain⟨l2,e2,t2,n2⟩:=fL h [s] (by simp) l1 (b || !isWord s) (by simp;omega)
 have eo:((b || !isWord s) || !true)=(b || !isWord s):=by simp
 rw[eo] at e2 t2
 have es:strs [s]=[[.str s]]:=rfl
 rw[es] at e2
 refine⟨l2,?_,fun hk=>by rw[t2 hk,t1 hk];simp,by simp at n2;omega⟩
 refine aD (fn:=QL) rfl rfl rfl ?_
 unfold QL
 have bA:=h.lt
 have ho:=h.open l2 (b || !isWord s)
 generalize isWord s=w at *
 simp(disch:=omega)only[mf,cZ,ca,cA,cu,gr,bj,aA,bf,aC.eval,AS.bW,↓reduceIte,Nat.reduceEqDiff,Option.isSome,Option.isNone,cond_true,anZ,Nat.reduceBEq,Nat.reduceAdd,Nat.reduceMul,aa,cj,eq_self,reduceCtorEq,gk,cQ,cm,bH,bound,dj,AS.bI,aQ,bF,bu,Nat.reduceLeDiff,cn,putAt,Int.reduceEq,Int.reduceLT,Int.reduceLE,Int.reduceBEq,Int.reduceBNe,Int.reduceAdd,Int.reduceNeg,Int.reduceSub,Int.reduceMul,dZ,dY,dX,dW,dV,dU,fc,fa,aN,bO,Int.toNat_natCast,aos,hw,e1,e2,aB,ga,ho,az,an6,an5,anZ]
theorem HN{mm:Nat}{l:List cd}{b:Bool}{K:ai}(h:PW mm K){o:cJ} : (cE mm l b (K++[o]))[K.length]?=some o:=by
 rw[DQ (by have:=h.lt;omega)];simp
theorem pn{mm:Nat}{K:ai}(h:PW mm K)(s:cd)(hs:s.length<=2000000):rB mm K 46 [.ref mm 0,.str s] (cT s) (cU s) 3:=by
 intro l b hl
 have bA:=h.lt
 have hc:=fun K=>ad7 s K (by omega)
 have C8:=pM s
 obtain⟨l1,e1,t1,n1⟩:=jh h (br s).1 (by omega) l b (by first|exact hl|omega|(simp only[an0,an1];omega))
 unfold cT cU
 cases hf:(br s).2.2 with
 | false =>
  rw[hf] at hc
  have eo:(b || !(isWord (br s).1&&(!false || isWord (br s).2.1)))=(b || !isWord (br s).1):=by cases b<;>cases isWord (br s).1<;>rfl
  rw[eo,if_neg (by decide)]
  refine⟨l1,?_,t1,by omega⟩
  refine aD (fn:=JX) rfl rfl rfl ?_
  unfold JX
  have ho:=h.open l1 (b || !isWord (br s).1)
  generalize (b || !isWord (br s).1)=b1 at *
  simp(disch:=omega)only[aY,aa,simprocAttr,hc,e1,ga,ho,az,an6,an5,anZ,cond_true,aB]
 | true =>
  rw[hf] at hc
  obtain⟨l2,e2,t2,n2⟩:=fL h [[46]] (by simp) l1 (b || !isWord (br s).1) (by simp only[an0,an1];omega)
  have es:strs [[46]]=[[.str [46]]]:=rfl
  have eo:((b || !isWord (br s).1) || !true)=(b || !isWord (br s).1):=by simp
  rw[eo,es] at e2
  rw[eo] at t2
  simp only[an0,an1] at n2
  obtain⟨l3,e3,t3,n3⟩:=jh h (br s).2.1 (by omega) l2 (b || !isWord (br s).1) (by omega)
  have eo:(b || !(isWord (br s).1&&(!true || isWord (br s).2.1)))=((b || !isWord (br s).1) || !isWord (br s).2.1):=by cases b<;>cases isWord (br s).1<;>cases isWord (br s).2.1<;>rfl
  rw[eo,if_pos rfl]
  refine⟨l3,?_,fun hk=>?_,by omega⟩
  ·refine aD (fn:=JX) rfl rfl rfl ?_
   unfold JX
   have ho:=h.open l3 ((b || !isWord (br s).1) || !isWord (br s).2.1)
   generalize ((b || !isWord (br s).1) || !isWord (br s).2.1)=b2 at *
   generalize (b || !isWord (br s).1)=b1 at *
   simp(disch:=omega)only[aY,aa,simprocAttr,hc,e1,e2,e3,ga,ho,az,an6,an5,anZ,cond_true,aB]
  ·have vT:(b || !isWord (br s).1)=false:=by
    cases h1:(b || !isWord (br s).1) with
    | false=>rfl
    | true=>rw[h1] at hk;cases hk
   rw[t3 hk,t2 vT,t1 vT];simp
def LF:List Wd->Bool
 | [k]=>bk k
 | _=>false
def NO:List Wd->List cd
 | [k]=>[[40]]++fe k++[[41]]
 | _=>[]
theorem KX{mm:Nat}{K:ai}(h:PW mm K){ks:List Wd}{n:Nat}(hn:n<=1000)(hk:∀ k,ks=[k]->rB mm K 23 [.ref mm 0,.agg (hN k)] (bk k) (fe k) n):rB mm K 45 [.ref mm 0,.slice (ax ks) false] (LF ks) (NO ks) (n+2):=by
 intro l b hl
 have bA:=h.lt
 have hlen:∀ c:Bool,((ks.length:Int)==1)=c->((((ax ks).length:Nat):Int)==1)=c:=fun c hc=>by rw[dG];exact hc
 have skip:∀ (c:Bool),((ks.length:Int)==1)=c->(b || !c)=true->(b || !LF ks)=true->∃ l',aE A 45 [.ref mm 0,.slice (ax ks) false] (cE mm l b K)=some (.undef,some ⟨cE mm l' (b || !LF ks) K,mm⟩)/\((b || !LF ks)=false->l'=l++NO ks)/\l'.length<=l.length+(n+2):=by
  intro c hc h1 h2
  obtain⟨l1,e1,t1,n1⟩:=xH h c l b (by first|exact hl|omega|(simp only[an0,an1];omega))
  rw[h1] at e1
  rw[h2]
  refine⟨l1,?_,(fun hk=>by cases hk),by omega⟩
  refine aD (fn:=JW) rfl rfl rfl ?_
  unfold JW
  have h0:=fG (l:=l1) (b:=true) h
  unfold lq at h0
  have ho:=h.open l1 true
  simp(disch:=omega)only[aY,aa,simprocAttr,hc,dG,e1,h0,ga,ho,az,an6,an5,anZ,cond_true,aB,ay,an,anW,anX,ab]
 match ks,hk,hlen,skip with
 | [],hk,hlen,skip=>exact skip false rfl (by cases b<;>rfl) (by cases b<;>rfl)
 | x :: y :: r,hk,hlen,skip=>exact skip false (by simp;omega) (by cases b<;>rfl) (by cases b<;>rfl)
 | [k],hk,hlen,skip =>
  cases b with
  | true=>exact skip true rfl rfl rfl
  | false =>
   obtain⟨l1,e1,t1,n1⟩:=xH h true l false (by omega)
   obtain⟨l2,e2,t2,n2⟩:=fL h [[40]] (by simp) l1 false (by simp only[an0,an1];omega)
   simp only[an0,an1] at n2
   obtain⟨l3,e3,t3,n3⟩:=hk k rfl l2 false (by omega)
   obtain⟨l4,e4,t4,n4⟩:=fL h [[41]] (by simp) l3 (!bk k) (by simp only[an0,an1];omega)
   simp only[an0,an1] at n4
   have es:∀ s:cd,strs [s]=[[.str s]]:=fun _=>rfl
   simp only[aoe,aop,aog,es] at e1 e2 e3 e4 t1 t2 t3 t4 ⊢
   unfold LF NO
   refine⟨l4,?_,fun hp=>by rw[t4 hp,t3 hp,t2 trivial,t1 trivial];simp,by omega⟩
   refine aD (fn:=JW) rfl rfl rfl ?_
   unfold JW
   have h0:=fG (l:=l1) (b:=false) h
   unfold lq at h0
   have ho:=h.open l4 (!bk k)
   rw[iQ] at e3
   have gq:(ax [k])[0]?=some [.str k.name,.slice (ax k.kids) false]:=by rw[Zq (l:=[k]) (i:=0) rfl,iQ]
   generalize (!bk k)=pb at *
   simp(disch:=omega)only[aY,aa,simprocAttr,dG,gq,an0,an1,e1,e2,e3,e4,h0,ga,ho,az,an6,an5,anZ,cond_true,aB,ay,an,anW,anX,ab]
theorem H3{n:cd}{ks:List Wd}(ff:n≠gP):fe (.mk n ks)=if (n==xD || n==qn)=true then [n] else cU n:=by
 cases ks with
 | nil=>rw[fe]<;>simp[ff]
 | cons a r=>cases r<;>rw[fe]<;>simp[ff]
theorem zN{n:cd}{ks:List Wd}(ff:n≠gP):bk (.mk n ks)=(decide (ks.length=0)&&(n==xD || n==qn || cT n)):=by
 cases ks with
 | nil=>rw[bk];simp[ff]
 | cons a r=>cases r<;>rw[bk]<;>simp[ff]
theorem Nw{ks:List Wd} : bk (.mk gP ks)=LF ks:=by
 match ks with
 | []=>rw[bk];simp[LF]
 | [k]=>rw[bk];simp[LF]
 | a :: b :: r=>rw[bk]<;>simp[LF]
theorem Yh{k:Wd} : fe (.mk gP [k])=[gP]++NO [k]:=by rw[fe];simp[NO]
theorem DZ:∀ (h:Nat) (w:Wd),h<=100->wD h w->∀ (mm:Nat) (K:ai),PW mm K->rB mm K 23 [.ref mm 0,.agg (hN w)] (bk w) (fe w) (3*h+3):=by
 have main:∀ (h:Nat) (w:Wd),h<=100->w.name.length<=1100000->∀ (mm:Nat) (K:ai),PW mm K->(w.kids.length<=1/\(0<w.kids.length->0<h))->(∀ k∈w.kids,∀ (mm:Nat) (K:ai),PW mm K->rB mm K 23 [.ref mm 0,.agg (hN k)] (bk k) (fe k) (3*h))->rB mm K 23 [.ref mm 0,.agg (hN w)] (bk w) (fe w) (3*h+3):=by
  intro h w hh qk mm K hP gF hk l b hl
  obtain⟨n,ks⟩:=w
  simp only[Wd.name,Wd.kids] at qk gF hk
  rw[hN]
  have fp:PW mm (K++[.box 42 [.str n,.slice (ax ks) false]]):=hP.push (fun cs e=>by cases e)
  have cw:=lP (l:=l) (b:=b) hP (L:=[.box 42 [.str n,.slice (ax ks) false]])
  have dA:=fun l b=>HN (l:=l) (b:=b) hP (o:=.box 42 [.str n,.slice (ax ks) false])
  have hT:=fun l b=>kG (l:=l) (b:=b) hP (L:=[.box 42 [.str n,.slice (ax ks) false]])
  have hO:=fun l b=>hP.BU (L:=[.box 42 [.str n,.slice (ax ks) false]]) l b
  have bA:=hP.lt
  have wX:decide (K.length<K.length)=false:=by simp
  have es:∀ s:cd,strs [s]=[[.str s]]:=fun _=>rfl
  generalize K++[.box 42 [.str n,.slice (ax ks) false]]=K1 at fp cw dA hT hO
  have YL:((ks.length:Int)==0)=decide (ks.length=0):=by
   cases ks with
   | nil=>rfl
   | cons a r=>simp;omega
  by_cases hn:n=gP
  ·subst hn
   obtain⟨l1,e1,t1,n1⟩:=fL fp [gP] (by simp) l b (by first|exact hl|omega|(simp only[an0,an1];omega))
   simp only[an0,an1] at n1
   rw[show (b || !true)=b by cases b<;>rfl,es] at e1
   rw[show (b || !true)=b by cases b<;>rfl] at t1
   obtain⟨l2,e2,t2,n2⟩:=KX fp (ks:=ks) (n:=3*h) (by omega) (fun k qj=>hk k (by rw[qj];simp) mm K1 fp) l1 b (by omega)
   rw[Nw]
   refine⟨l2,?_,fun hp=>?_,by omega⟩
   ·refine aD (fn:=Dd) rfl rfl rfl ?_
    unfold Dd
    have n1e:(gP==([73,110,116]:cd))=false:=by decide
    have n2e:(gP==([66,111,111,108]:cd))=false:=by decide
    have n3e:(gP==([76,105,115,116]:cd))=true:=by decide
    have ho:=hO l2 (b || !LF ks)
    generalize (b || !LF ks)=b2 at *
    simp(disch:=omega)only[mf,cZ,ca,cA,cu,gr,bj,aA,bf,aC.eval,AS.bW,↓reduceIte,Nat.reduceEqDiff,Option.isSome,Option.isNone,cond_true,anZ,Nat.reduceBEq,Nat.reduceAdd,Nat.reduceMul,aa,cj,eq_self,reduceCtorEq,gk,cQ,cm,bH,bound,dj,AS.bI,aQ,bF,bu,Nat.reduceLeDiff,cn,putAt,Int.reduceEq,Int.reduceLT,Int.reduceLE,Int.reduceBEq,Int.reduceBNe,Int.reduceAdd,Int.reduceNeg,Int.reduceSub,Int.reduceMul,dZ,dY,dX,dW,dV,dU,fc,fa,aN,bO,Int.toNat_natCast,aos,cw,dA,e1,e2,n1e,n2e,n3e,hT,ho,az,an6,an5,anZ,cond_true,aB,ay,an,anW,anX,ab]
   ·have hb:b=false:=by cases b<;>simp_all
    have hko:LF ks=true:=by cases h:LF ks<;>simp_all
    obtain⟨k,rfl⟩:∃ k,ks=[k]:=by
     match ks,hko with
     | [k],_=>exact⟨k,rfl⟩
     | [],h=>cases h
     | _ :: _ :: _,h=>cases h
    rw[t2 hp,t1 hb,Yh,apd]
  ·have aif:(n==([76,105,115,116]:cd))=false:=by simpa using hn
   obtain⟨l1,e1,t1,n1⟩:=xH fp (decide (ks.length=0)) l b (by first|exact hl|omega|(simp only[an0,an1];omega))
   by_cases hi:n=xD\/n=qn
   ·obtain⟨l2,e2,t2,n2⟩:=fL fp [n] (by simp) l1 (b || !decide (ks.length=0)) (by simp only[an0,an1];omega)
    simp only[an0,an1] at n2
    have eo:∀ c:Bool,(c || !true)=c:=fun c=>by cases c<;>rfl
    rw[eo,es] at e2
    rw[eo] at t2
    have hpw:bk (.mk n ks)=decide (ks.length=0):=by
     rw[zN hn,show (n==xD || n==qn || cT n)=true by rcases hi with e|e<;>simp[e],Bool.and_true]
    have kU:fe (.mk n ks)=[n]:=by rw[H3 hn,if_pos (by rcases hi with e|e<;>simp[e])]
    rw[hpw,kU]
    refine⟨l2,?_,fun hp=>by rw[t2 hp,t1 hp];simp,by omega⟩
    refine aD (fn:=Dd) rfl rfl rfl ?_
    unfold Dd
    have ho:=hO l2 (b || !decide (ks.length=0))
    generalize (b || !decide (ks.length=0))=b2 at *
    cases q1:(n==([73,110,116]:cd)) with
    | true=>simp(disch:=omega)only[mf,cZ,ca,cA,cu,gr,bj,aA,bf,aC.eval,AS.bW,↓reduceIte,Nat.reduceEqDiff,Option.isSome,Option.isNone,cond_true,anZ,Nat.reduceBEq,Nat.reduceAdd,Nat.reduceMul,aa,cj,eq_self,reduceCtorEq,gk,cQ,cm,bH,bound,dj,AS.bI,aQ,bF,bu,Nat.reduceLeDiff,cn,putAt,Int.reduceEq,Int.reduceLT,Int.reduceLE,Int.reduceBEq,Int.reduceBNe,Int.reduceAdd,Int.reduceNeg,Int.reduceSub,Int.reduceMul,dZ,dY,dX,dW,dV,dU,fc,fa,aN,bO,Int.toNat_natCast,aos,cw,dA,dG,YL,e1,e2,q1,hT,ho,az,an6,an5,anZ,cond_true,aB,ay,an,anW,anX,ab]
    | false =>
     have q2:(n==([66,111,111,108]:cd))=true:=by
      rcases hi with e|e
      ·rw[e] at q1;exact absurd q1 (by decide)
      ·rw[e];decide
     simp(disch:=omega)only[mf,cZ,ca,cA,cu,gr,bj,aA,bf,aC.eval,AS.bW,↓reduceIte,Nat.reduceEqDiff,Option.isSome,Option.isNone,cond_true,anZ,Nat.reduceBEq,Nat.reduceAdd,Nat.reduceMul,aa,cj,eq_self,reduceCtorEq,gk,cQ,cm,bH,bound,dj,AS.bI,aQ,bF,bu,Nat.reduceLeDiff,cn,putAt,Int.reduceEq,Int.reduceLT,Int.reduceLE,Int.reduceBEq,Int.reduceBNe,Int.reduceAdd,Int.reduceNeg,Int.reduceSub,Int.reduceMul,dZ,dY,dX,dW,dV,dU,fc,fa,aN,bO,Int.toNat_natCast,aos,cw,dA,dG,YL,e1,e2,q1,q2,hT,ho,az,an6,an5,anZ,cond_true,aB,ay,an,anW,anX,ab]
   ·have q1:(n==([73,110,116]:cd))=false:=by simpa using fun e=>hi (.inl e)
    have q2:(n==([66,111,111,108]:cd))=false:=by simpa using fun e=>hi (.inr e)
    obtain⟨l2,e2,t2,n2⟩:=pn fp n (by omega) l1 (b || !decide (ks.length=0)) (by omega)
    have hpw:bk (.mk n ks)=(decide (ks.length=0)&&cT n):=by rw[zN hn,show (n==xD)=false from q1,show (n==qn)=false from q2];rfl
    have kU:fe (.mk n ks)=cU n:=by rw[H3 hn,if_neg (by rw[show (n==xD)=false from q1,show (n==qn)=false from q2];decide)]
    have eo:(b || !(decide (ks.length=0)&&cT n))=((b || !decide (ks.length=0)) || !cT n):=by cases b<;>cases decide (ks.length=0)<;>cases cT n<;>rfl
    rw[hpw,kU,eo]
    refine⟨l2,?_,fun hp=>?_,by omega⟩
    ·refine aD (fn:=Dd) rfl rfl rfl ?_
     unfold Dd
     have ho:=hO l2 ((b || !decide (ks.length=0)) || !cT n)
     generalize ((b || !decide (ks.length=0)) || !cT n)=b3 at *
     generalize (b || !decide (ks.length=0))=b2 at *
     simp(disch:=omega)only[mf,cZ,ca,cA,cu,gr,bj,aA,bf,aC.eval,AS.bW,↓reduceIte,Nat.reduceEqDiff,Option.isSome,Option.isNone,cond_true,anZ,Nat.reduceBEq,Nat.reduceAdd,Nat.reduceMul,aa,cj,eq_self,reduceCtorEq,gk,cQ,cm,bH,bound,dj,AS.bI,aQ,bF,bu,Nat.reduceLeDiff,cn,putAt,Int.reduceEq,Int.reduceLT,Int.reduceLE,Int.reduceBEq,Int.reduceBNe,Int.reduceAdd,Int.reduceNeg,Int.reduceSub,Int.reduceMul,dZ,dY,dX,dW,dV,dU,fc,fa,aN,bO,Int.toNat_natCast,aos,cw,dA,dG,YL,e1,e2,q1,q2,aif,hT,ho,az,an6,an5,anZ,cond_true,aB,ay,an,anW,anX,ab]
    ·have hp1:(b || !decide (ks.length=0))=false:=by
      cases h1:(b || !decide (ks.length=0)) with
      | false=>rfl
      | true=>rw[h1] at hp;cases hp
     rw[t2 hp,t1 hp1];simp
 intro h
 induction h with
 | zero =>
  intro w hh hb mm K hP
  obtain⟨n,ks⟩:=w
  obtain⟨h1,h2⟩:=hb
  simp only[Wd.kids] at h2
  subst h2
  exact main 0 _ hh h1 mm K hP ⟨by simp[Wd.kids],by simp[Wd.kids]⟩ (by simp[Wd.kids])
 | succ h ih =>
  intro w hh hb mm K hP
  obtain⟨n,ks⟩:=w
  obtain⟨h1,h2,h3⟩:=hb
  exact main (h+1) _ hh h1 mm K hP ⟨h2,by omega⟩ (fun k hk=>by
   have:=ih k (by omega) (h3 k hk)
   exact this)
theorem lD{mm:Nat}{K:ai}(hP:PW mm K)(t:Tm):∃ K1,PW mm K1/\(∀ l b,cE mm l b K++[.box 45 [.int .i64 t.kind,.int .i64 t.n,.str t.name,.str t.field,.str t.wn,.slice (ax t.wk) false,.slice (ar t.kids) false,.slice (strs t.names) false]]=cE mm l b K1)/\(∀ l b,(cE mm l b K1)[K.length]?=some (.box 45 [.int .i64 t.kind,.int .i64 t.n,.str t.name,.str t.field,.str t.wn,.slice (ax t.wk) false,.slice (ar t.kids) false,.slice (strs t.names) false]))/\(∀ l b,(cE mm l b K1).take K.length=cE mm l b K)/\∀ l b,rm K.length mm (cE mm l b K1)=true :=
 ⟨K++[.box 45 [.int .i64 t.kind,.int .i64 t.n,.str t.name,.str t.field,.str t.wn,.slice (ax t.wk) false,.slice (ar t.kids) false,.slice (strs t.names) false]],hP.push (fun cs e=>by cases e),fun _ _=>lP hP,fun _ _=>HN hP,fun _ _=>kG hP,fun l b=>hP.BU l b⟩
theorem h3b{H:ai}{a b c:cJ} : (H++[a,b,c])[H.length+1]?=some b:=by rw[aou (by omega)];simp
theorem s3c{H:ai}{a b c d:cJ} : (H++[a,b,c]).set (H.length+2) d=H++[a,b,d]:=by rw[ap6 _ _ (by omega)];simp
def fA(k:Int):cd:=if k=0 then [110] else if k=1 then [110] else if k=2 then [97] else if k=3 then [97,107] else if k=4 then [110,107] else if k=5 then [107] else if k=6 then [107,115] else if k=7 then [97,107,115] else if k=8 then [97,102,107] else if k=9 then [97,102,107] else if k=10 then [97,107,115] else if k=11 then [116,107] else if k=12 then [107,115] else []
theorem fe0:fg [.i] [.int .i64 0] []=some none:=rfl
theorem fe1:fg [.i] [.int .i64 1] [[.int .i64 0,.str [110]]]=some none:=rfl
theorem fe2:fg [.i] [.int .i64 2] [[.int .i64 0,.str [110]],[.int .i64 1,.str [110]]]=some none:=rfl
theorem fe3:fg [.i] [.int .i64 3] [[.int .i64 0,.str [110]],[.int .i64 1,.str [110]],[.int .i64 2,.str [97]]]=some none:=rfl
theorem fe4:fg [.i] [.int .i64 4] [[.int .i64 0,.str [110]],[.int .i64 1,.str [110]],[.int .i64 2,.str [97]],[.int .i64 3,.str [97,107]]]=some none:=rfl
theorem fe5:fg [.i] [.int .i64 5] [[.int .i64 0,.str [110]],[.int .i64 1,.str [110]],[.int .i64 2,.str [97]],[.int .i64 3,.str [97,107]],[.int .i64 4,.str [110,107]]]=some none:=rfl
theorem fe6:fg [.i] [.int .i64 6] [[.int .i64 0,.str [110]],[.int .i64 1,.str [110]],[.int .i64 2,.str [97]],[.int .i64 3,.str [97,107]],[.int .i64 4,.str [110,107]],[.int .i64 5,.str [107]]]=some none:=rfl
theorem fe7:fg [.i] [.int .i64 7] [[.int .i64 0,.str [110]],[.int .i64 1,.str [110]],[.int .i64 2,.str [97]],[.int .i64 3,.str [97,107]],[.int .i64 4,.str [110,107]],[.int .i64 5,.str [107]],[.int .i64 6,.str [107,115]]]=some none:=rfl
theorem fe8:fg [.i] [.int .i64 8] [[.int .i64 0,.str [110]],[.int .i64 1,.str [110]],[.int .i64 2,.str [97]],[.int .i64 3,.str [97,107]],[.int .i64 4,.str [110,107]],[.int .i64 5,.str [107]],[.int .i64 6,.str [107,115]],[.int .i64 7,.str [97,107,115]]]=some none:=rfl
theorem fe9:fg [.i] [.int .i64 9] [[.int .i64 0,.str [110]],[.int .i64 1,.str [110]],[.int .i64 2,.str [97]],[.int .i64 3,.str [97,107]],[.int .i64 4,.str [110,107]],[.int .i64 5,.str [107]],[.int .i64 6,.str [107,115]],[.int .i64 7,.str [97,107,115]],[.int .i64 8,.str [97,102,107]]]=some none:=rfl
theorem ahw:fg [.i] [.int .i64 10] [[.int .i64 0,.str [110]],[.int .i64 1,.str [110]],[.int .i64 2,.str [97]],[.int .i64 3,.str [97,107]],[.int .i64 4,.str [110,107]],[.int .i64 5,.str [107]],[.int .i64 6,.str [107,115]],[.int .i64 7,.str [97,107,115]],[.int .i64 8,.str [97,102,107]],[.int .i64 9,.str [97,102,107]]]=some none:=rfl
theorem aam:fg [.i] [.int .i64 11] [[.int .i64 0,.str [110]],[.int .i64 1,.str [110]],[.int .i64 2,.str [97]],[.int .i64 3,.str [97,107]],[.int .i64 4,.str [110,107]],[.int .i64 5,.str [107]],[.int .i64 6,.str [107,115]],[.int .i64 7,.str [97,107,115]],[.int .i64 8,.str [97,102,107]],[.int .i64 9,.str [97,102,107]],[.int .i64 10,.str [97,107,115]]]=some none:=rfl
theorem ahx:fg [.i] [.int .i64 12] [[.int .i64 0,.str [110]],[.int .i64 1,.str [110]],[.int .i64 2,.str [97]],[.int .i64 3,.str [97,107]],[.int .i64 4,.str [110,107]],[.int .i64 5,.str [107]],[.int .i64 6,.str [107,115]],[.int .i64 7,.str [97,107,115]],[.int .i64 8,.str [97,102,107]],[.int .i64 9,.str [97,102,107]],[.int .i64 10,.str [97,107,115]],[.int .i64 11,.str [116,107]]]=some none:=rfl
theorem fgx{k:Int}(h:k<0\/12<k):fg [.i] [.int .i64 k] [[.int .i64 0,.str [110]],[.int .i64 1,.str [110]],[.int .i64 2,.str [97]],[.int .i64 3,.str [97,107]],[.int .i64 4,.str [110,107]],[.int .i64 5,.str [107]],[.int .i64 6,.str [107,115]],[.int .i64 7,.str [97,107,115]],[.int .i64 8,.str [97,102,107]],[.int .i64 9,.str [97,102,107]],[.int .i64 10,.str [97,107,115]],[.int .i64 11,.str [116,107]],[.int .i64 12,.str [107,115]]]=some none:=by
 have e0:(k==(0:Int))=false:=by simp;omega
 have e1:(k==(1:Int))=false:=by simp;omega
 have e2:(k==(2:Int))=false:=by simp;omega
 have e3:(k==(3:Int))=false:=by simp;omega
 have e4:(k==(4:Int))=false:=by simp;omega
 have e5:(k==(5:Int))=false:=by simp;omega
 have e6:(k==(6:Int))=false:=by simp;omega
 have e7:(k==(7:Int))=false:=by simp;omega
 have e8:(k==(8:Int))=false:=by simp;omega
 have e9:(k==(9:Int))=false:=by simp;omega
 have ZT:(k==(10:Int))=false:=by simp;omega
 have ZU:(k==(11:Int))=false:=by simp;omega
 have ZV:(k==(12:Int))=false:=by simp;omega
 simp only[fg,cG,apB,cond_true,aoi,an8,Bool.and_true,anZ,e0,e1,e2,e3,e4,e5,e6,e7,e8,e9,ZT,ZU,ZV,ap1]
theorem Zy{k:IntKind}{n:Int} : (AV.int k n).isAgg=false:=rfl
theorem Zz{s:cd} : (AV.str s).isAgg=false:=rfl
theorem aan:(false==false)=true:=rfl
theorem wq{es:List (List AV)}{r:List AV} : tQ es none r=es++[r]:=rfl
theorem afy(u:cd)(c:UInt8)(loc:Nat)(H:ai)(hu:u.length<=1000)(hl:H[loc]?=some (.box 9 [.str u])):aE A 48 [.str [c],.ref loc 0] H=some (.bool (!decide (0<=jf c.toNat 0 u)),none):=by
 have h:=FE u c H (by omega)
 refine aD (fn:=QV) rfl rfl rfl ?_
 unfold QV
 simp(disch:=omega)only[aY,aa,simprocAttr,h,hl,ay,an,anW,anX,ab]
def cC(u:cd)(c:UInt8):Bool:=!decide (0<=jf c.toNat 0 u)
def mZ(u:cd)(t:Tm):Bool:=!(cC u 110&&(t.n != 0) || (cC u 97&&!(t.name==[]) || (cC u 102&&!(t.field==[]) || (cC u 116&&(!(t.wn==[]) || decide (0<t.wk.length)) || (cC u 107&&decide (0<t.kids.length) || cC u 115&&decide (0<t.names.length))))))
def bt(t:Tm):Bool:=mZ (fA t.kind) t
theorem sG(u:cd)(c:UInt8)(b:Bool)(loc:Nat)(H:ai)(hu:u.length<=1000)(hl:H[loc]?=some (.box 9 [.str u]))(hb:cC u c=b):aE A 48 [.str [c],.ref loc 0] H=some (.bool b,none):=by
 rw[<- hb];exact afy u c loc H hu hl
def Ob(t:Tm)(H:ai)(u:cd)(s:AS):Prop:=∃ T K,s=⟨T,K,H.length,0⟩/\K.take H.length=H/\T 1=.ref H.length 0/\T 4=.func (.func 48) [] [.ref (H.length+2) 0]/\K[H.length]?=some (.box 45 [.int .i64 t.kind,.int .i64 t.n,.str t.name,.str t.field,.str t.wn,.slice (ax t.wk) false,.slice (ar t.kids) false,.slice (strs t.names) false])/\K[H.length+2]?=some (.box 9 [.str u])
theorem ada{t:Tm}{H:ai}{Q:cq->AS->Prop} : W A (lK.body.pre 2) ⟨gY [.agg (cV t)],H,H.length,0⟩ (andThen (Ob t H (fA t.kind)) Q):=by
 rw[al]
 have o4:decide (H.length+1<H.length)=false:=by simp
 have jL:decide (H.length+2<H.length)=false:=by simp
 have run:∀ (k:Int) (u:cd),(fg [.i] [.int .i64 k] [[.int .i64 0,.str [110]],[.int .i64 1,.str [110]],[.int .i64 2,.str [97]],[.int .i64 3,.str [97,107]],[.int .i64 4,.str [110,107]],[.int .i64 5,.str [107]],[.int .i64 6,.str [107,115]],[.int .i64 7,.str [97,107,115]],[.int .i64 8,.str [97,102,107]],[.int .i64 9,.str [97,102,107]],[.int .i64 10,.str [97,107,115]],[.int .i64 11,.str [116,107]],[.int .i64 12,.str [107,115]]]).map (o9 false false [.str []] 1 [[.int .i64 0,.str [110]],[.int .i64 1,.str [110]],[.int .i64 2,.str [97]],[.int .i64 3,.str [97,107]],[.int .i64 4,.str [110,107]],[.int .i64 5,.str [107]],[.int .i64 6,.str [107,115]],[.int .i64 7,.str [97,107,115]],[.int .i64 8,.str [97,102,107]],[.int .i64 9,.str [97,102,107]],[.int .i64 10,.str [97,107,115]],[.int .i64 11,.str [116,107]],[.int .i64 12,.str [107,115]]])=some (.str u)->W A (lK.body.pre 2) ⟨gY [.agg [.int .i64 k,.int .i64 t.n,.str t.name,.str t.field,.str t.wn,.slice (ax t.wk) false,.slice (ar t.kids) false,.slice (strs t.names) false]],H,H.length,0⟩ (andThen (fun s=>∃ T K,s=⟨T,K,H.length,0⟩/\K.take H.length=H/\T 1=.ref H.length 0/\T 4=.func (.func 48) [] [.ref (H.length+2) 0]/\K[H.length]?=some (.box 45 [.int .i64 k,.int .i64 t.n,.str t.name,.str t.field,.str t.wn,.slice (ax t.wk) false,.slice (ar t.kids) false,.slice (strs t.names) false])/\K[H.length+2]?=some (.box 9 [.str u])) Q):=by
  intro k u hu
  unfold lK
  simp only[bq.pre]
  have hlx:∀ a,BN (H++[a,.map 1 false false [[.int .i64 0,.str [110]],[.int .i64 1,.str [110]],[.int .i64 2,.str [97]],[.int .i64 3,.str [97,107]],[.int .i64 4,.str [110,107]],[.int .i64 5,.str [107]],[.int .i64 6,.str [107,115]],[.int .i64 7,.str [97,107,115]],[.int .i64 8,.str [97,102,107]],[.int .i64 9,.str [97,102,107]],[.int .i64 10,.str [97,107,115]],[.int .i64 11,.str [116,107]],[.int .i64 12,.str [107,115]]]]) false 1 false false [.i] [.str []] (.mref (H.length+1)) (.int .i64 k)=some (.str u):=fun a=>by
   simp only[BN,V6,AV.drop,AV.cells,an8,h2b]
   exact hu
  simp(disch:=omega)only[mf,cZ,ca,cA,cu,gr,bj,aA,bf,aC.eval,AS.bW,↓reduceIte,Nat.reduceEqDiff,Option.isSome,Option.isNone,cond_true,anZ,Nat.reduceBEq,Nat.reduceAdd,Nat.reduceMul,aa,cj,eq_self,reduceCtorEq,gk,cQ,cm,bH,bound,dj,AS.bI,aQ,bF,bu,Nat.reduceLeDiff,cn,putAt,Int.reduceEq,Int.reduceLT,Int.reduceLE,Int.reduceBEq,Int.reduceBNe,Int.reduceAdd,Int.reduceNeg,Int.reduceSub,Int.reduceMul,dZ,dY,dX,dW,dV,dU,fc,fa,aN,bO,Int.toNat_natCast,aos,qO,Ue,h2b,s2b,h3a,h3b,h3c,s3c,l1,l2,o4,jL,fe0,fe1,fe2,fe3,fe4,fe5,fe6,fe7,fe8,fe9,ahw,aam,ahx,wq,Zy,Zz,aan,ao9,cond_true,apm,ao0,aoi,an8,aJ,hlx,ay,an,anW,anX,ab]
  exact⟨_,_,rfl,h3t,by simp(disch:=omega)only[mf,cZ,ca,cA,cu,gr,bj,aA,bf,aC.eval,AS.bW,↓reduceIte,Nat.reduceEqDiff,Option.isSome,Option.isNone,cond_true,anZ,Nat.reduceBEq,Nat.reduceAdd,Nat.reduceMul,aa,cj,eq_self,reduceCtorEq,gk,cQ,cm,bH,bound,dj,AS.bI,aQ,bF,bu,Nat.reduceLeDiff,cn,putAt,Int.reduceEq,Int.reduceLT,Int.reduceLE,Int.reduceBEq,Int.reduceBNe,Int.reduceAdd,Int.reduceNeg,Int.reduceSub,Int.reduceMul,dZ,dY,dX,dW,dV,dU,fc,fa],by simp(disch:=omega)only[mf,cZ,ca,cA,cu,gr,bj,aA,bf,aC.eval,AS.bW,↓reduceIte,Nat.reduceEqDiff,Option.isSome,Option.isNone,cond_true,anZ,Nat.reduceBEq,Nat.reduceAdd,Nat.reduceMul,aa,cj,eq_self,reduceCtorEq,gk,cQ,cm,bH,bound,dj,AS.bI,aQ,bF,bu,Nat.reduceLeDiff,cn,putAt,Int.reduceEq,Int.reduceLT,Int.reduceLE,Int.reduceBEq,Int.reduceBNe,Int.reduceAdd,Int.reduceNeg,Int.reduceSub,Int.reduceMul,dZ,dY,dX,dW,dV,dU,fc,fa],h3a,by rw[h3c]⟩
 unfold Ob
 refine run t.kind (fA t.kind) ?_
 rcases tG t.kind with e|e|e|e|e|e|e|e|e|e|e|e|e|e
 all_goals first|(rw[e];rfl)|skip
 rw[fgx e]
 have:fA t.kind=[]:=by
  unfold fA
  repeat rw[if_neg (by omega)]
 rw[this];rfl
theorem S3{t:Tm}{H:ai}{s:AS}(hs:Ob t H [110] s):W A (lK.body.post 2) s (done H.length [.tmp 2] (.bool (mZ [110] t),none)):=by
 obtain⟨T,K,rfl,hK,q1,q4,hb,hu⟩:=hs
 unfold lK
 simp only[bq.post]
 obtain⟨m1,m2,m3,m4,m5,m6⟩:cC [110] 110=false/\cC [110] 97=true/\cC [110] 102=true/\cC [110] 116=true/\cC [110] 107=true/\cC [110] 115=true:=⟨rfl,rfl,rfl,rfl,rfl,rfl⟩
 have nc:=fun c b=>sG [110] c b (H.length+2) K (by decide) hu
 have n1:=nc _ _ m1
 have n2:=nc _ _ m2
 have n3:=nc _ _ m3
 have n4:=nc _ _ m4
 have n5:=nc _ _ m5
 have n6:=nc _ _ m6
 clear nc
 cases yu:(t.name==[])
 rotate_left
 cases nX:(t.field==[])
 rotate_left
 cases FG:(t.wn==[])
 rotate_left
 by_cases FF:0<t.wk.length
 rotate_left
 by_cases ON:0<t.kids.length
 rotate_left
 by_cases pH:0<t.names.length
 rotate_left
 all_goals simp(disch:=omega)only[aY,aa,simprocAttr,bne,dG,bK,cg,ay,an,anW,anX,ab,mZ,aoj,aon,aog,aoz,aop,aoB,aoe,aoa,apB,an5, *]
theorem agx{t:Tm}{H:ai}{s:AS}(hs:Ob t H [97] s):W A (lK.body.post 2) s (done H.length [.tmp 2] (.bool (mZ [97] t),none)):=by
 obtain⟨T,K,rfl,hK,q1,q4,hb,hu⟩:=hs
 unfold lK
 simp only[bq.post]
 obtain⟨m1,m2,m3,m4,m5,m6⟩:cC [97] 110=true/\cC [97] 97=false/\cC [97] 102=true/\cC [97] 116=true/\cC [97] 107=true/\cC [97] 115=true:=⟨rfl,rfl,rfl,rfl,rfl,rfl⟩
 have nc:=fun c b=>sG [97] c b (H.length+2) K (by decide) hu
 have n1:=nc _ _ m1
 have n2:=nc _ _ m2
 have n3:=nc _ _ m3
 have n4:=nc _ _ m4
 have n5:=nc _ _ m5
 have n6:=nc _ _ m6
 clear nc
 cases ZS:(t.n==0)
 rotate_left
 cases nX:(t.field==[])
 rotate_left
 cases FG:(t.wn==[])
 rotate_left
 by_cases FF:0<t.wk.length
 rotate_left
 by_cases ON:0<t.kids.length
 rotate_left
 by_cases pH:0<t.names.length
 rotate_left
 all_goals simp(disch:=omega)only[aY,aa,simprocAttr,bne,dG,bK,cg,ay,an,anW,anX,ab,mZ,aoj,aon,aog,aoz,aop,aoB,aoe,aoa,apB,an5, *]
theorem NT{t:Tm}{H:ai}{s:AS}(hs:Ob t H [97,107] s):W A (lK.body.post 2) s (done H.length [.tmp 2] (.bool (mZ [97,107] t),none)):=by
 obtain⟨T,K,rfl,hK,q1,q4,hb,hu⟩:=hs
 unfold lK
 simp only[bq.post]
 obtain⟨m1,m2,m3,m4,m5,m6⟩:cC [97,107] 110=true/\cC [97,107] 97=false/\cC [97,107] 102=true/\cC [97,107] 116=true/\cC [97,107] 107=false/\cC [97,107] 115=true:=⟨rfl,rfl,rfl,rfl,rfl,rfl⟩
 have nc:=fun c b=>sG [97,107] c b (H.length+2) K (by decide) hu
 have n1:=nc _ _ m1
 have n2:=nc _ _ m2
 have n3:=nc _ _ m3
 have n4:=nc _ _ m4
 have n5:=nc _ _ m5
 have n6:=nc _ _ m6
 clear nc
 cases ZS:(t.n==0)
 rotate_left
 cases nX:(t.field==[])
 rotate_left
 cases FG:(t.wn==[])
 rotate_left
 by_cases FF:0<t.wk.length
 rotate_left
 by_cases pH:0<t.names.length
 rotate_left
 all_goals simp(disch:=omega)only[aY,aa,simprocAttr,bne,dG,bK,cg,ay,an,anW,anX,ab,mZ,aoj,aon,aog,aoz,aop,aoB,aoe,aoa,apB,an5, *]
theorem KK{t:Tm}{H:ai}{s:AS}(hs:Ob t H [110,107] s):W A (lK.body.post 2) s (done H.length [.tmp 2] (.bool (mZ [110,107] t),none)):=by
 obtain⟨T,K,rfl,hK,q1,q4,hb,hu⟩:=hs
 unfold lK
 simp only[bq.post]
 obtain⟨m1,m2,m3,m4,m5,m6⟩:cC [110,107] 110=false/\cC [110,107] 97=true/\cC [110,107] 102=true/\cC [110,107] 116=true/\cC [110,107] 107=false/\cC [110,107] 115=true:=⟨rfl,rfl,rfl,rfl,rfl,rfl⟩
 have nc:=fun c b=>sG [110,107] c b (H.length+2) K (by decide) hu
 have n1:=nc _ _ m1
 have n2:=nc _ _ m2
 have n3:=nc _ _ m3
 have n4:=nc _ _ m4
 have n5:=nc _ _ m5
 have n6:=nc _ _ m6
 clear nc
 cases yu:(t.name==[])
 rotate_left
 cases nX:(t.field==[])
 rotate_left
 cases FG:(t.wn==[])
 rotate_left
 by_cases FF:0<t.wk.length
 rotate_left
 by_cases pH:0<t.names.length
 rotate_left
 all_goals simp(disch:=omega)only[aY,aa,simprocAttr,bne,dG,bK,cg,ay,an,anW,anX,ab,mZ,aoj,aon,aog,aoz,aop,aoB,aoe,aoa,apB,an5, *]
theorem ac'{t:Tm}{H:ai}{s:AS}(hs:Ob t H [107] s):W A (lK.body.post 2) s (done H.length [.tmp 2] (.bool (mZ [107] t),none)):=by
 obtain⟨T,K,rfl,hK,q1,q4,hb,hu⟩:=hs
 unfold lK
 simp only[bq.post]
 obtain⟨m1,m2,m3,m4,m5,m6⟩:cC [107] 110=true/\cC [107] 97=true/\cC [107] 102=true/\cC [107] 116=true/\cC [107] 107=false/\cC [107] 115=true:=⟨rfl,rfl,rfl,rfl,rfl,rfl⟩
 have nc:=fun c b=>sG [107] c b (H.length+2) K (by decide) hu
 have n1:=nc _ _ m1
 have n2:=nc _ _ m2
 have n3:=nc _ _ m3
 have n4:=nc _ _ m4
 have n5:=nc _ _ m5
 have n6:=nc _ _ m6
 clear nc
 cases ZS:(t.n==0)
 rotate_left
 cases yu:(t.name==[])
 rotate_left
 cases nX:(t.field==[])
 rotate_left
 cases FG:(t.wn==[])
 rotate_left
 by_cases FF:0<t.wk.length
 rotate_left
 by_cases pH:0<t.names.length
 rotate_left
 all_goals simp(disch:=omega)only[aY,aa,simprocAttr,bne,dG,bK,cg,ay,an,anW,anX,ab,mZ,aoj,aon,aog,aoz,aop,aoB,aoe,aoa,apB,an5, *]
theorem Aa{t:Tm}{H:ai}{s:AS}(hs:Ob t H [107,115] s):W A (lK.body.post 2) s (done H.length [.tmp 2] (.bool (mZ [107,115] t),none)):=by
 obtain⟨T,K,rfl,hK,q1,q4,hb,hu⟩:=hs
 unfold lK
 simp only[bq.post]
 obtain⟨m1,m2,m3,m4,m5,m6⟩:cC [107,115] 110=true/\cC [107,115] 97=true/\cC [107,115] 102=true/\cC [107,115] 116=true/\cC [107,115] 107=false/\cC [107,115] 115=false:=⟨rfl,rfl,rfl,rfl,rfl,rfl⟩
 have nc:=fun c b=>sG [107,115] c b (H.length+2) K (by decide) hu
 have n1:=nc _ _ m1
 have n2:=nc _ _ m2
 have n3:=nc _ _ m3
 have n4:=nc _ _ m4
 have n5:=nc _ _ m5
 have n6:=nc _ _ m6
 clear nc
 cases ZS:(t.n==0)
 rotate_left
 cases yu:(t.name==[])
 rotate_left
 cases nX:(t.field==[])
 rotate_left
 cases FG:(t.wn==[])
 rotate_left
 by_cases FF:0<t.wk.length
 rotate_left
 all_goals simp(disch:=omega)only[aY,aa,simprocAttr,bne,dG,bK,cg,ay,an,anW,anX,ab,mZ,aoj,aon,aog,aoz,aop,aoB,aoe,aoa,apB,an5, *]
theorem sN{t:Tm}{H:ai}{s:AS}(hs:Ob t H [97,107,115] s):W A (lK.body.post 2) s (done H.length [.tmp 2] (.bool (mZ [97,107,115] t),none)):=by
 obtain⟨T,K,rfl,hK,q1,q4,hb,hu⟩:=hs
 unfold lK
 simp only[bq.post]
 obtain⟨m1,m2,m3,m4,m5,m6⟩:cC [97,107,115] 110=true/\cC [97,107,115] 97=false/\cC [97,107,115] 102=true/\cC [97,107,115] 116=true/\cC [97,107,115] 107=false/\cC [97,107,115] 115=false:=⟨rfl,rfl,rfl,rfl,rfl,rfl⟩
 have nc:=fun c b=>sG [97,107,115] c b (H.length+2) K (by decide) hu
 have n1:=nc _ _ m1
 have n2:=nc _ _ m2
 have n3:=nc _ _ m3
 have n4:=nc _ _ m4
 have n5:=nc _ _ m5
 have n6:=nc _ _ m6
 clear nc
 cases ZS:(t.n==0)
 rotate_left
 cases nX:(t.field==[])
 rotate_left
 cases FG:(t.wn==[])
 rotate_left
 by_cases FF:0<t.wk.length
 rotate_left
 all_goals simp(disch:=omega)only[aY,aa,simprocAttr,bne,dG,bK,cg,ay,an,anW,anX,ab,mZ,aoj,aon,aog,aoz,aop,aoB,aoe,aoa,apB,an5, *]
theorem sM{t:Tm}{H:ai}{s:AS}(hs:Ob t H [97,102,107] s):W A (lK.body.post 2) s (done H.length [.tmp 2] (.bool (mZ [97,102,107] t),none)):=by
 obtain⟨T,K,rfl,hK,q1,q4,hb,hu⟩:=hs
 unfold lK
 simp only[bq.post]
 obtain⟨m1,m2,m3,m4,m5,m6⟩:cC [97,102,107] 110=true/\cC [97,102,107] 97=false/\cC [97,102,107] 102=false/\cC [97,102,107] 116=true/\cC [97,102,107] 107=false/\cC [97,102,107] 115=true:=⟨rfl,rfl,rfl,rfl,rfl,rfl⟩
 have nc:=fun c b=>sG [97,102,107] c b (H.length+2) K (by decide) hu
 have n1:=nc _ _ m1
 have n2:=nc _ _ m2
 have n3:=nc _ _ m3
 have n4:=nc _ _ m4
 have n5:=nc _ _ m5
 have n6:=nc _ _ m6
 clear nc
 cases ZS:(t.n==0)
 rotate_left
 cases FG:(t.wn==[])
 rotate_left
 by_cases FF:0<t.wk.length
 rotate_left
 by_cases pH:0<t.names.length
 rotate_left
 all_goals simp(disch:=omega)only[aY,aa,simprocAttr,bne,dG,bK,cg,ay,an,anW,anX,ab,mZ,aoj,aon,aog,aoz,aop,aoB,aoe,aoa,apB,an5, *]
theorem KL{t:Tm}{H:ai}{s:AS}(hs:Ob t H [116,107] s):W A (lK.body.post 2) s (done H.length [.tmp 2] (.bool (mZ [116,107] t),none)):=by
 obtain⟨T,K,rfl,hK,q1,q4,hb,hu⟩:=hs
 unfold lK
 simp only[bq.post]
 obtain⟨m1,m2,m3,m4,m5,m6⟩:cC [116,107] 110=true/\cC [116,107] 97=true/\cC [116,107] 102=true/\cC [116,107] 116=false/\cC [116,107] 107=false/\cC [116,107] 115=true:=⟨rfl,rfl,rfl,rfl,rfl,rfl⟩
 have nc:=fun c b=>sG [116,107] c b (H.length+2) K (by decide) hu
 have n1:=nc _ _ m1
 have n2:=nc _ _ m2
 have n3:=nc _ _ m3
 have n4:=nc _ _ m4
 have n5:=nc _ _ m5
 have n6:=nc _ _ m6
 clear nc
 cases ZS:(t.n==0)
 rotate_left
 cases yu:(t.name==[])
 rotate_left
 cases nX:(t.field==[])
 rotate_left
 by_cases pH:0<t.names.length
 rotate_left
 all_goals simp(disch:=omega)only[aY,aa,simprocAttr,bne,dG,bK,cg,ay,an,anW,anX,ab,mZ,aoj,aon,aog,aoz,aop,aoB,aoe,aoa,apB,an5, *]
theorem ajh{t:Tm}{H:ai}{s:AS}(hs:Ob t H [] s):W A (lK.body.post 2) s (done H.length [.tmp 2] (.bool (mZ [] t),none)):=by
 obtain⟨T,K,rfl,hK,q1,q4,hb,hu⟩:=hs
 unfold lK
 simp only[bq.post]
 obtain⟨m1,m2,m3,m4,m5,m6⟩:cC [] 110=true/\cC [] 97=true/\cC [] 102=true/\cC [] 116=true/\cC [] 107=true/\cC [] 115=true:=⟨rfl,rfl,rfl,rfl,rfl,rfl⟩
 have nc:=fun c b=>sG [] c b (H.length+2) K (by decide) hu
 have n1:=nc _ _ m1
 have n2:=nc _ _ m2
 have n3:=nc _ _ m3
 have n4:=nc _ _ m4
 have n5:=nc _ _ m5
 have n6:=nc _ _ m6
 clear nc
 cases ZS:(t.n==0)
 rotate_left
 cases yu:(t.name==[])
 rotate_left
 cases nX:(t.field==[])
 rotate_left
 cases FG:(t.wn==[])
 rotate_left
 by_cases FF:0<t.wk.length
 rotate_left
 by_cases ON:0<t.kids.length
 rotate_left
 by_cases pH:0<t.names.length
 rotate_left
 all_goals simp(disch:=omega)only[aY,aa,simprocAttr,bne,dG,bK,cg,ay,an,anW,anX,ab,mZ,aoj,aon,aog,aoz,aop,aoB,aoe,aoa,apB,an5, *]
theorem gZ(t:Tm)(H:ai):aE A 26 [.agg (cV t)] H=some (.bool (bt t),none):=by
 refine aD (fn:=lK) rfl rfl rfl ?_
 refine iz 2 _ ada fun s hs=>?_
 unfold bt
 rcases tG t.kind with e|e|e|e|e|e|e|e|e|e|e|e|e|e
 ·have hu:fA t.kind=[110]:=by rw[e];rfl
  rw[hu] at hs ⊢;exact S3 hs
 ·have hu:fA t.kind=[110]:=by rw[e];rfl
  rw[hu] at hs ⊢;exact S3 hs
 ·have hu:fA t.kind=[97]:=by rw[e];rfl
  rw[hu] at hs ⊢;exact agx hs
 ·have hu:fA t.kind=[97,107]:=by rw[e];rfl
  rw[hu] at hs ⊢;exact NT hs
 ·have hu:fA t.kind=[110,107]:=by rw[e];rfl
  rw[hu] at hs ⊢;exact KK hs
 ·have hu:fA t.kind=[107]:=by rw[e];rfl
  rw[hu] at hs ⊢;exact ac' hs
 ·have hu:fA t.kind=[107,115]:=by rw[e];rfl
  rw[hu] at hs ⊢;exact Aa hs
 ·have hu:fA t.kind=[97,107,115]:=by rw[e];rfl
  rw[hu] at hs ⊢;exact sN hs
 ·have hu:fA t.kind=[97,102,107]:=by rw[e];rfl
  rw[hu] at hs ⊢;exact sM hs
 ·have hu:fA t.kind=[97,102,107]:=by rw[e];rfl
  rw[hu] at hs ⊢;exact sM hs
 ·have hu:fA t.kind=[97,107,115]:=by rw[e];rfl
  rw[hu] at hs ⊢;exact sN hs
 ·have hu:fA t.kind=[116,107]:=by rw[e];rfl
  rw[hu] at hs ⊢;exact KL hs
 ·have hu:fA t.kind=[107,115]:=by rw[e];rfl
  rw[hu] at hs ⊢;exact Aa hs
 ·have hu:fA t.kind=[]:=by
   unfold fA
   repeat rw[if_neg (by omega)]
  rw[hu] at hs ⊢;exact ajh hs
theorem HQ(n:Int)(H:ai):aE A 86 [.int .i64 n] H=some (.tuple [.str (lk n).1,.int .i64 (lk n).2],none):=qA (A:=A) (f:=86) rfl rfl
def zr(t:Tm):Int:=if t.kind=5\/t.kind=6\/t.kind=12 then 0 else if t.kind=4 then (lk t.n).2 else 8
theorem RD(t:Tm)(H:ai):aE A 113 [.agg (cV t)] H=some (.int .i64 (zr t),none):=by
 have hs:=fun K=>HQ t.n K
 refine aD (fn:=GR) rfl rfl rfl ?_
 rw[al]
 unfold GR zr
 have ht:(H++[cJ.box 45 [.int .i64 t.kind,.int .i64 t.n,.str t.name,.str t.field,.str t.wn,.slice (ax t.wk) false,.slice (ar t.kids) false,.slice (strs t.names) false]]).take H.length=H:=vR
 by_cases k5:t.kind=5
 ·rw[if_pos (.inl k5)]
  simp(disch:=omega)only[aY,aa,simprocAttr,gy,ay,an,anW,anX,ab]
 by_cases k6:t.kind=6
 ·rw[if_pos (.inr (.inl k6))]
  simp(disch:=omega)only[aY,aa,simprocAttr,gy,ay,an,anW,anX,ab]
 by_cases k12:t.kind=12
 ·rw[if_pos (.inr (.inr k12))]
  simp(disch:=omega)only[aY,aa,simprocAttr,gy,ay,an,anW,anX,ab]
 rw[if_neg (by omega)]
 by_cases k4:t.kind=4
 ·rw[if_pos k4]
  simp(disch:=omega)only[aY,aa,simprocAttr,gy,hs,ay,an,anW,anX,ab]
 ·rw[if_neg k4]
  simp(disch:=omega)only[aY,aa,simprocAttr,gy,ay,an,anW,anX,ab]
theorem LM{n:Int}(h:¬ (n<0\/11<n)):lk n=fh n:=by unfold lk;rw[if_neg h]
theorem zt{t:Tm}(h:ak t=true):zr t=fl t:=by
 unfold zr fl
 split
 ·rfl
 ·split
  ·rename_i _ hk
   have hO:=xS h
   have:¬ (t.n<0\/11<t.n):=by
    intro hn
    have hs:(fh t.n).1=[]:=by unfold fh;rw[if_pos hn]
    have hc:bR t.kind t.n t.kids.length=(-2,0):=by
     unfold bR
     simp[hk,hs]
    exact (gz hO hc).1 rfl
   rw[LM this]
  ·rfl
theorem fO{mm:Nat}{K:ai}(h:PW mm K)(ok:Bool)(l:List cd)(b:Bool):aE A 24 [.ref mm 0,.bool ok] (cE mm l b K)=some (.undef,some ⟨cE mm l (b || !ok) K,mm⟩):=by
 refine aD (fn:=JR) rfl rfl rfl ?_
 unfold JR
 have h0:=fG (l:=l) (b:=b) h
 unfold lq at h0
 have bA:=h.lt
 have ho:=fun b=>h.open l b
 have h1:∀ x:cJ,((cE mm l b K).set mm x)[mm]?=some x:=fun x=>List.getElem?_set_self (by rw[aB];exact bA)
 cases b<;>simp(disch:=omega)only[aY,aa,simprocAttr,h0,h1,aB,rz,ga,ho,aog,aoz,ay,an,anW,anX,ab]
def gX(t:Tm)(k m:Int):Bool:=decide ((t.kids.length:Int)=k)&&decide ((t.names.length:Int)=m)
theorem qR{mm:Nat}{K:ai}(hP:PW mm K)(t:Tm)(k m:Int)(l:List cd)(b:Bool):aE A 55 [.ref mm 0,.agg (cV t),.int .i64 k,.int .i64 m] (cE mm l b K)=some (.bool (!(b || !gX t k m)),some ⟨cE mm l (b || !gX t k m) K,mm⟩):=by
 rw[al]
 obtain⟨K1,fp,cw,dA,hT,hO⟩:=lD hP t
 have bA:=hP.lt
 have e1:=fun ok=>fO fp ok l b
 have wX:decide (K.length<K.length)=false:=by simp
 refine aD (fn:=Q0) rfl rfl rfl ?_
 unfold Q0 gX
 by_cases h1:(t.kids.length:Int)=k
 ·by_cases h2:(t.names.length:Int)=m
  ·have e:=e1 true
   have ho:=hO l (b || !true)
   have h0:=fG (l:=l) (b:=b || !true) fp
   unfold lq at h0
   rw[decide_eq_true h1,decide_eq_true h2]
   simp only[ao9]
   generalize (b || !true)=b1 at *
   simp(disch:=omega)only[aY,aa,simprocAttr,cw,dA,bK,cg,e,h0,hT,ho,az,an6,an5,anZ,cond_true,aB,ay,an,anW,anX,ab]
  ·have e:=e1 false
   have ho:=hO l (b || !false)
   have h0:=fG (l:=l) (b:=b || !false) fp
   unfold lq at h0
   rw[decide_eq_true h1,aoP h2]
   simp only[Bool.and_false]
   generalize (b || !false)=b1 at *
   simp(disch:=omega)only[aY,aa,simprocAttr,cw,dA,bK,cg,e,h0,hT,ho,az,an6,an5,anZ,cond_true,aB,ay,an,anW,anX,ab]
 ·have e:=e1 false
  have ho:=hO l (b || !false)
  have h0:=fG (l:=l) (b:=b || !false) fp
  unfold lq at h0
  rw[aoP h1]
  simp only[aoj]
  generalize (b || !false)=b1 at *
  simp(disch:=omega)only[aY,aa,simprocAttr,cw,dA,bK,cg,e,h0,hT,ho,az,an6,an5,anZ,cond_true,aB,ay,an,anW,anX,ab]
def jV(n:Nat)(t:Tm):Prop:=∀ (mm:Nat) (K:ai),PW mm K->rB mm K 27 [.ref mm 0,.agg (cV t)] (ak t) (av t) n
theorem pg(b:Bool):(b || !true)=b:=by cases b<;>rfl
theorem tU(s:cd):strs [s]=[[.str s]]:=rfl
theorem J4{n:Nat}{t:Tm}(ht:jV n t)(least:Int){mm:Nat}{K:ai}(hP:PW mm K):rB mm K 87 [.ref mm 0,.agg (cV t),.int .i64 least] (ak t) (o6 (av t,fl t) least) (n+2):=by
 intro l b hl
 have Ig:=fun K=>RD t K
 have ht':=fun mm K h=>ht mm K h
 rw[al] at Ig ⊢
 unfold jV at ht
 rw[al] at ht
 obtain⟨K1,fp,cw,dA,hT,hO⟩:=lD hP t
 have bA:=hP.lt
 by_cases hc:zr t<least
 ·obtain⟨l1,e1,t1,n1⟩:=fL fp [[40]] (by simp) l b (by simp only[an0,an1];omega)
  simp only[an0,an1] at n1
  rw[pg,tU] at e1
  rw[pg] at t1
  obtain⟨l2,e2,t2,n2⟩:=ht mm K1 fp l1 b (by omega)
  obtain⟨l3,e3,t3,n3⟩:=fL fp [[41]] (by simp) l2 (b || !ak t) (by simp only[an0,an1];omega)
  simp only[an0,an1] at n3
  rw[pg,tU] at e3
  rw[pg] at t3
  refine⟨l3,?_,fun hp=>?_,by omega⟩
  ·refine aD (fn:=J2) rfl rfl rfl ?_
   unfold J2
   have ho:=hO l3 (b || !ak t)
   generalize (b || !ak t)=b1 at *
   simp(disch:=omega)only[aY,aa,simprocAttr,cw,dA,Ig,e1,e2,e3,hT,ho,az,an6,an5,anZ,cond_true,aB,ay,an,anW,anX,ab]
  ·have hb:b=false:=by cases b<;>simp_all
   have hpt:ak t=true:=by cases h:ak t<;>simp_all
   rw[t3 hp,t2 hp,t1 hb]
   unfold o6
   simp only
   rw[if_pos (by rw[<- zt hpt];exact hc)]
   simp
 ·obtain⟨l2,e2,t2,n2⟩:=ht mm K1 fp l b (by omega)
  refine⟨l2,?_,fun hp=>?_,by omega⟩
  ·refine aD (fn:=J2) rfl rfl rfl ?_
   unfold J2
   have ho:=hO l2 (b || !ak t)
   generalize (b || !ak t)=b1 at *
   simp(disch:=omega)only[aY,aa,simprocAttr,cw,dA,Ig,e2,hT,ho,az,an6,an5,anZ,cond_true,aB,ay,an,anW,anX,ab]
  ·have hpt:ak t=true:=by cases h:ak t<;>simp_all
   rw[t2 hp]
   unfold o6
   simp only
   rw[if_neg (by rw[<- zt hpt];exact hc)]
theorem RU{b ok1 ok2:Bool} : ((b || !ok1) || !ok2)=(b || !(ok1&&ok2)):=by cases b<;>cases ok1<;>cases ok2<;>rfl
theorem AZ{a c:Bool}(h:(a || c)=false):a=false:=by cases a<;>simp_all
def xB(ob:Nat->Bool)(ks:List Tm)(i:Nat):Bool:=(List.range i).all fun j=>ob j&&ak (ks.getD j j9)
def Df(tb:Nat->List cd)(ks:List Tm)(i:Nat):List (List cd):=(List.range i).map fun j=>tb j++av (ks.getD j j9)
theorem Hn{ob:Nat->Bool}{ks:List Tm}{i:Nat} : xB ob ks (i+1)=(xB ob ks i&&(ob i&&ak (ks.getD i j9))):=by unfold xB;rw[List.range_succ,List.all_append];simp
theorem GZ{tb:Nat->List cd}{ks:List Tm}{i:Nat} : Df tb ks (i+1)=Df tb ks i++[tb i++av (ks.getD i j9)]:=by unfold Df;rw[List.range_succ,List.map_append];rfl
theorem V3{tb:Nat->List cd}{ks:List Tm}{i:Nat} : (Df tb ks i).length=i:=by unfold Df;simp
def Bef(mm:Nat)(K:ai)(fb:FuncId)(cs:List AV)(i:Nat)(ok:Bool)(nK:List cd)(n:Nat):Prop :=
 ∀ l b,l.length+n<=10000000->∃ l' c,aE A fb (.int .i64 i :: cs) (cE mm l b K)=some (.undef,c)/\(c=some ⟨cE mm l' (b || !ok) K,mm⟩\/c=none/\l'=l/\ok=true)/\((b || !ok)=false->l'=l++nK)/\l'.length<=l.length+n
theorem Dq{n nb:Nat}{ks:List Tm}{ob:Nat->Bool}{tb:Nat->List cd}{fb:FuncId}{cs:List AV}{mm:Nat}{K:ai}(hP:PW mm K)(gF:∀ u∈ks,jV n u)(og:ks.length<=10)(zc:0<ks.length)(hb:∀ i,i<ks.length->Bef mm K fb cs i (ob i) (tb i) nb)(hn:n+nb<=10000) :
  rB mm K 53 [.ref mm 0,.slice (ar ks) false,.func (.func fb) [] cs] (xB ob ks ks.length) (aR (Df tb ks ks.length)) (ks.length*(n+nb+1)):=by
 intro l b hl
 have key:∃ r,aE A 53 [.ref mm 0,.slice (ar ks) false,.func (.func fb) [] cs] (cE mm l b K)=some r/\∃ l',r=(.undef,some ⟨cE mm l' (b || !xB ob ks ks.length) K,mm⟩)/\((b || !xB ob ks ks.length)=false->l'=l++aR (Df tb ks ks.length))/\l'.length<=l.length+ks.length*(n+nb+1):=by
  have bA:=hP.lt
  refine yj (fn:=JY) rfl rfl rfl ?_
  unfold JY
  simp(disch:=omega)only[aY,aa,simprocAttr,bK,az,an6,an5,anZ,cond_true,aB]
  refine cK ks.length 0 (fun i s=>∃ T l' lo g,s=⟨T,cE mm l' (b || !xB ob ks i) K,lo,g⟩/\(lo=mm\/lo=K.length)/\(i=0\/lo=mm)/\T 0=.ref mm 0/\T 2=.func (.func fb) [] cs/\T 8=.slice (ar ks) false/\T 9=.int .i64 ks.length/\T 10=.int .i64 i/\((b || !xB ob ks i)=false->l'=l++aR (Df tb ks i))/\l'.length<=l.length+i*(n+nb+1)/\(i=0->l'=l))
   (fun s=>∃ T l' lo g,s=⟨T,cE mm l' (b || !xB ob ks ks.length) K,lo,g⟩/\lo=mm/\((b || !xB ob ks ks.length)=false->l'=l++aR (Df tb ks ks.length))/\l'.length<=l.length+ks.length*(n+nb+1)) (fun _=>False) ?_ ?_ (fun _ h=>h.elim) 0 _ (by omega) ?_
  ·rintro i s hi ⟨T,l',lo,g,rfl,wX,jL,q0,q2,q8,q9,D9,ht,Ak,GJ⟩
   by_cases qW:i<ks.length
   ·have hx:=an3 qW
    have hm:=aoX qW
    have Aj:ks.getD i j9=ks[i]:=by rw[List.getD,hx];rfl
    rw[Hn,GZ,Aj]
    generalize ks[i]=u at hx hm
    have gq:=sL hx
    have hT:=gF u hm
    unfold jV at hT
    rw[al] at hT gq
    have hmul:(i+1)*(n+nb+1)<=ks.length*(n+nb+1):=aoo _ (by omega)
    have afe:(i+1)*(n+nb+1)=i*(n+nb+1)+(n+nb+1):=by rw[aoM,apU]
    have MW:(bif decide (mm<lo) then mm else lo)=mm:=by
     rcases wX with rfl|rfl
     ·simp
     ·simp[bA]
    have comma:∃ l1 Y7,(0<i->aE A 21 [.ref mm 0,.slice [[.str [44]]] false] (cE mm l' (b || !xB ob ks i) K)=some (.undef,some ⟨cE mm l1 (b || !xB ob ks i) K,mm⟩))/\(i=0->l1=l'/\Y7=lo)/\(0<i->Y7=mm)/\((b || !xB ob ks i)=false->l1++(tb i++av u)=l++aR (Df tb ks i++[tb i++av u]))/\l1.length<=l'.length+1:=by
     by_cases h0:i=0
     ·subst h0
      refine⟨l',lo,fun h=>by omega,fun _=>⟨rfl,rfl⟩,fun h=>by omega,fun gO=>?_,by omega⟩
      rw[ht gO,show Df tb ks 0=[] from rfl]
      simp[aR]
     ·obtain⟨l1,e1,t1,n1⟩:=fL hP [[44]] (by simp) l' (b || !xB ob ks i) (by simp only[an0,an1];omega)
      simp only[an0,an1] at n1
      rw[pg,tU] at e1
      rw[pg] at t1
      refine⟨l1,mm,fun _=>e1,fun h=>absurd h h0,fun _=>rfl,fun gO=>?_,n1⟩
      rw[t1 gO,ht gO,jO,if_neg (fun h=>by have:=apK List.length h;rw[V3] at this;simp at this;omega)]
      simp
    obtain⟨l1,Y7,ec,Yy,elo,tc,nc⟩:=comma
    generalize Ah:(b || !xB ob ks i)=bi at *
    obtain⟨l2,c2,e2,iR,t2,n2⟩:=hb i qW l1 bi (by omega)
    obtain⟨l3,e3,t3,n3⟩:=hT mm K hP l2 (bi || !ob i) (by omega)
    have aaK:(b || !(xB ob ks i&&(ob i&&ak u)))=((bi || !ob i) || !ak u):=by rw[<- Ah];cases b<;>cases xB ob ks i<;>cases ob i<;>cases ak u<;>rfl
    rw[aaK]
    have o4:Y7=mm\/Y7=K.length:=by
     by_cases h0:i=0
     ·rw[(Yy h0).2];exact wX
     ·exact .inl (elo (by omega))
    have aj6:(bif decide (mm<Y7) then mm else Y7)=mm:=by
     rcases o4 with rfl|rfl
     ·simp
     ·simp[bA]
    have SX:((bi || !ob i) || !ak u)=false->l3=l++aR (Df tb ks i++[tb i++av u]):=fun h=>by
     have h1:=AZ h
     have h2:=AZ h1
     rw[t3 h,t2 h1,apd,tc h2]
    have Wb:l3.length<=l.length+(i+1)*(n+nb+1):=by omega
    rcases iR with rfl|⟨rfl,rfl,YX⟩
    ·by_cases h0:i=0
     ·obtain⟨rfl,rfl⟩:=Yy h0
      simp(disch:=omega)only[aY,aa,simprocAttr,q0,q2,q8,q9,D9,gq,e2,e3,MW,az,an6,an5,anZ,cond_true,aB]
      refine⟨qW,_,l3,mm,_,rfl,.inl rfl,.inr rfl,?_,?_,?_,?_,?_,SX,Wb,fun h=>h.elim⟩
      all_goals simp(disch:=omega)only[aV,aa,simprocAttr,q0,q2,q8,q9]
     ·have ec:=ec (by omega)
      simp(disch:=omega)only[aY,aa,simprocAttr,q0,q2,q8,q9,D9,gq,ec,e2,e3,MW,az,an6,an5,anZ,cond_true,aB]
      refine⟨qW,_,l3,mm,_,rfl,.inl rfl,.inr rfl,?_,?_,?_,?_,?_,SX,Wb,fun h=>h.elim⟩
      all_goals simp(disch:=omega)only[aV,aa,simprocAttr,q0,q2,q8,q9]
    ·have JC:(bi || !ob i)=bi:=by rw[YX,pg]
     rw[JC] at e3 SX ⊢
     by_cases h0:i=0
     ·obtain⟨rfl,rfl⟩:=Yy h0
      simp(disch:=omega)only[aY,aa,simprocAttr,q0,q2,q8,q9,D9,gq,e2,e3,MW,az,an6,an5,anZ,cond_true,aB]
      refine⟨qW,_,l3,mm,_,rfl,.inl rfl,.inr rfl,?_,?_,?_,?_,?_,SX,Wb,fun h=>h.elim⟩
      all_goals simp(disch:=omega)only[aV,aa,simprocAttr,q0,q2,q8,q9]
     ·have ec:=ec (by omega)
      simp(disch:=omega)only[aY,aa,simprocAttr,q0,q2,q8,q9,D9,gq,ec,e2,e3,MW,az,an6,an5,anZ,cond_true,aB]
      refine⟨qW,_,l3,mm,_,rfl,.inl rfl,.inr rfl,?_,?_,?_,?_,?_,SX,Wb,fun h=>h.elim⟩
      all_goals simp(disch:=omega)only[aV,aa,simprocAttr,q0,q2,q8,q9]
   ·obtain rfl:i=ks.length:=by omega
    simp(disch:=omega)only[aY,aa,simprocAttr,q0,q2,q8,q9,D9,az,an6,an5,anZ,cond_true,aB]
    refine⟨_,l',lo,_,rfl,?_,ht,by omega⟩
    rcases jL with h2|h2
    ·omega
    ·exact h2
  ·rintro s ⟨T,l',lo,g,rfl,rfl,ht,Ak⟩
   have ho:=hP.open l' (b || !xB ob ks ks.length)
   simp(disch:=omega)only[aY,aa,simprocAttr,ga,ho,az,an6,an5,anZ,cond_true,aB]
   exact⟨l',rfl,ht,Ak⟩
  ·have e0:cE mm l b K=cE mm l (b || !xB ob ks 0) K:=by rw[show xB ob ks 0=true from rfl,pg]
   refine⟨_,l,K.length,_,apK (fun x=>AS.mk _ x _ _) e0,.inr rfl,.inl rfl,?_,?_,?_,?_,?_,fun _=>by simp[Df,aR],by omega,fun _=>rfl⟩
   all_goals simp(disch:=omega)only[aV,aa,simprocAttr,aoG]
 obtain⟨r,h1,l',rfl,h2,h3⟩:=key
 exact⟨l',h1,h2,h3⟩
theorem Dp{fb:FuncId}{cs:List AV}{mm:Nat}{K:ai} : aE A 53 [.ref mm 0,.slice [] false,.func (.func fb) [] cs] K=some (.undef,none):=by
 refine aD (fn:=JY) rfl rfl rfl ?_
 unfold JY
 simp(disch:=omega)only[aY,aa,simprocAttr,an1,aoG]
 refine cK 0 0 (fun i s=>∃ T g,s=⟨T,K,K.length,g⟩/\T 9=.int .i64 0/\T 10=.int .i64 0) (fun s=>∃ T g,s=⟨T,K,K.length,g⟩) (fun _=>False) ?_ ?_ (fun _ h=>h.elim) 0 _ (by omega) ?_
 ·rintro i s hi ⟨T,g,rfl,q9,D9⟩
  simp(disch:=omega)only[aY,aa,simprocAttr,q9,D9]
  exact⟨_,_,rfl⟩
 ·rintro s ⟨T,g,rfl⟩
  simp(disch:=omega)only[aY,aa,simprocAttr]
 ·exact⟨_,_,rfl,by simp(disch:=omega)only[aV,aa,simprocAttr],by simp(disch:=omega)only[aV,aa,simprocAttr]⟩
theorem BS{mm:Nat}{K:ai}(i:Nat):Bef mm K 50 [] i true [] 0:=by
 intro l b hl
 refine⟨l,none,?_,.inr ⟨rfl,rfl,rfl⟩,fun _=>by simp,by omega⟩
 refine aD (fn:=QX) rfl rfl rfl ?_
 unfold QX
 simp(disch:=omega)only[mf,cZ,ca,cA,cu,gr,bj,aA,bf,aC.eval,AS.bW,↓reduceIte,Nat.reduceEqDiff,Option.isSome,Option.isNone,cond_true,anZ,Nat.reduceBEq,Nat.reduceAdd,Nat.reduceMul,aa,cj,eq_self,reduceCtorEq,gk,cQ,cm,bH,bound,dj,AS.bI,aQ,bF,bu,Nat.reduceLeDiff,cn,putAt,Int.reduceEq,Int.reduceLT,Int.reduceLE,Int.reduceBEq,Int.reduceBNe,Int.reduceAdd,Int.reduceNeg,Int.reduceSub,Int.reduceMul,dZ,dY,dX,dW,dV,dU,fc,fa,aN,bO,Int.toNat_natCast,aos]
def N9(ts:List cd)(ks:List Tm)(i:Nat):List cd:=((List.range i).map fun j=>[ts.getD j []]++av (ks.getD j j9)).flatten
theorem RY{ts:List cd}{ks:List Tm}{i:Nat} : N9 ts ks (i+1)=N9 ts ks i++([ts.getD i []]++av (ks.getD i j9)):=by unfold N9;rw[List.range_succ,List.map_append,List.flatten_append];simp
def xQ(ks:List Tm)(i:Nat):Bool:=(List.range i).all fun j=>ak (ks.getD j j9)
theorem zG{ks:List Tm}{i:Nat} : xQ ks (i+1)=(xQ ks i&&ak (ks.getD i j9)):=by unfold xQ;rw[List.range_succ,List.all_append];simp
theorem DD{n:Nat}{ks:List Tm}{ts:List cd}{mm:Nat}{K:ai}(hP:PW mm K)(gF:∀ u∈ks,jV n u)(og:ks.length<=10)(zc:0<ks.length)(htl:ts.length=ks.length)(hn:n<=10000) :
  rB mm K 56 [.ref mm 0,.slice (ar ks) false,.slice (strs ts) false] (xQ ks ks.length) (N9 ts ks ks.length) (ks.length*(n+1)):=by
 intro l b hl
 have key:∃ r,aE A 56 [.ref mm 0,.slice (ar ks) false,.slice (strs ts) false] (cE mm l b K)=some r/\∃ l',r=(.undef,some ⟨cE mm l' (b || !xQ ks ks.length) K,mm⟩)/\((b || !xQ ks ks.length)=false->l'=l++N9 ts ks ks.length)/\l'.length<=l.length+ks.length*(n+1):=by
  have bA:=hP.lt
  refine yj (fn:=Q1) rfl rfl rfl ?_
  unfold Q1
  simp(disch:=omega)only[aY,aa,simprocAttr,bK,az,an6,an5,anZ,cond_true,aB]
  refine cK ks.length 0 (fun i s=>∃ T l' lo g,s=⟨T,cE mm l' (b || !xQ ks i) K,lo,g⟩/\(lo=mm\/lo=K.length)/\(i=0\/lo=mm)/\T 0=.ref mm 0/\T 2=.slice (strs ts) false/\T 8=.slice (ar ks) false/\T 9=.int .i64 ks.length/\T 10=.int .i64 i/\((b || !xQ ks i)=false->l'=l++N9 ts ks i)/\l'.length<=l.length+i*(n+1))
   (fun s=>∃ T l' lo g,s=⟨T,cE mm l' (b || !xQ ks ks.length) K,lo,g⟩/\lo=mm/\((b || !xQ ks ks.length)=false->l'=l++N9 ts ks ks.length)/\l'.length<=l.length+ks.length*(n+1)) (fun _=>False) ?_ ?_ (fun _ h=>h.elim) 0 _ (by omega) ?_
  ·rintro i s hi ⟨T,l',lo,g,rfl,wX,jL,q0,q2,q8,q9,D9,ht,Ak⟩
   by_cases qW:i<ks.length
   ·have hx:=an3 qW
    have hm:=aoX qW
    have Aj:ks.getD i j9=ks[i]:=by rw[List.getD,hx];rfl
    rw[zG,RY,Aj]
    generalize ks[i]=u at hx hm
    have gq:=sL hx
    have lA:=pt (l:=ts) (i:=i) (by omega)
    generalize ts.getD i []=tk at lA
    have hT:=gF u hm
    unfold jV at hT
    rw[al] at hT gq
    have hmul:(i+1)*(n+1)<=ks.length*(n+1):=aoo _ (by omega)
    have afe:(i+1)*(n+1)=i*(n+1)+(n+1):=by rw[aoM,apU]
    have MW:(bif decide (mm<lo) then mm else lo)=mm:=by
     rcases wX with rfl|rfl
     ·simp
     ·simp[bA]
    generalize Ah:(b || !xQ ks i)=bi at *
    obtain⟨l1,e1,t1,n1⟩:=fL hP [tk] (by simp) l' bi (by simp only[an0,an1];omega)
    simp only[an0,an1] at n1
    rw[pg,tU] at e1
    rw[pg] at t1
    obtain⟨l3,e3,t3,n3⟩:=hT mm K hP l1 bi (by omega)
    have aaK:(b || !(xQ ks i&&ak u))=(bi || !ak u):=by rw[<- Ah];cases b<;>cases xQ ks i<;>cases ak u<;>rfl
    rw[aaK]
    simp(disch:=omega)only[aY,aa,simprocAttr,q0,q2,q8,q9,D9,gq,lA,e1,e3,MW,az,an6,an5,anZ,cond_true,aB]
    refine⟨qW,_,l3,mm,_,rfl,.inl rfl,.inr rfl,?_,?_,?_,?_,?_,fun h=>?_,by omega⟩
    all_goals first|(simp(disch:=omega)only[aV,aa,simprocAttr,q0,q2,q8,q9];done)|skip
    have h2:=AZ h
    rw[t3 h,t1 h2,ht h2];simp
   ·obtain rfl:i=ks.length:=by omega
    simp(disch:=omega)only[aY,aa,simprocAttr,q0,q2,q8,q9,D9,az,an6,an5,anZ,cond_true,aB]
    refine⟨_,l',lo,_,rfl,?_,ht,by omega⟩
    rcases jL with h2|h2
    ·omega
    ·exact h2
  ·rintro s ⟨T,l',lo,g,rfl,rfl,ht,Ak⟩
   have ho:=hP.open l' (b || !xQ ks ks.length)
   simp(disch:=omega)only[aY,aa,simprocAttr,ga,ho,az,an6,an5,anZ,cond_true,aB]
   exact⟨l',rfl,ht,Ak⟩
  ·have e0:cE mm l b K=cE mm l (b || !xQ ks 0) K:=by rw[show xQ ks 0=true from rfl,pg]
   refine⟨_,l,K.length,_,apK (fun x=>AS.mk _ x _ _) e0,.inr rfl,.inl rfl,?_,?_,?_,?_,?_,fun _=>by simp[N9],by omega⟩
   all_goals simp(disch:=omega)only[aV,aa,simprocAttr,aoG]
 obtain⟨r,h1,l',rfl,h2,h3⟩:=key
 exact⟨l',h1,h2,h3⟩
end Go.Proofs.YtbdhkgiakaegdaaGreatDoor
