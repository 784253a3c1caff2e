/-
  A part of the proof of PrintScans: S4, S4b, S5, S6, S7, S9, S8, S10, S11, S12, SP0, S13, S14, S15, S16, S17, S18, S19, S20, S21.
-/
import Derived.Test.YtocbgffdpfiidaaGreatDoorP10
set_option linter.unusedSimpArgs false
set_option linter.unusedVariables false
set_option linter.defProp false
set_option maxHeartbeats 1000000
set_option maxRecDepth 100000
namespace Go.Proofs.YtocbgffdpfiidaaGreatDoor
open Go Go.Abs Go.Proofs
theorem iC{n k:Int}(hk:0<k):0<=kH n k/\kH n k<k:=by
 unfold kH
 have h0:(0:Int)<=(if n<0 then -(n+1) else n):=by split<;>omega
 rw[Int.tmod_eq_emod_of_nonneg h0]
 exact⟨Int.emod_nonneg _ (by omega),Int.emod_lt_of_pos _ hk⟩
theorem xz{l:List Int}{i k:Int}(hk:0<k):0<=TZ l i k/\TZ l i k<k:=by
 unfold TZ
 split
 ·exact⟨Int.le_refl _,hk⟩
 ·exact iC hk
inductive Wd where
 | mk (name:aV) (kids:List Wd)
inductive Tm where
 | mk (kind n:Int) (name field wn:aV) (wk:List Wd) (kids:List Tm) (names:List aV)
def Wd.name:Wd->aV|.mk n _=>n
def Wd.kids:Wd->List Wd|.mk _ k=>k
def Tm.kind:Tm->Int|.mk k _ _ _ _ _ _ _=>k
def Tm.n:Tm->Int|.mk _ n _ _ _ _ _ _=>n
def Tm.name:Tm->aV|.mk _ _ a _ _ _ _ _=>a
def Tm.field:Tm->aV|.mk _ _ _ f _ _ _ _=>f
def Tm.wn:Tm->aV|.mk _ _ _ _ w _ _ _=>w
def Tm.wk:Tm->List Wd|.mk _ _ _ _ _ w _ _=>w
def Tm.kids:Tm->List Tm|.mk _ _ _ _ _ _ k _=>k
def Tm.names:Tm->List aV|.mk _ _ _ _ _ _ _ n=>n
mutual
def jK:Wd->List AV
 | .mk n ks=>[.str n,.slice (aO ks) false]
def aO:List Wd->List (List AV)
 | []=>[]
 | w :: r=>jK w :: aO r
end
mutual
def gd:Tm->List AV
 | .mk k n a f wn wk ks ns=>[.int .i64 k,.int .i64 n,.str a,.str f,.str wn,.slice (aO wk) false,.slice (aK ks) false,.slice (strs ns) false]
def aK:List Tm->List (List AV)
 | []=>[]
 | t :: r=>gd t :: aK r
end
theorem kR(w:Wd):jK w=[.str w.name,.slice (aO w.kids) false]:=by cases w;simp only[jK,Wd.name,Wd.kids]
theorem ax(t:Tm):gd t=[.int .i64 t.kind,.int .i64 t.n,.str t.name,.str t.field,.str t.wn,.slice (aO t.wk) false,.slice (aK t.kids) false,.slice (strs t.names) false]:=by
 cases t;simp only[gd,Tm.kind,Tm.n,Tm.name,Tm.field,Tm.wn,Tm.wk,Tm.kids,Tm.names]
theorem sA:∀ l:List Wd,aO l=l.map jK
 | []=>by simp[aO]
 | t :: r=>by simp[aO,sA r]
theorem lf:∀ l:List Tm,aK l=l.map gd
 | []=>by simp[aK]
 | t :: r=>by simp[aK,lf r]
theorem qC{l:List Wd} : (aO l).length=l.length:=by rw[sA];simp
theorem b8{l:List Tm} : (aK l).length=l.length:=by rw[lf];simp
theorem Dj{l:List Tm}{i:Nat}{e:Tm}(h:l[i]?=some e):(aK l)[i]?=some (gd e):=by rw[lf];simp[h]
def wP:Nat->Wd->Prop
 | 0,w=>w.name.length<=20/\w.kids=[]
 | h+1,w=>w.name.length<=20/\w.kids.length<=1/\∀ k∈w.kids,wP h k
inductive J' : Nat->Tm->Prop where
 | mk (h:Nat) (k n:Int) (a f wn:aV) (wk:List Wd) (ks:List Tm) (ns:List aV) (h1:-2199023255552<=n/\n<=2199023255552) (hk:-100<=k/\k<=100) (h2:a.length<=20/\f.length<=20)
   (h3:wP 3 (.mk wn wk)) (h4:ks.length<=3) (h5:∀ t∈ks,J' h t) (h6:ns.length<=8/\∀ s∈ns,s.length<=20):J' (h+1) (.mk k n a f wn wk ks ns)
inductive yU (m:Nat):Nat->Tm->Prop where
 | mk (h:Nat) (k n:Int) (a f wn:aV) (wk:List Wd) (ks:List Tm) (ns:List aV) (h1:-2199023255552<=n/\n<=2199023255552) (hk:-100<=k/\k<=100) (h2:a.length<=20/\f.length<=20)
   (h3:wP 3 (.mk wn wk)) (h4:ks.length<=3) (h5:∀ t∈ks,yU m h t) (h6:ns.length<=m/\∀ s∈ns,s.length<=20):yU m (h+1) (.mk k n a f wn wk ks ns)
theorem yU.le{m:Nat}(hm:m<=8):∀ (h h' : Nat) (t:Tm),h<=h'->yU m h t->J' h' t
 | 0,_,t,_,hb=>by cases hb
 | h+1,0,t,hh,_=>by omega
 | h+1,h' + 1,t,hh,hb=>by
  cases hb with
  | mk h k n a f wn wk ks ns h1 hk h2 h3 h4 h5 h6=>exact .mk h' k n a f wn wk ks ns h1 hk h2 h3 h4 (fun u hu=>yU.le hm h h' u (by omega) (h5 u hu)) ⟨by omega,h6.2⟩
theorem yU.up{m m' : Nat}(hm:m<=m'):∀ (h h' : Nat) (t:Tm),h<=h'->yU m h t->yU m' h' t
 | 0,_,t,_,hb=>by cases hb
 | h+1,0,t,hh,_=>by omega
 | h+1,h' + 1,t,hh,hb=>by
  cases hb with
  | mk h k n a f wn wk ks ns h1 hk h2 h3 h4 h5 h6=>exact .mk h' k n a f wn wk ks ns h1 hk h2 h3 h4 (fun u hu=>yU.up hm h h' u (by omega) (h5 u hu)) ⟨by omega,h6.2⟩
theorem bk{f:FuncId}{fn:au}(ho:A.ov f=none)(hf:A.fns f=some fn){args:List AV}{H:ag}{r:AV × Option fD}(hn:Nat.beq args.length fn.np=true)(hm:fn.muts.elem 777777=true)
  (h:W A fn.body { T:=gl args,H,lo:=H.length,gen:=0 } (uV H.length fn.results fun x=>(lR x.1,x.2)=r)):aB A f args H=some r:=by
 obtain⟨r',h1,h2⟩:=la (P:=fun x=>x=r) ho hf hn hm h
 rw[h1,h2]
theorem cd{cs:List AV} : lR (.agg cs)=.agg (cs.map n2):=rfl
theorem Xw{k:IntKind}{n:Int} : lR (.int k n)=.int k n:=rfl
theorem Gp{l:aV} : lR (.str l)=.str l:=rfl
theorem Xx{e:List (List AV)} : lR (.slice e false)=.slice (e.map fun r=>r.map n1) false:=rfl
theorem Xy{e:List (List AV)} : lR (.slice e true)=.slice e true:=rfl
theorem cQ{k:IntKind}{n:Int} : n2 (.int k n)=.int k n:=rfl
theorem cc{l:aV} : n2 (.str l)=.str l:=rfl
theorem cb:n2 .ay=.slice [] false:=rfl
theorem cH{e:List (List AV)} : n2 (.slice e false)=.slice (e.map fun r=>r.map n1) false:=rfl
theorem cI{e:List (List AV)} : n2 (.slice e true)=.slice e true:=rfl
theorem cP{k:IntKind}{n:Int} : n1 (.int k n)=.int k n:=rfl
theorem cG{l:aV} : n1 (.str l)=.str l:=rfl
theorem dH{e:List (List AV)}{o:Bool} : n1 (.slice e o)=.slice e o:=rfl
theorem adQ{w:Wd} : (jK w).map n1=jK w:=by rw[kR];rfl
theorem adP{t:Tm} : (gd t).map n1=gd t:=by rw[ax];rfl
theorem im{l:List Wd} : ((aO l).map fun r=>r.map n1)=aO l:=by
 rw[sA,ajh]
 exact aib fun w _=>adQ
theorem gW{l:List Tm} : ((aK l).map fun r=>r.map n1)=aK l:=by
 rw[lf,ajh]
 exact aib fun w _=>adP
theorem gC{l:List aV} : ((strs l).map fun r=>r.map n1)=strs l:=by
 rw[strs,ajh]
 exact aib fun w _=>rfl
structure Cc where
 mm:Nat
 l:List Int
def PM(c:Cc)(p:Int):List AV:=[.slice (ints c.l) false,.int .i64 p]
def bY(c:Cc)(p:Int)(H:ag):ag:=H.set c.mm (.box 55 (PM c p))
structure CH (c:Cc) (p:Int) (H:ag):Prop where
 h0:H[c.mm]?=some (.box 55 (PM c p))
 hl:∀ n∈c.l,AG n
 len:H.length=c.mm+1
theorem CH.lt{c:Cc}{p:Int}{H:ag}(h:CH c p H):c.mm<H.length:=(ahO.1 h.h0).1
theorem CH.set{c:Cc}{p p' : Int}{H:ag}(h:CH c p H):CH c p' (bY c p' H):=⟨by unfold bY;rw[List.getElem?_set_self h.lt],h.hl,by unfold bY;rw[List.length_set];exact h.len⟩
theorem aL{c:Cc}{p p' : Int}{H:ag} : bY c p (bY c p' H)=bY c p H:=by unfold bY;rw[List.set_set]
theorem aH{c:Cc}{p:Int}{H:ag} : (bY c p H).length=H.length:=by unfold bY;rw[List.length_set]
theorem aU{c:Cc}{p:Int}{H:ag} : (bY c p H).take H.length=bY c p H:=aiA (ajm aH)
theorem yI{H:ag}{i:Nat}{o:dm} : (H.set i o).take H.length=H.set i o:=aiA (ajm List.length_set)
theorem OX{H:ag}{i:Nat}{o:dm} : (H.set i o).length=H.length:=List.length_set
theorem CH.open{c:Cc}{p:Int}{H:ag}(h:CH c p H)(cs:List AV):yu H.length c.mm (H.set c.mm (.box 55 cs))=true:=by
 have h1:((H.set c.mm (.box 55 cs)).take H.length).drop c.mm=[.box 55 cs]:=by
  rw[yI]
  refine ajo fun j=>?_
  rw[ail,aiI]
  cases j with
  | zero=>simp[h.lt]
  | succ j =>
   rw[if_neg (by omega),air (by have:=h.len;omega)]
   simp
 unfold yu
 rw[h1]
 cases Nat.beq c.mm H.length<;>rfl
theorem CH.fU{c:Cc}{p p' : Int}{H:ag}(h:CH c p H):yu H.length c.mm (bY c p' H)=true:=h.open _
theorem jo{c:Cc}{p:Int}{H:ag}(h:CH c p H)(n:Int)(hn:0<n):∃ x p',0<=x/\x<n/\aB A 19 [.ref c.mm 0,.int .i64 n] H=some (.int .i64 x,some ⟨bY c p' H,c.mm⟩):=by
 refine⟨TZ c.l (IntKind.i64.wrap (IntKind.i64.wrap (p+1)-1)) n,IntKind.i64.wrap (p+1),(xz hn).1,(xz hn).2,?_⟩
 refine bk (fn:=Nj) rfl rfl rfl rfl ?_
 unfold Nj
 have h0:=h.h0
 have aZ:=h.lt
 have kE:=fun i H=>acm c.l i n H h.hl hn
 have cE:=h.open
 have iN:∀ x:dm,(H.set c.mm x)[c.mm]?=some x:=fun x=>List.getElem?_set_self aZ
 rw[PM] at h0
 simp(disch:=omega)only[aM,aa,simprocAttr,h0,iN,cE,a8,List.set_set,OX,yI,kE,bY,PM,Xw]
def kK:List aV:=[[97],[98],[102],[80,111,105,110,116],[83,104,97,112,101],[120,49],[99,111,114,101],[117]]
theorem lt8{x:Int}(h0:0<=x)(h1:x<8):x=0\/x=1\/x=2\/x=3\/x=4\/x=5\/x=6\/x=7:=by omega
theorem kJ{c:Cc}{p:Int}{H:ag}(h:CH c p H):∃ s p',s∈kK/\aB A 18 [.ref c.mm 0] H=some (.str s,some ⟨bY c p' H,c.mm⟩):=by
 obtain⟨x,p',h0,h1,dj⟩:=jo h 8 (by omega)
 have aZ:=h.lt
 have cE:=h.fU (p':=p')
 refine⟨(kK[x.toNat]?).getD [],p',?_,?_⟩
 ·rcases lt8 h0 h1 with rfl|rfl|rfl|rfl|rfl|rfl|rfl|rfl<;>decide
 ·refine bk (fn:=Ng) rfl rfl rfl rfl ?_
  unfold Ng
  rcases lt8 h0 h1 with rfl|rfl|rfl|rfl|rfl|rfl|rfl|rfl
  all_goals
   simp(disch:=omega)only[aM,aa,simprocAttr,dj,cE,a8,aH,aU,Gp]
   rfl
def cM:aV->aV × aV × Bool
 | []=>([],[],false)
 | b :: r=>if b.toNat=46 then ([],r,true) else (b :: (cM r).1,(cM r).2.1,(cM r).2.2)
def lT(s:aV):Bool:=isWord (cM s).1&&(!(cM s).2.2 || isWord (cM s).2.1)
def cq(s:aV):List aV:=if (cM s).2.2=true then [(cM s).1,[46],(cM s).2.1] else [(cM s).1]
abbrev gE:aV:=[76,105,115,116]
abbrev C4:aV:=[73,110,116]
abbrev tO:aV:=[66,111,111,108]
def bE:Wd->Bool
 | .mk n [k]=>if n=gE then bE k else false
 | .mk n []=>if n=gE then false else (n==C4 || n==tO || lT n)
 | .mk n _=>false
def dh:Wd->List aV
 | .mk n [k]=>if n=gE then [gE,[40]]++dh k++[[41]] else (if n=C4\/n=tO then [n] else cq n)
 | .mk n _=>if n=C4\/n=tO then [n] else cq n
def bN(k n:Int)(len:Nat):Int × Int :=
 if k=0\/k=1\/k=2 then (0,0) else if k=3\/k=11 then (-1,0)
 else if k=4 then (if (fm n).1=[] then (-2,0) else if (fm n).2=7 then (1,0) else (2,0))
 else if k=5 then (3,0) else if k=6 then (2,1) else if k=7 then (-1,len) else if k=8\/k=9 then (1,0)
 else if k=10 then (if len<2 then (-2,0) else (-1,2*((len:Int)-1))) else if k=12 then (3,2) else (-2,0)
def gA(k:Int):Bool:=decide (k=3\/k=7\/k=8\/k=9\/k=10)
def ki(c1 c2 l m:Int)(w:Bool):Bool:=decide (c1=-2) || decide (0<=c1/\l≠c1) || decide (m≠c2) || !w
def mL(t:Tm):Bool:=ki (bN t.kind t.n t.kids.length).1 (bN t.kind t.n t.kids.length).2 t.kids.length t.names.length (t.names.all isWord)
def nv(t:Tm):Bool:=bif gA t.kind then !(lT t.name) else bif decide (t.kind=2) then !(isWord t.name) else decide (t.name≠[])
def nY(t:Tm):Bool:=bif decide (t.kind=8\/t.kind=9) then !(isWord t.field) else decide (t.field≠[])
def nw(t:Tm):Bool:=bif decide (t.kind=11) then !(bE (.mk t.wn t.wk)) else (decide (t.wn≠[]) || decide (0<t.wk.length))
def mM(t:Tm):Bool:=bif decide (t.kind=0) then decide (t.n < -1099511627776\/1099511627776<t.n) else bif decide (t.kind=1) then decide (t.n≠0/\t.n≠1) else false
def om(t:Tm):Bool:=decide (t.kind≠0/\t.kind≠1/\t.kind≠4/\t.n≠0)
def gv(t:Tm):Bool:=!(mL t || nv t || nY t || nw t || mM t || om t)
mutual
def bD:Tm->Bool
 | .mk k n a f wn wk ks ns=>gv (.mk k n a f wn wk ks ns)&&nc ks
def nc:List Tm->Bool
 | []=>true
 | t :: r=>bD t&&nc r
end
theorem lS(t:Tm):bD t=(gv t&&nc t.kids):=by cases t;rw[bD,Tm.kids]
theorem kX:∀ l:List Tm,nc l=l.all bD
 | []=>by simp[nc]
 | t :: r=>by simp[nc,kX r]
def G0(h:Nat)(t:Tm):Prop:=yU 4 h t/\bD t=true
theorem ft:∀ s∈kK,isWord s=true:=by decide
theorem Gk:∀ s∈kK,lT s=true:=by decide
theorem Sr:∀ s∈kK,lT ([107,46]++s)=true:=by decide
theorem HE{s:aV}(h:lT s=true):bE (.mk s [])=true:=by
 have:s≠gE:=by rintro rfl;revert h;decide
 simp[bE,this,h]
theorem Sy{w:Wd}(h:bE w=true):bE (.mk [76,105,115,116] [w])=true:=by simp[bE,h]
theorem xp{n:Int}(h:-1099511627776<=n/\n<=1099511627776):gv (.mk 0 n [] [] [] [] [] [])=true:=by
 have:¬ (n < -1099511627776\/1099511627776<n):=by omega
 simp[gv,mL,ki,nv,nY,nw,mM,om,bN,gA,Tm.kind,Tm.n,Tm.name,Tm.field,Tm.wn,Tm.wk,Tm.kids,Tm.names,this]
theorem aaX{n:Int}(h:0<=n/\n<2):gv (.mk 1 n [] [] [] [] [] [])=true:=by
 have:n=0\/n=1:=by omega
 rcases this with rfl|rfl<;>decide
theorem aa1{s:aV}(h:isWord s=true):gv (.mk 2 0 s [] [] [] [] [])=true:=by
 simp[gv,mL,ki,nv,nY,nw,mM,om,bN,gA,Tm.kind,Tm.n,Tm.name,Tm.field,Tm.wn,Tm.wk,Tm.kids,Tm.names,h]
theorem adW{s:aV}{l:List Tm}(h:lT s=true):gv (.mk 3 0 s [] [] [] l [])=true:=by
 simp[gv,mL,ki,nv,nY,nw,mM,om,bN,gA,Tm.kind,Tm.n,Tm.name,Tm.field,Tm.wn,Tm.wk,Tm.kids,Tm.names,h]
theorem adX{t u v:Tm} : gv (.mk 5 0 [] [] [] [] [t,u,v] [])=true:=by
 simp[gv,mL,ki,nv,nY,nw,mM,om,bN,gA,Tm.kind,Tm.n,Tm.name,Tm.field,Tm.wn,Tm.wk,Tm.kids,Tm.names]
theorem adY{s:aV}{t u:Tm}(h:isWord s=true):gv (.mk 6 0 [] [] [] [] [t,u] [s])=true:=by
 simp[gv,mL,ki,nv,nY,nw,mM,om,bN,gA,Tm.kind,Tm.n,Tm.name,Tm.field,Tm.wn,Tm.wk,Tm.kids,Tm.names,h]
theorem adZ{s:aV}{l:List Tm}{ns:List aV}(h:lT s=true)(hl:ns.length=l.length)(hn:∀ x∈ns,x∈kK):gv (.mk 7 0 s [] [] [] l ns)=true:=by
 have hw:ns.all isWord=true:=ahU.2 fun x hx=>ft x (hn x hx)
 have hw2:∀ x∈ns,isWord x=true:=fun x hx=>ft x (hn x hx)
 simp[gv,mL,ki,nv,nY,nw,mM,om,bN,gA,Tm.kind,Tm.n,Tm.name,Tm.field,Tm.wn,Tm.wk,Tm.kids,Tm.names,h,hl,hw]
theorem aa2{s r:aV}{t:Tm}{k:Int}(hk:k=8\/k=9)(h:lT s=true)(hr:isWord r=true):gv (.mk k 0 s r [] [] [t] [])=true:=by
 rcases hk with rfl|rfl<;>simp[gv,mL,ki,nv,nY,nw,mM,om,bN,gA,Tm.kind,Tm.n,Tm.name,Tm.field,Tm.wn,Tm.wk,Tm.kids,Tm.names,h,hr]
theorem aaY{s:aV}{l:List Tm}{ns:List aV}(h:lT s=true)(h2:2<=l.length)(hl:ns.length=2*(l.length-1))(hn:∀ x∈ns,x∈kK):gv (.mk 10 0 s [] [] [] l ns)=true:=by
 have hw2:∀ x∈ns,isWord x=true:=fun x hx=>ft x (hn x hx)
 have e:(ns.length:Int)=2*((l.length:Int)-1):=by omega
 have e2:¬ l.length<2:=by omega
 simp[gv,mL,ki,nv,nY,nw,mM,om,bN,gA,Tm.kind,Tm.n,Tm.name,Tm.field,Tm.wn,Tm.wk,Tm.kids,Tm.names,h,e,e2]
 exact hw2
theorem aaZ{w:Wd}{l:List Tm}(h:bE w=true):gv (.mk 11 0 [] [] w.name w.kids l [])=true:=by
 have e:bE (.mk w.name w.kids)=true:=by cases w;exact h
 simp[gv,mL,ki,nv,nY,nw,mM,om,bN,gA,Tm.kind,Tm.n,Tm.name,Tm.field,Tm.wn,Tm.wk,Tm.kids,Tm.names,e]
theorem aa0{s r:aV}{t u v:Tm}(h:isWord s=true)(hr:isWord r=true):gv (.mk 12 0 [] [] [] [] [t,u,v] [s,r])=true:=by
 simp[gv,mL,ki,nv,nY,nw,mM,om,bN,gA,Tm.kind,Tm.n,Tm.name,Tm.field,Tm.wn,Tm.wk,Tm.kids,Tm.names,h,hr]
theorem UF{t:Tm}{n:Int}(hn:n=9\/n=11):gv (.mk 4 n [] [] [] [] [t] [])=true:=by
 have e:bN 4 n 1=(1,0):=by rcases hn with rfl|rfl<;>decide
 simp[gv,mL,ki,nv,nY,nw,mM,om,gA,Tm.kind,Tm.n,Tm.name,Tm.field,Tm.wn,Tm.wk,Tm.kids,Tm.names,e]
theorem pM{t u:Tm}{n:Int}(hn:0<=n/\n<=8\/n=10):gv (.mk 4 n [] [] [] [] [t,u] [])=true:=by
 have e:bN 4 n 2=(2,0):=by
  have:n=0\/n=1\/n=2\/n=3\/n=4\/n=5\/n=6\/n=7\/n=8\/n=10:=by omega
  rcases this with rfl|rfl|rfl|rfl|rfl|rfl|rfl|rfl|rfl|rfl<;>decide
 simp[gv,mL,ki,nv,nY,nw,mM,om,gA,Tm.kind,Tm.n,Tm.name,Tm.field,Tm.wn,Tm.wk,Tm.kids,Tm.names,e]
theorem ff:∀ s∈kK,s.length<=5:=by decide
theorem qq{c:Cc}{p:Int}{H:ag}(h:CH c p H):∃ s p',(s.length<=20/\lT s=true)/\aB A 40 [.ref c.mm 0] H=some (.str s,some ⟨bY c p' H,c.mm⟩):=by
 obtain⟨x,p1,h0,h1,dj⟩:=jo h 4 (by omega)
 obtain⟨s,p2,hs,oF⟩:=kJ (h.set (p':=p1))
 rw[aL] at oF
 have tC:=ff s hs
 have cE:=h.fU (p':=p2)
 have aZ:=h.lt
 by_cases hx:x=1
 ·subst hx
  refine⟨[107,46]++s,p2,⟨by simp;omega,Sr s hs⟩,bk (fn:=F2) rfl rfl rfl rfl ?_⟩
  unfold F2
  simp(disch:=omega)only[aM,aa,simprocAttr,dj,oF,cE,a8,aH,aU,Gp]
 ·refine⟨s,p2,⟨by omega,Gk s hs⟩,bk (fn:=F2) rfl rfl rfl rfl ?_⟩
  unfold F2
  simp(disch:=omega)only[aM,aa,simprocAttr,dj,oF,cE,a8,aH,aU,Gp]
theorem nO{d:Nat}{s:aV}(h:s.length<=20):wP d (.mk s []):=by
 cases d with
 | zero=>exact⟨h,rfl⟩
 | succ d=>exact⟨h,by simp[Wd.kids],by simp[Wd.kids]⟩
theorem TO{d:Nat}{w:Wd}(h:wP d w):wP (d+1) (.mk [76,105,115,116] [w]):=⟨by simp[Wd.name],by simp[Wd.kids],by simp[Wd.kids];exact h⟩
theorem Ck{c:Cc} : ∀ (d:Nat) (p:Int) (H:ag),d<=100->CH c p H->∃ w p',(wP d w/\bE w=true)/\aB A 22 [.ref c.mm 0,.int .i64 d] H=some (.agg (jK w),some ⟨bY c p' H,c.mm⟩):=by
 intro d
 induction d with
 | zero =>
  intro p H hd h
  obtain⟨x,p1,h0,h1,dj⟩:=jo h 5 (by omega)
  obtain⟨s,p2,hs,oE⟩:=qq (h.set (p':=p1))
  rw[aL] at oE
  have cE:=h.fU (p':=p1)
  have V':=h.fU (p':=p2)
  have aZ:=h.lt
  by_cases rr:x=1
  ·refine⟨.mk [66,111,111,108] [],p1,⟨nO (by decide),by decide⟩,bk (fn:=oI) rfl rfl rfl rfl ?_⟩
   unfold oI
   simp(disch:=omega)only[aM,aa,simprocAttr,dj,cE,a8,aH,aU,cd,ah1,ah3,cc,cb,jK,aO]
  by_cases hx2:x=2
  ·refine⟨.mk s [],p2,⟨nO hs.1,HE hs.2⟩,bk (fn:=oI) rfl rfl rfl rfl ?_⟩
   unfold oI
   simp(disch:=omega)only[aM,aa,simprocAttr,dj,oE,V',a8,aH,aU,cd,ah1,ah3,cc,cb,jK,aO]
  by_cases hx3:x=3
  all_goals
   refine⟨.mk [73,110,116] [],p1,⟨nO (by decide),by decide⟩,bk (fn:=oI) rfl rfl rfl rfl ?_⟩
   unfold oI
   simp(disch:=omega)only[aM,aa,simprocAttr,dj,cE,a8,aH,aU,cd,ah1,ah3,cc,cb,jK,aO]
 | succ d ih =>
  intro p H hd h
  obtain⟨x,p1,h0,h1,dj⟩:=jo h 5 (by omega)
  obtain⟨s,p2,hs,oE⟩:=qq (h.set (p':=p1))
  rw[aL] at oE
  obtain⟨w,p3,hw,Um⟩:=ih p1 (bY c p1 H) (by omega) h.set
  rw[aL,kR] at Um
  have cE:=h.fU (p':=p1)
  have V':=h.fU (p':=p2)
  have adk:=h.fU (p':=p3)
  have aZ:=h.lt
  have tz:(d:Int)+1-1=d:=by omega
  by_cases rr:x=1
  ·refine⟨.mk [66,111,111,108] [],p1,⟨nO (by decide),by decide⟩,bk (fn:=oI) rfl rfl rfl rfl ?_⟩
   unfold oI
   simp(disch:=omega)only[aM,aa,simprocAttr,dj,cE,a8,aH,aU,cd,ah1,ah3,cc,cb,jK,aO]
  by_cases hx2:x=2
  ·refine⟨.mk s [],p2,⟨nO hs.1,HE hs.2⟩,bk (fn:=oI) rfl rfl rfl rfl ?_⟩
   unfold oI
   simp(disch:=omega)only[aM,aa,simprocAttr,dj,oE,V',a8,aH,aU,cd,ah1,ah3,cc,cb,jK,aO]
  by_cases hx3:x=3
  ·refine⟨.mk [76,105,115,116] [w],p3,⟨TO hw.1,Sy hw.2⟩,bk (fn:=oI) rfl rfl rfl rfl ?_⟩
   unfold oI
   simp(disch:=omega)only[aM,aa,simprocAttr,dj,tz,Um,adk,a8,aH,aU,cd,ah1,ah3,cc,cb,cH,cI,cG,dH,jK,aO,kR]
  ·refine⟨.mk [73,110,116] [],p1,⟨nO (by decide),by decide⟩,bk (fn:=oI) rfl rfl rfl rfl ?_⟩
   unfold oI
   simp(disch:=omega)only[aM,aa,simprocAttr,dj,cE,a8,aH,aU,cd,ah1,ah3,cc,cb,jK,aO]
theorem abM{t:Tm} : (gd t).length=8:=by rw[ax];rfl
theorem ad7{t:Tm} : Pu (gd t)=true:=by
 rw[ax];simp only[OC,OB,UH,UJ,UI,ai1]
theorem O8{l:List Tm} : tc 8 (aK l):=by
 rw[lf]
 exact⟨fun r hr=>by simp only[aia] at hr;obtain⟨n,_,rfl⟩:=hr;exact abM,sM fun r hr=>by simp only[aia] at hr;obtain⟨n,_,rfl⟩:=hr;exact ad7⟩
theorem Ko{l m:List Tm}{o:Bool}(h:l.length+m.length<=100000000):an false 8 136 (.slice (aK l) true) (.slice (aK m) o)=some (.slice (aK (l++m)) true):=by
 rw[se O8 O8 (by rw[b8,b8];omega) (by rw[b8,b8];omega)];simp[lf]
theorem Zd{l:List Tm}{t:Tm}{o:Bool}(h:l.length<=10000000):an false 8 136 (.slice (aK l) true) (.slice [[.int .i64 t.kind,.int .i64 t.n,.str t.name,.str t.field,.str t.wn,.slice (aO t.wk) false,.slice (aK t.kids) false,.slice (strs t.names) false]] o)=some (.slice (aK (l++[t])) true):=by
 have:=Ko (l:=l) (m:=[t]) (o:=o) (by simp;omega)
 rw[show aK [t]=[gd t] by simp[aK],ax] at this
 exact this
theorem ts0:aK []=[]:=by simp[aK]
def uF(c:Cc)(d:Nat):Prop:=∀ (p:Int) (H:ag),CH c p H->∃ t p',G0 (d+1) t/\aB A 23 [.ref c.mm 0,.int .i64 d] H=some (.agg (gd t),some ⟨bY c p' H,c.mm⟩)
theorem Aw{c:Cc}{d:Nat}(hS:uF c d)(iP:Int)(h0:0<=iP/\iP<=1000)(p:Int)(H:ag)(h:CH c p H) :
  ∃ l p',(l.length:Int)<=iP/\(∀ t∈l,G0 (d+1) t)/\aB A 41 [.ref c.mm 0,.int .i64 d,.int .i64 iP] H=some (.slice (aK l) false,some ⟨bY c p' H,c.mm⟩):=by
 have key:∃ r,aB A 41 [.ref c.mm 0,.int .i64 d,.int .i64 iP] H=some r/\∃ l p',(l.length:Int)<=iP/\(∀ t∈l,G0 (d+1) t)/\r=(.slice (aK l) false,some ⟨bY c p' H,c.mm⟩):=by
  obtain⟨x,p1,qE,rr,dj⟩:=jo h (iP+1) (by omega)
  have aZ:=h.lt
  refine la (fn:=Nu) rfl rfl rfl rfl ?_
  unfold Nu
  simp(disch:=omega)only[aM,aa,simprocAttr,dj]
  refine bP x.toNat 0 (fun i s=>∃ T p1 acc,s=⟨T,bY c p1 H,c.mm,0⟩/\T 0=.ref c.mm 0/\T 1=.int .i64 d/\T 7=.slice (aK acc) true/\T 8=.int .i64 x/\T 9=.int .i64 i/\acc.length=i/\∀ t∈acc,G0 (d+1) t)
   (fun s=>∃ T p1 acc,s=⟨T,bY c p1 H,c.mm,0⟩/\T 7=.slice (aK acc) true/\(acc.length:Int)<=iP/\∀ t∈acc,G0 (d+1) t) (fun _=>False) ?_ ?_ (fun _ h=>h.elim) 0 _ (by omega) ?_
  ·rintro i s hi ⟨T,p1,acc,rfl,e0,e1,e7,e8,e9,hl,hb⟩
   by_cases hc:(i:Int)<x
   ·obtain⟨t,p2,ht,Hk⟩:=hS p1 (bY c p1 H) h.set
    rw[aL,ax] at Hk
    simp(disch:=omega)only[aX,aa,simprocAttr,e0,e1,e7,e8,e9,Hk,Zd]
    exact⟨by omega,_,p2,acc++[t],rfl,by simp(disch:=omega)only[aM,aa,simprocAttr,e0,e1,e7,e8,e9],by simp(disch:=omega)only[aM,aa,simprocAttr,e0,e1,e7,e8,e9],by simp(disch:=omega)only[aM,aa,simprocAttr],by simp(disch:=omega)only[aM,aa,simprocAttr,e8],by simp(disch:=omega)only[aM,aa,simprocAttr],by simp[hl],fun u hu=>by
     rcases ahS.1 hu with hu|hu
     ·exact hb u hu
     ·rw[ah4.1 hu];exact ht⟩
   ·simp(disch:=omega)only[aX,aa,simprocAttr,e0,e1,e7,e8,e9]
    exact⟨_,p1,acc,rfl,e7,by omega,hb⟩
  ·rintro s ⟨T,p1,acc,rfl,e7,hl,hb⟩
   have cE:=h.fU (p':=p1)
   simp(disch:=omega)only[aM,aa,simprocAttr,e7,cE,aH,aU,Xx,gW]
   exact⟨acc,p1,hl,hb,rfl,rfl⟩
  ·exact⟨_,p1,[],rfl,by simp(disch:=omega)only[aM,aa,simprocAttr,ts0];simp⟩
 obtain⟨r,h1,l,p',h2,h3,rfl⟩:=key
 exact⟨l,p',h2,h3,h1⟩
theorem iM{h:Nat} : wP h (.mk [] []):=nO (by decide)
theorem nM{a b:Int}(h:0<=a):a.tdiv b=a / b:=Int.tdiv_eq_ediv_of_nonneg h
theorem gT{a b:Int}(h:0<=a):a.tmod b=a % b:=Int.tmod_eq_emod_of_nonneg h
theorem HO{h:Nat}{k n:Int}{a:aV}(h1:-2199023255552<=n/\n<=2199023255552)(hk:0<=k/\k<=100)(h2:a.length<=20):yU 4 (h+1) (.mk k n a [] [] [] [] []) :=
 .mk h k n a [] [] [] [] [] h1 (by omega) ⟨h2,by decide⟩ iM (by decide) (by simp) ⟨by decide,by simp⟩
theorem fN{h:Nat}{k n:Int}{a:aV}(h1:-2199023255552<=n/\n<=2199023255552)(hk:0<=k/\k<=100)(h2:a.length<=20)(ho:gv (.mk k n a [] [] [] [] [])=true):G0 (h+1) (.mk k n a [] [] [] [] []) :=
 ⟨HO h1 hk h2,by rw[lS,ho];rfl⟩
theorem lt4{x:Int}(h0:0<=x)(h1:x<4):x=0\/x=1\/x=2\/x=3:=by omega
theorem lt2{x:Int}(h0:0<=x)(h1:x<2):x=0\/x=1:=by omega
theorem abN{c:Cc} : uF c 0:=by
 intro p H h
 obtain⟨x,p1,qE,rr,dj⟩:=jo h 24 (by omega)
 have hm:0<=x % 5/\x % 5<5:=by omega
 have aZ:=h.lt
 by_cases c0:x % 5=0
 ·obtain⟨y,p2,y0,y1,gu⟩:=jo (h.set (p':=p1)) 30 (by omega)
  rw[aL] at gu
  have cE:=h.fU (p':=p2)
  refine⟨.mk 0 (y-9) [] [] [] [] [] [],p2,fN (by omega) (by omega) (by decide) (xp (by omega)),bk (fn:=cT) rfl rfl rfl rfl ?_⟩
  unfold cT
  simp(disch:=omega)only[aX,aa,simprocAttr,dj,gu,cE,c0,gT,a8,aH,aU,cd,ah1,ah3,cQ,cc,cb,cH,cI,cP,cG,dH,gW,im,gC,ax,aK,aO,strs,Tm.kind,Tm.n,Tm.name,Tm.field,Tm.wn,Tm.wk,Tm.kids,Tm.names]
 by_cases c1:x % 5=1
 ·obtain⟨y,p2,y0,y1,gu⟩:=jo (h.set (p':=p1)) 4 (by omega)
  rw[aL] at gu
  have cE:=h.fU (p':=p2)
  rcases lt4 y0 y1 with rfl|rfl|rfl|rfl
  ·refine⟨.mk 0 0 [] [] [] [] [] [],p2,fN (by omega) (by omega) (by decide) (xp (by omega)),bk (fn:=cT) rfl rfl rfl rfl ?_⟩
   unfold cT
   simp(disch:=omega)only[aX,aa,simprocAttr,dj,gu,cE,c1,gT,a8,aH,aU,cd,ah1,ah3,cQ,cc,cb,cH,cI,cP,cG,dH,gW,im,gC,ax,aK,aO,strs,Tm.kind,Tm.n,Tm.name,Tm.field,Tm.wn,Tm.wk,Tm.kids,Tm.names]
  ·refine⟨.mk 0 1099511627776 [] [] [] [] [] [],p2,fN (by omega) (by omega) (by decide) (xp (by omega)),bk (fn:=cT) rfl rfl rfl rfl ?_⟩
   unfold cT
   simp(disch:=omega)only[aX,aa,simprocAttr,dj,gu,cE,c1,gT,a8,aH,aU,cd,ah1,ah3,cQ,cc,cb,cH,cI,cP,cG,dH,gW,im,gC,ax,aK,aO,strs,Tm.kind,Tm.n,Tm.name,Tm.field,Tm.wn,Tm.wk,Tm.kids,Tm.names]
  ·refine⟨.mk 0 (-1099511627776) [] [] [] [] [] [],p2,fN (by omega) (by omega) (by decide) (xp (by omega)),bk (fn:=cT) rfl rfl rfl rfl ?_⟩
   unfold cT
   simp(disch:=omega)only[aX,aa,simprocAttr,dj,gu,cE,c1,gT,a8,aH,aU,cd,ah1,ah3,cQ,cc,cb,cH,cI,cP,cG,dH,gW,im,gC,ax,aK,aO,strs,Tm.kind,Tm.n,Tm.name,Tm.field,Tm.wn,Tm.wk,Tm.kids,Tm.names]
  ·refine⟨.mk 0 10 [] [] [] [] [] [],p2,fN (by omega) (by omega) (by decide) (xp (by omega)),bk (fn:=cT) rfl rfl rfl rfl ?_⟩
   unfold cT
   simp(disch:=omega)only[aX,aa,simprocAttr,dj,gu,cE,c1,gT,a8,aH,aU,cd,ah1,ah3,cQ,cc,cb,cH,cI,cP,cG,dH,gW,im,gC,ax,aK,aO,strs,Tm.kind,Tm.n,Tm.name,Tm.field,Tm.wn,Tm.wk,Tm.kids,Tm.names]
 by_cases c2:x % 5=2
 ·obtain⟨y,p2,y0,y1,gu⟩:=jo (h.set (p':=p1)) 2 (by omega)
  rw[aL] at gu
  have cE:=h.fU (p':=p2)
  refine⟨.mk 1 y [] [] [] [] [] [],p2,fN (by omega) (by omega) (by decide) (aaX (by omega)),bk (fn:=cT) rfl rfl rfl rfl ?_⟩
  unfold cT
  simp(disch:=omega)only[aX,aa,simprocAttr,dj,gu,cE,c2,gT,a8,aH,aU,cd,ah1,ah3,cQ,cc,cb,cH,cI,cP,cG,dH,gW,im,gC,ax,aK,aO,strs,Tm.kind,Tm.n,Tm.name,Tm.field,Tm.wn,Tm.wk,Tm.kids,Tm.names]
 obtain⟨s,p2,sh,gu⟩:=kJ (h.set (p':=p1))
 have sl:=ff _ sh
 rw[aL] at gu
 have cE:=h.fU (p':=p2)
 refine⟨.mk 2 0 s [] [] [] [] [],p2,fN (by omega) (by omega) (by omega) (aa1 (ft s sh)),bk (fn:=cT) rfl rfl rfl rfl ?_⟩
 unfold cT
 simp(disch:=omega)only[aX,aa,simprocAttr,dj,gu,cE,gT,a8,aH,aU,cd,ah1,ah3,cQ,cc,cb,cH,cI,cP,cG,dH,gW,im,gC,ax,aK,aO,strs,Tm.kind,Tm.n,Tm.name,Tm.field,Tm.wn,Tm.wk,Tm.kids,Tm.names]
theorem N3{P:Tm->Prop}{a:Tm}(h:P a):∀ t∈[a],P t:=fun t ht=>by rw[ah4.1 ht];exact h
theorem sL{P:Tm->Prop}{a b:Tm}(h:P a)(h2:P b):∀ t∈[a,b],P t:=fun t ht=>by
 rcases aii.1 ht with rfl|ht
 ·exact h
 ·exact N3 h2 t ht
theorem aaP{P:Tm->Prop}{a b d:Tm}(h:P a)(h2:P b)(h3:P d):∀ t∈[a,b,d],P t:=fun t ht=>by
 rcases aii.1 ht with rfl|ht
 ·exact h
 ·exact sL h2 h3 t ht
theorem kC:(0:Nat)<=4/\∀ s∈([]:List aV),s.length<=20:=⟨by decide,by simp⟩
theorem aaR{h:Nat}{k n:Int}{a f wn:aV}{wk:List Wd}{ks:List Tm}{ns:List aV}(h5:∀ t∈ks,yU 4 h t)(h4:ks.length<=3)(h1:-2199023255552<=n/\n<=2199023255552)(hk:0<=k/\k<=100)(h2:a.length<=20/\f.length<=20)
  (h3:wP 3 (.mk wn wk)) (h6:ns.length<=4/\∀ s∈ns,s.length<=20):yU 4 (h+1) (.mk k n a f wn wk ks ns):=.mk h k n a f wn wk ks ns h1 (by omega) h2 h3 h4 h5 h6
theorem iQ{h:Nat}{k n:Int}{a f wn:aV}{wk:List Wd}{ks:List Tm}{ns:List aV}(h5:∀ t∈ks,G0 h t)(h4:ks.length<=3)(h1:-2199023255552<=n/\n<=2199023255552)(hk:0<=k/\k<=100)(h2:a.length<=20/\f.length<=20)
  (h3:wP 3 (.mk wn wk)) (h6:ns.length<=4/\∀ s∈ns,s.length<=20) (ho:gv (.mk k n a f wn wk ks ns)=true):G0 (h+1) (.mk k n a f wn wk ks ns) :=
 ⟨aaR (fun t ht=>(h5 t ht).1) h4 h1 hk h2 h3 h6,by rw[lS,ho,kX];exact ahU.2 fun t ht=>(h5 t ht).2⟩
theorem Pf{d d' : Nat} : ∀ {w:Wd},d<=d'->wP d w->wP d' w:=by
 induction d generalizing d' with
 | zero =>
  intro w _ h
  cases d' with
  | zero=>exact h
  | succ d'=>exact⟨h.1,by rw[h.2];simp,by rw[h.2];simp⟩
 | succ d ih =>
  intro w hd h
  cases d' with
  | zero=>omega
  | succ d'=>exact⟨h.1,h.2.1,fun k hk=>ih (by omega) (h.2.2 k hk)⟩
theorem abO{c:Cc}{d:Nat}(ih:uF c d){p p1:Int}{H:ag}(h:CH c p H)(dj:aB A 19 [.ref c.mm 0,.int .i64 24] H=some (.int .i64 9,some ⟨bY c p1 H,c.mm⟩))(hd:d<=100) :
  ∃ t p',G0 (d+1+1) t/\aB A 23 [.ref c.mm 0,.int .i64 ((d+1:Nat):Int)] H=some (.agg (gd t),some ⟨bY c p' H,c.mm⟩):=by
 have key:∃ r,aB A 23 [.ref c.mm 0,.int .i64 ((d+1:Nat):Int)] H=some r/\∃ t p',G0 (d+1+1) t/\r=(.agg (gd t),some ⟨bY c p' H,c.mm⟩):=by
  have aZ:=h.lt
  have tz:(d:Int)+1-1=d:=by omega
  obtain⟨l,p2,ln,lh,gu⟩:=Aw ih 2 (by omega) p1 (bY c p1 H) h.set
  rw[aL] at gu
  refine la (fn:=cT) rfl rfl rfl rfl ?_
  unfold cT
  simp(disch:=omega)only[aX,aa,simprocAttr,dj,gu,tz]
  refine bP l.length 1 (fun i s=>∃ T p3 acc,s=⟨T,bY c p3 H,c.mm,1⟩/\T 0=.ref c.mm 0/\T 4=.lbox 0 [.int .i64 0,.int .i64 0,.str [],.str [],.str [],.ay,.ay,.ay]/\T 6=.slice (aK l) false/\T 7=.slice (strs acc) true/\T 8=.int .i64 i/\acc.length=i/\∀ s∈acc,s∈kK)
   (fun s=>∃ T p3 acc,s=⟨T,bY c p3 H,c.mm,1⟩/\T 0=.ref c.mm 0/\T 4=.lbox 0 [.int .i64 0,.int .i64 0,.str [],.str [],.str [],.ay,.ay,.ay]/\T 6=.slice (aK l) false/\T 7=.slice (strs acc) true/\acc.length=l.length/\∀ s∈acc,s∈kK) (fun _=>False) ?_ ?_ (fun _ h=>h.elim) 0 _ (by omega) ?_
  ·rintro i s hi ⟨T,p3,acc,rfl,e0,e4,e6,e7,e8,hl,hb⟩
   by_cases hc:i<l.length
   ·obtain⟨s,p4,hs,oF⟩:=kJ (h.set (p':=p3))
    rw[aL] at oF
    have tC:=ff s hs
    have B1:an false 1 16 (.slice (strs acc) true) (.slice [[.str s]] true)=some (.slice (strs (acc++[s])) true):=dC (by omega)
    simp(disch:=omega)only[aX,aa,simprocAttr,e0,e6,e7,e8,b8,oF,B1]
    refine⟨by omega,_,p4,acc++[s],rfl,by simp(disch:=omega)only[aM,aa,simprocAttr,e0],by simp(disch:=omega)only[aM,aa,simprocAttr,e4],by simp(disch:=omega)only[aM,aa,simprocAttr,e6],by simp(disch:=omega)only[aM,aa,simprocAttr],by simp(disch:=omega)only[aM,aa,simprocAttr],by simp[hl],fun u hu=>?_⟩
    rcases ahS.1 hu with hu|hu
    ·exact hb u hu
    ·rw[ah4.1 hu];assumption
   ·simp(disch:=omega)only[aX,aa,simprocAttr,e0,e6,e7,e8,b8]
    exact⟨_,p3,acc,rfl,e0,e4,e6,e7,by omega,hb⟩
  ·rintro s ⟨T,p3,acc,rfl,e0,e4,e6,e7,hl,hb⟩
   obtain⟨s,p4,hs,oE⟩:=qq (h.set (p':=p3))
   rw[aL] at oE
   have cE:=h.fU (p':=p4)
   simp(disch:=omega)only[aX,aa,simprocAttr,e0,e4,e6,e7,oE,cE,a8,aH,aU,cd,ah1,ah3,cQ,cc,cb,cH,cI,cP,cG,dH,gW,im,gC]
   exact⟨.mk 7 0 s [] [] [] l acc,p4,iQ lh (by omega) (by omega) (by omega) ⟨hs.1,by decide⟩ iM ⟨by omega,fun x hx=>ait (ff x (hb x hx)) (by decide)⟩ (adZ hs.2 hl hb),by simp only[gd,aO];exact⟨trivial,trivial⟩⟩
  ·exact⟨_,p2,[],rfl,by simp(disch:=omega)only[aM,aa,simprocAttr,strs];simp⟩
 obtain⟨r,h1,t,p',h2,rfl⟩:=key
 exact⟨t,p',h2,h1⟩
theorem UZ{t u:Tm}{l:List Tm}{o:Bool}(h:l.length<=1000):an false 8 136 (.slice [[.int .i64 t.kind,.int .i64 t.n,.str t.name,.str t.field,.str t.wn,.slice (aO t.wk) false,.slice (aK t.kids) false,.slice (strs t.names) false],[.int .i64 u.kind,.int .i64 u.n,.str u.name,.str u.field,.str u.wn,.slice (aO u.wk) false,.slice (aK u.kids) false,.slice (strs u.names) false]] true) (.slice (aK l) o)=some (.slice (aK ([t,u]++l)) true):=by
 have:=Ko (l:=[t,u]) (m:=l) (o:=o) (by simp;omega)
 rw[show aK [t,u]=[gd t,gd u] by simp[aK],ax t,ax u] at this
 exact this
theorem DK{l:List aV}{a b:aV}{o:Bool}(h:l.length<=1000):an false 1 16 (.slice (strs l) true) (.slice [[.str a],[.str b]] o)=some (.slice (strs (l++[a,b])) true):=bG (m:=[a,b]) (by simp;omega)
theorem YA{c:Cc}{d:Nat}(ih:uF c d){p p1:Int}{H:ag}(h:CH c p H)(dj:aB A 19 [.ref c.mm 0,.int .i64 24] H=some (.int .i64 12,some ⟨bY c p1 H,c.mm⟩))(hd:d<=100) :
  ∃ t p',G0 (d+1+1) t/\aB A 23 [.ref c.mm 0,.int .i64 ((d+1:Nat):Int)] H=some (.agg (gd t),some ⟨bY c p' H,c.mm⟩):=by
 have key:∃ r,aB A 23 [.ref c.mm 0,.int .i64 ((d+1:Nat):Int)] H=some r/\∃ t p',G0 (d+1+1) t/\r=(.agg (gd t),some ⟨bY c p' H,c.mm⟩):=by
  have aZ:=h.lt
  have tz:(d:Int)+1-1=d:=by omega
  obtain⟨t,p2,th,gu⟩:=ih p1 (bY c p1 H) h.set
  rw[aL,ax] at gu
  obtain⟨u,p3,uh,nC⟩:=ih p2 (bY c p2 H) h.set
  rw[aL,ax] at nC
  obtain⟨l,p4,ln,lh,rb⟩:=Aw ih 1 (by omega) p3 (bY c p3 H) h.set
  rw[aL] at rb
  have B1:=UZ (t:=t) (u:=u) (l:=l) (o:=false) (by omega)
  have VH:∀ s∈[t,u]++l,G0 (d+1) s:=fun s hs=>by
   rcases ahS.1 hs with hs|hs
   ·exact sL (P:=G0 (d+1)) th uh s hs
   ·exact lh s hs
  obtain⟨k,hk⟩:∃ k,k=[t,u]++l:=⟨_,rfl⟩
  have uc:2<=k.length/\k.length<=3:=by rw[hk];simp;omega
  rw[<- hk] at B1 VH
  refine la (fn:=cT) rfl rfl rfl rfl ?_
  unfold cT
  simp(disch:=omega)only[aX,aa,simprocAttr,dj,gu,nC,rb,tz,B1]
  refine bP (k.length-1) 3 (fun i s=>∃ T p3 acc,s=⟨T,bY c p3 H,c.mm,1⟩/\T 0=.ref c.mm 0/\T 4=.lbox 0 [.int .i64 0,.int .i64 0,.str [],.str [],.str [],.ay,.ay,.ay]/\T 9=.slice (aK k) true/\T 10=.slice (strs acc) true/\T 11=.int .i64 (i+1)/\acc.length=2*i/\∀ s∈acc,s∈kK)
   (fun s=>∃ T p3 acc,s=⟨T,bY c p3 H,c.mm,1⟩/\T 0=.ref c.mm 0/\T 4=.lbox 0 [.int .i64 0,.int .i64 0,.str [],.str [],.str [],.ay,.ay,.ay]/\T 9=.slice (aK k) true/\T 10=.slice (strs acc) true/\acc.length=2*(k.length-1)/\∀ s∈acc,s∈kK) (fun _=>False) ?_ ?_ (fun _ h=>h.elim) 0 _ (by omega) ?_
  ·rintro i s hi ⟨T,p3,acc,rfl,e0,e4,e9,KO,um,hl,hb⟩
   by_cases hc:i+1<k.length
   ·obtain⟨a,p4,ha,oF⟩:=kJ (h.set (p':=p3))
    rw[aL] at oF
    have VH:=ff a ha
    obtain⟨b,p5,iV,Lz⟩:=kJ (h.set (p':=p4))
    rw[aL] at Lz
    have Lj:=ff b iV
    have ZQ:an false 1 16 (.slice (strs acc) true) (.slice [[.str a],[.str b]] true)=some (.slice (strs (acc++[a,b])) true):=DK (by omega)
    simp(disch:=omega)only[aX,aa,simprocAttr,e0,e9,KO,um,b8,oF,Lz,ZQ]
    refine⟨by omega,_,p5,acc++[a,b],rfl,by simp(disch:=omega)only[aM,aa,simprocAttr,e0],by simp(disch:=omega)only[aM,aa,simprocAttr,e4],by simp(disch:=omega)only[aM,aa,simprocAttr,e9],by simp(disch:=omega)only[aM,aa,simprocAttr],by simp(disch:=omega)only[aM,aa,simprocAttr],by simp[hl];omega,fun u hu=>?_⟩
    rcases ahS.1 hu with hu|hu
    ·exact hb u hu
    ·rcases aii.1 hu with rfl|hu
     ·assumption
     ·rw[ah4.1 hu];assumption
   ·simp(disch:=omega)only[aX,aa,simprocAttr,e0,e9,KO,um,b8]
    exact⟨_,p3,acc,rfl,e0,e4,e9,KO,by omega,hb⟩
  ·rintro s ⟨T,p3,acc,rfl,e0,e4,e9,KO,hl,hb⟩
   obtain⟨s,p4,hs,oE⟩:=qq (h.set (p':=p3))
   rw[aL] at oE
   have cE:=h.fU (p':=p4)
   simp(disch:=omega)only[aX,aa,simprocAttr,e0,e4,e9,KO,oE,cE,a8,aH,aU,cd,ah1,ah3,cQ,cc,cb,cH,cI,cP,cG,dH,gW,im,gC]
   exact⟨.mk 10 0 s [] [] [] k acc,p4,iQ VH (by omega) (by omega) (by omega) ⟨hs.1,by decide⟩ iM ⟨by omega,fun x hx=>ait (ff x (hb x hx)) (by decide)⟩ (aaY hs.2 uc.1 hl hb),by simp only[gd,aO];exact⟨trivial,trivial⟩⟩
  ·exact⟨_,p4,[],rfl,by simp(disch:=omega)only[aM,aa,simprocAttr,strs];simp⟩
 obtain⟨r,h1,t,p',h2,rfl⟩:=key
 exact⟨t,p',h2,h1⟩
theorem abP{c:Cc}{d:Nat}(hd:d<=100)(ih:uF c d):uF c (d+1):=by
 intro p H h
 obtain⟨x,p1,qE,rr,dj⟩:=jo h 24 (by omega)
 have aZ:=h.lt
 have tz:(d:Int)+1-1=d:=by omega
 by_cases c0:x=0
 ·obtain⟨y,p2,y0,y1,gu⟩:=jo (h.set (p':=p1)) 30 (by omega)
  rw[aL] at gu
  have cE:=h.fU (p':=p2)
  refine⟨.mk 0 (y-9) [] [] [] [] [] [],p2,fN (by omega) (by omega) (by decide) (xp (by omega)),bk (fn:=cT) rfl rfl rfl rfl ?_⟩
  unfold cT
  simp(disch:=omega)only[aX,aa,simprocAttr,dj,gu,cE,c0,a8,aH,aU,cd,ah1,ah3,cQ,cc,cb,cH,cI,cP,cG,dH,gW,im,gC,ax,aK,aO,strs,Tm.kind,Tm.n,Tm.name,Tm.field,Tm.wn,Tm.wk,Tm.kids,Tm.names]
 by_cases c1:x=1
 ·obtain⟨y,p2,y0,y1,gu⟩:=jo (h.set (p':=p1)) 4 (by omega)
  rw[aL] at gu
  have cE:=h.fU (p':=p2)
  rcases lt4 y0 y1 with rfl|rfl|rfl|rfl
  ·refine⟨.mk 0 0 [] [] [] [] [] [],p2,fN (by omega) (by omega) (by decide) (xp (by omega)),bk (fn:=cT) rfl rfl rfl rfl ?_⟩
   unfold cT
   simp(disch:=omega)only[aX,aa,simprocAttr,dj,gu,cE,c1,a8,aH,aU,cd,ah1,ah3,cQ,cc,cb,cH,cI,cP,cG,dH,gW,im,gC,ax,aK,aO,strs,Tm.kind,Tm.n,Tm.name,Tm.field,Tm.wn,Tm.wk,Tm.kids,Tm.names]
  ·refine⟨.mk 0 1099511627776 [] [] [] [] [] [],p2,fN (by omega) (by omega) (by decide) (xp (by omega)),bk (fn:=cT) rfl rfl rfl rfl ?_⟩
   unfold cT
   simp(disch:=omega)only[aX,aa,simprocAttr,dj,gu,cE,c1,a8,aH,aU,cd,ah1,ah3,cQ,cc,cb,cH,cI,cP,cG,dH,gW,im,gC,ax,aK,aO,strs,Tm.kind,Tm.n,Tm.name,Tm.field,Tm.wn,Tm.wk,Tm.kids,Tm.names]
  ·refine⟨.mk 0 (-1099511627776) [] [] [] [] [] [],p2,fN (by omega) (by omega) (by decide) (xp (by omega)),bk (fn:=cT) rfl rfl rfl rfl ?_⟩
   unfold cT
   simp(disch:=omega)only[aX,aa,simprocAttr,dj,gu,cE,c1,a8,aH,aU,cd,ah1,ah3,cQ,cc,cb,cH,cI,cP,cG,dH,gW,im,gC,ax,aK,aO,strs,Tm.kind,Tm.n,Tm.name,Tm.field,Tm.wn,Tm.wk,Tm.kids,Tm.names]
  ·refine⟨.mk 0 10 [] [] [] [] [] [],p2,fN (by omega) (by omega) (by decide) (xp (by omega)),bk (fn:=cT) rfl rfl rfl rfl ?_⟩
   unfold cT
   simp(disch:=omega)only[aX,aa,simprocAttr,dj,gu,cE,c1,a8,aH,aU,cd,ah1,ah3,cQ,cc,cb,cH,cI,cP,cG,dH,gW,im,gC,ax,aK,aO,strs,Tm.kind,Tm.n,Tm.name,Tm.field,Tm.wn,Tm.wk,Tm.kids,Tm.names]
 by_cases c2:x=2
 ·obtain⟨y,p2,y0,y1,gu⟩:=jo (h.set (p':=p1)) 2 (by omega)
  rw[aL] at gu
  have cE:=h.fU (p':=p2)
  refine⟨.mk 1 y [] [] [] [] [] [],p2,fN (by omega) (by omega) (by decide) (aaX (by omega)),bk (fn:=cT) rfl rfl rfl rfl ?_⟩
  unfold cT
  simp(disch:=omega)only[aX,aa,simprocAttr,dj,gu,cE,c2,a8,aH,aU,cd,ah1,ah3,cQ,cc,cb,cH,cI,cP,cG,dH,gW,im,gC,ax,aK,aO,strs,Tm.kind,Tm.n,Tm.name,Tm.field,Tm.wn,Tm.wk,Tm.kids,Tm.names]
 by_cases c5:x=5
 ·obtain⟨s,p2,sl,gu⟩:=qq (h.set (p':=p1))
  rw[aL] at gu
  obtain⟨l,p3,ln,lh,nC⟩:=Aw ih 3 (by omega) p2 (bY c p2 H) h.set
  rw[aL] at nC
  have cE:=h.fU (p':=p3)
  refine⟨.mk 3 0 s [] [] [] l [],p3,iQ lh (by omega) (by omega) (by omega) ⟨sl.1,by decide⟩ iM kC (adW sl.2),bk (fn:=cT) rfl rfl rfl rfl ?_⟩
  unfold cT
  simp(disch:=omega)only[aX,aa,simprocAttr,dj,gu,nC,cE,c5,tz,a8,aH,aU,cd,ah1,ah3,cQ,cc,cb,cH,cI,cP,cG,dH,gW,im,gC,ax,aK,aO,strs,Tm.kind,Tm.n,Tm.name,Tm.field,Tm.wn,Tm.wk,Tm.kids,Tm.names]
 by_cases c6:x=6
 ·obtain⟨t,p2,th,gu⟩:=ih p1 (bY c p1 H) h.set
  rw[aL,ax] at gu
  obtain⟨u,p3,uh,nC⟩:=ih p2 (bY c p2 H) h.set
  rw[aL,ax] at nC
  obtain⟨v,p4,vh,rb⟩:=ih p3 (bY c p3 H) h.set
  rw[aL,ax] at rb
  have cE:=h.fU (p':=p4)
  refine⟨.mk 5 0 [] [] [] [] [t,u,v] [],p4,iQ (aaP th uh vh) (by simp) (by omega) (by omega) ⟨by decide,by decide⟩ iM kC adX,bk (fn:=cT) rfl rfl rfl rfl ?_⟩
  unfold cT
  simp(disch:=omega)only[aX,aa,simprocAttr,dj,gu,nC,rb,cE,c6,tz,a8,aH,aU,cd,ah1,ah3,cQ,cc,cb,cH,cI,cP,cG,dH,gW,im,gC,ax,aK,aO,strs,Tm.kind,Tm.n,Tm.name,Tm.field,Tm.wn,Tm.wk,Tm.kids,Tm.names]
 by_cases c7:x=7
 ·obtain⟨s,p2,sh,gu⟩:=kJ (h.set (p':=p1))
  have sl:=ff _ sh
  rw[aL] at gu
  obtain⟨t,p3,th,nC⟩:=ih p2 (bY c p2 H) h.set
  rw[aL,ax] at nC
  obtain⟨u,p4,uh,rb⟩:=ih p3 (bY c p3 H) h.set
  rw[aL,ax] at rb
  have cE:=h.fU (p':=p4)
  refine⟨.mk 6 0 [] [] [] [] [t,u] [s],p4,iQ (sL th uh) (by simp) (by omega) (by omega) ⟨by decide,by decide⟩ iM ⟨by simp,by simp;omega⟩ (adY (ft s sh)),bk (fn:=cT) rfl rfl rfl rfl ?_⟩
  unfold cT
  simp(disch:=omega)only[aX,aa,simprocAttr,dj,gu,nC,rb,cE,c7,tz,a8,aH,aU,cd,ah1,ah3,cQ,cc,cb,cH,cI,cP,cG,dH,gW,im,gC,ax,aK,aO,strs,Tm.kind,Tm.n,Tm.name,Tm.field,Tm.wn,Tm.wk,Tm.kids,Tm.names]
 by_cases c8:x=8
 ·obtain⟨s,p2,sh,gu⟩:=kJ (h.set (p':=p1))
  have sl:=ff _ sh
  rw[aL] at gu
  obtain⟨r,p3,rh,nC⟩:=kJ (h.set (p':=p2))
  have rl:=ff _ rh
  rw[aL] at nC
  obtain⟨t,p4,th,rb⟩:=ih p3 (bY c p3 H) h.set
  rw[aL,ax] at rb
  obtain⟨u,p5,uh,hc5⟩:=ih p4 (bY c p4 H) h.set
  rw[aL,ax] at hc5
  obtain⟨v,p6,vh,hc6⟩:=ih p5 (bY c p5 H) h.set
  rw[aL,ax] at hc6
  have cE:=h.fU (p':=p6)
  refine⟨.mk 12 0 [] [] [] [] [t,u,v] [s,r],p6,iQ (aaP th uh vh) (by simp) (by omega) (by omega) ⟨by decide,by decide⟩ iM ⟨by simp,by simp;omega⟩ (aa0 (ft s sh) (ft r rh)),bk (fn:=cT) rfl rfl rfl rfl ?_⟩
  unfold cT
  simp(disch:=omega)only[aX,aa,simprocAttr,dj,gu,nC,rb,hc5,hc6,cE,c8,tz,a8,aH,aU,cd,ah1,ah3,cQ,cc,cb,cH,cI,cP,cG,dH,gW,im,gC,ax,aK,aO,strs,Tm.kind,Tm.n,Tm.name,Tm.field,Tm.wn,Tm.wk,Tm.kids,Tm.names]
 by_cases c10:x=10
 ·obtain⟨s,p2,sl,gu⟩:=qq (h.set (p':=p1))
  rw[aL] at gu
  obtain⟨r,p3,rh,nC⟩:=kJ (h.set (p':=p2))
  have rl:=ff _ rh
  rw[aL] at nC
  obtain⟨t,p4,th,rb⟩:=ih p3 (bY c p3 H) h.set
  rw[aL,ax] at rb
  have cE:=h.fU (p':=p4)
  refine⟨.mk 8 0 s r [] [] [t] [],p4,iQ (N3 th) (by simp) (by omega) (by omega) ⟨sl.1,by omega⟩ iM kC (aa2 (.inl rfl) sl.2 (ft r rh)),bk (fn:=cT) rfl rfl rfl rfl ?_⟩
  unfold cT
  simp(disch:=omega)only[aX,aa,simprocAttr,dj,gu,nC,rb,cE,c10,tz,a8,aH,aU,cd,ah1,ah3,cQ,cc,cb,cH,cI,cP,cG,dH,gW,im,gC,ax,aK,aO,strs,Tm.kind,Tm.n,Tm.name,Tm.field,Tm.wn,Tm.wk,Tm.kids,Tm.names]
 by_cases c11:x=11
 ·obtain⟨s,p2,sl,gu⟩:=qq (h.set (p':=p1))
  rw[aL] at gu
  obtain⟨r,p3,rh,nC⟩:=kJ (h.set (p':=p2))
  have rl:=ff _ rh
  rw[aL] at nC
  obtain⟨t,p4,th,rb⟩:=ih p3 (bY c p3 H) h.set
  rw[aL,ax] at rb
  have cE:=h.fU (p':=p4)
  refine⟨.mk 9 0 s r [] [] [t] [],p4,iQ (N3 th) (by simp) (by omega) (by omega) ⟨sl.1,by omega⟩ iM kC (aa2 (.inr rfl) sl.2 (ft r rh)),bk (fn:=cT) rfl rfl rfl rfl ?_⟩
  unfold cT
  simp(disch:=omega)only[aX,aa,simprocAttr,dj,gu,nC,rb,cE,c11,tz,a8,aH,aU,cd,ah1,ah3,cQ,cc,cb,cH,cI,cP,cG,dH,gW,im,gC,ax,aK,aO,strs,Tm.kind,Tm.n,Tm.name,Tm.field,Tm.wn,Tm.wk,Tm.kids,Tm.names]
 by_cases c13:x=13
 ·obtain⟨w,p2,wh,gu⟩:=Ck 2 p1 (bY c p1 H) (by omega) h.set
  rw[aL,kR] at gu
  rw[show ((2:Nat):Int)=2 from rfl] at gu
  obtain⟨l,p3,ln,lh,nC⟩:=Aw ih 3 (by omega) p2 (bY c p2 H) h.set
  rw[aL] at nC
  have cE:=h.fU (p':=p3)
  refine⟨.mk 11 0 [] [] w.name w.kids l [],p3,iQ lh (by omega) (by omega) (by omega) ⟨by decide,by decide⟩ (by cases w;exact Pf (by omega) wh.1) kC (aaZ wh.2),bk (fn:=cT) rfl rfl rfl rfl ?_⟩
  unfold cT
  simp(disch:=omega)only[aX,aa,simprocAttr,dj,gu,nC,cE,c13,tz,a8,aH,aU,cd,ah1,ah3,cQ,cc,cb,cH,cI,cP,cG,dH,gW,im,gC,ax,aK,aO,strs,Tm.kind,Tm.n,Tm.name,Tm.field,Tm.wn,Tm.wk,Tm.kids,Tm.names]
 by_cases c14:x=14
 ·obtain⟨y,p2,y0,y1,gu⟩:=jo (h.set (p':=p1)) 2 (by omega)
  rw[aL] at gu
  obtain⟨t,p3,th,nC⟩:=ih p2 (bY c p2 H) h.set
  rw[aL,ax] at nC
  have cE:=h.fU (p':=p3)
  rcases lt2 y0 y1 with rfl|rfl
  ·refine⟨.mk 4 9 [] [] [] [] [t] [],p3,iQ (N3 th) (by simp) (by omega) (by omega) ⟨by decide,by decide⟩ iM kC (UF (by omega)),bk (fn:=cT) rfl rfl rfl rfl ?_⟩
   unfold cT
   simp(disch:=omega)only[aX,aa,simprocAttr,dj,gu,nC,cE,c14,tz,a8,aH,aU,cd,ah1,ah3,cQ,cc,cb,cH,cI,cP,cG,dH,gW,im,gC,ax,aK,aO,strs,Tm.kind,Tm.n,Tm.name,Tm.field,Tm.wn,Tm.wk,Tm.kids,Tm.names]
   first|done|rfl
  ·refine⟨.mk 4 11 [] [] [] [] [t] [],p3,iQ (N3 th) (by simp) (by omega) (by omega) ⟨by decide,by decide⟩ iM kC (UF (by omega)),bk (fn:=cT) rfl rfl rfl rfl ?_⟩
   unfold cT
   simp(disch:=omega)only[aX,aa,simprocAttr,dj,gu,nC,cE,c14,tz,a8,aH,aU,cd,ah1,ah3,cQ,cc,cb,cH,cI,cP,cG,dH,gW,im,gC,ax,aK,aO,strs,Tm.kind,Tm.n,Tm.name,Tm.field,Tm.wn,Tm.wk,Tm.kids,Tm.names]
   first|done|rfl
 by_cases c9:x=9
 ·subst c9;exact abO ih h dj hd
 by_cases c12:x=12
 ·subst c12;exact YA ih h dj hd
 by_cases c15:14<x
 ·obtain⟨y,p2,y0,y1,gu⟩:=jo (h.set (p':=p1)) 10 (by omega)
  rw[aL] at gu
  obtain⟨t,p3,th,nC⟩:=ih p2 (bY c p2 H) h.set
  rw[aL,ax] at nC
  obtain⟨u,p4,uh,rb⟩:=ih p3 (bY c p3 H) h.set
  rw[aL,ax] at rb
  have cE:=h.fU (p':=p4)
  have hy:y=0\/y=1\/y=2\/y=3\/y=4\/y=5\/y=6\/y=7\/y=8\/y=9:=by omega
  rcases hy with rfl|rfl|rfl|rfl|rfl|rfl|rfl|rfl|rfl|rfl
  ·refine⟨.mk 4 0 [] [] [] [] [t,u] [],p4,iQ (sL th uh) (by simp) (by omega) (by omega) ⟨by decide,by decide⟩ iM kC (pM (by omega)),bk (fn:=cT) rfl rfl rfl rfl ?_⟩
   unfold cT
   simp(disch:=omega)only[aX,aa,simprocAttr,dj,gu,nC,rb,cE,tz,a8,aH,aU,cd,ah1,ah3,cQ,cc,cb,cH,cI,cP,cG,dH,gW,im,gC,ax,aK,aO,strs,Tm.kind,Tm.n,Tm.name,Tm.field,Tm.wn,Tm.wk,Tm.kids,Tm.names]
  ·refine⟨.mk 4 1 [] [] [] [] [t,u] [],p4,iQ (sL th uh) (by simp) (by omega) (by omega) ⟨by decide,by decide⟩ iM kC (pM (by omega)),bk (fn:=cT) rfl rfl rfl rfl ?_⟩
   unfold cT
   simp(disch:=omega)only[aX,aa,simprocAttr,dj,gu,nC,rb,cE,tz,a8,aH,aU,cd,ah1,ah3,cQ,cc,cb,cH,cI,cP,cG,dH,gW,im,gC,ax,aK,aO,strs,Tm.kind,Tm.n,Tm.name,Tm.field,Tm.wn,Tm.wk,Tm.kids,Tm.names]
  ·refine⟨.mk 4 2 [] [] [] [] [t,u] [],p4,iQ (sL th uh) (by simp) (by omega) (by omega) ⟨by decide,by decide⟩ iM kC (pM (by omega)),bk (fn:=cT) rfl rfl rfl rfl ?_⟩
   unfold cT
   simp(disch:=omega)only[aX,aa,simprocAttr,dj,gu,nC,rb,cE,tz,a8,aH,aU,cd,ah1,ah3,cQ,cc,cb,cH,cI,cP,cG,dH,gW,im,gC,ax,aK,aO,strs,Tm.kind,Tm.n,Tm.name,Tm.field,Tm.wn,Tm.wk,Tm.kids,Tm.names]
  ·refine⟨.mk 4 3 [] [] [] [] [t,u] [],p4,iQ (sL th uh) (by simp) (by omega) (by omega) ⟨by decide,by decide⟩ iM kC (pM (by omega)),bk (fn:=cT) rfl rfl rfl rfl ?_⟩
   unfold cT
   simp(disch:=omega)only[aX,aa,simprocAttr,dj,gu,nC,rb,cE,tz,a8,aH,aU,cd,ah1,ah3,cQ,cc,cb,cH,cI,cP,cG,dH,gW,im,gC,ax,aK,aO,strs,Tm.kind,Tm.n,Tm.name,Tm.field,Tm.wn,Tm.wk,Tm.kids,Tm.names]
  ·refine⟨.mk 4 4 [] [] [] [] [t,u] [],p4,iQ (sL th uh) (by simp) (by omega) (by omega) ⟨by decide,by decide⟩ iM kC (pM (by omega)),bk (fn:=cT) rfl rfl rfl rfl ?_⟩
   unfold cT
   simp(disch:=omega)only[aX,aa,simprocAttr,dj,gu,nC,rb,cE,tz,a8,aH,aU,cd,ah1,ah3,cQ,cc,cb,cH,cI,cP,cG,dH,gW,im,gC,ax,aK,aO,strs,Tm.kind,Tm.n,Tm.name,Tm.field,Tm.wn,Tm.wk,Tm.kids,Tm.names]
  ·refine⟨.mk 4 5 [] [] [] [] [t,u] [],p4,iQ (sL th uh) (by simp) (by omega) (by omega) ⟨by decide,by decide⟩ iM kC (pM (by omega)),bk (fn:=cT) rfl rfl rfl rfl ?_⟩
   unfold cT
   simp(disch:=omega)only[aX,aa,simprocAttr,dj,gu,nC,rb,cE,tz,a8,aH,aU,cd,ah1,ah3,cQ,cc,cb,cH,cI,cP,cG,dH,gW,im,gC,ax,aK,aO,strs,Tm.kind,Tm.n,Tm.name,Tm.field,Tm.wn,Tm.wk,Tm.kids,Tm.names]
  ·refine⟨.mk 4 6 [] [] [] [] [t,u] [],p4,iQ (sL th uh) (by simp) (by omega) (by omega) ⟨by decide,by decide⟩ iM kC (pM (by omega)),bk (fn:=cT) rfl rfl rfl rfl ?_⟩
   unfold cT
   simp(disch:=omega)only[aX,aa,simprocAttr,dj,gu,nC,rb,cE,tz,a8,aH,aU,cd,ah1,ah3,cQ,cc,cb,cH,cI,cP,cG,dH,gW,im,gC,ax,aK,aO,strs,Tm.kind,Tm.n,Tm.name,Tm.field,Tm.wn,Tm.wk,Tm.kids,Tm.names]
  ·refine⟨.mk 4 7 [] [] [] [] [t,u] [],p4,iQ (sL th uh) (by simp) (by omega) (by omega) ⟨by decide,by decide⟩ iM kC (pM (by omega)),bk (fn:=cT) rfl rfl rfl rfl ?_⟩
   unfold cT
   simp(disch:=omega)only[aX,aa,simprocAttr,dj,gu,nC,rb,cE,tz,a8,aH,aU,cd,ah1,ah3,cQ,cc,cb,cH,cI,cP,cG,dH,gW,im,gC,ax,aK,aO,strs,Tm.kind,Tm.n,Tm.name,Tm.field,Tm.wn,Tm.wk,Tm.kids,Tm.names]
  ·refine⟨.mk 4 8 [] [] [] [] [t,u] [],p4,iQ (sL th uh) (by simp) (by omega) (by omega) ⟨by decide,by decide⟩ iM kC (pM (by omega)),bk (fn:=cT) rfl rfl rfl rfl ?_⟩
   unfold cT
   simp(disch:=omega)only[aX,aa,simprocAttr,dj,gu,nC,rb,cE,tz,a8,aH,aU,cd,ah1,ah3,cQ,cc,cb,cH,cI,cP,cG,dH,gW,im,gC,ax,aK,aO,strs,Tm.kind,Tm.n,Tm.name,Tm.field,Tm.wn,Tm.wk,Tm.kids,Tm.names]
  ·refine⟨.mk 4 10 [] [] [] [] [t,u] [],p4,iQ (sL th uh) (by simp) (by omega) (by omega) ⟨by decide,by decide⟩ iM kC (pM (by omega)),bk (fn:=cT) rfl rfl rfl rfl ?_⟩
   unfold cT
   simp(disch:=omega)only[aX,aa,simprocAttr,dj,gu,nC,rb,cE,tz,a8,aH,aU,cd,ah1,ah3,cQ,cc,cb,cH,cI,cP,cG,dH,gW,im,gC,ax,aK,aO,strs,Tm.kind,Tm.n,Tm.name,Tm.field,Tm.wn,Tm.wk,Tm.kids,Tm.names]
 have agE:x=3\/x=4:=by omega
 obtain⟨s,p2,sh,gu⟩:=kJ (h.set (p':=p1))
 have sl:=ff _ sh
 rw[aL] at gu
 have cE:=h.fU (p':=p2)
 refine⟨.mk 2 0 s [] [] [] [] [],p2,fN (by omega) (by omega) (by omega) (aa1 (ft s sh)),bk (fn:=cT) rfl rfl rfl rfl ?_⟩
 unfold cT
 simp(disch:=omega)only[aX,aa,simprocAttr,dj,gu,cE,tz,a8,aH,aU,cd,ah1,ah3,cQ,cc,cb,cH,cI,cP,cG,dH,gW,im,gC,ax,aK,aO,strs,Tm.kind,Tm.n,Tm.name,Tm.field,Tm.wn,Tm.wk,Tm.kids,Tm.names]
theorem He(s:aV)(H:ag)(hs:s.length<=1000000):aB A 95 [.str s] H=some (.tuple [.str (cM s).1,.str (cM s).2.1,.bool (cM s).2.2],none):=by
 refine ba (fn:=NM) rfl rfl rfl ?_
 unfold NM
 simp(disch:=omega)only[aM,aa,simprocAttr]
 refine bP s.length 0 (fun i=>Hd (fun T=>T 0=.str s/\T 5=.int .i64 i/\cM s=(s.take i++(cM (s.drop i)).1,(cM (s.drop i)).2.1,(cM (s.drop i)).2.2)) H H.length 0)
  (Hd (fun T=>T 0=.str s/\cM s=(s,[],false)) H H.length 0) (Hd (fun T=>T 2=.str (cM s).1/\T 3=.str (cM s).2.1/\T 4=.bool (cM s).2.2) H H.length 0) ?_ ?_ ?_ 0 _ (aiB _) ?_
 ·rintro i st hi iN
  obtain⟨T,rfl,h0,h5,hc⟩:=iN.out
  by_cases h:i<s.length
  ·have hx:=ahP h
   have hd:=aij h
   generalize s[i]=b at hx hd
   have Lj:b.toNat<256:=UInt8.toNat_lt b
   by_cases b46:b.toNat=46
   ·have e:cM (s.drop i)=([],s.drop (i+1),true):=by rw[hd,cM,if_pos b46]
    rw[e] at hc
    simp only[ain] at hc
    simp(disch:=omega)only[aM,aa,simprocAttr,h0,h5,hx,hc]
    rw[aiZ]
   ·have e:cM (s.drop i)=(b :: (cM (s.drop (i+1))).1,(cM (s.drop (i+1))).2.1,(cM (s.drop (i+1))).2.2):=by rw[hd,cM,if_neg b46]
    rw[e] at hc
    have FV:s.take (i+1)=s.take i++[b]:=by rw[ajw,hx];rfl
    simp(disch:=omega)only[aM,aa,simprocAttr,h0,h5,hx]
    exact⟨h,by rw[hc,FV];simp⟩
  ·have e:s.drop i=[]:=aiX (by omega)
   rw[e,cM,aiA (by omega)] at hc
   simp only[ain] at hc
   simp(disch:=omega)only[aM,aa,simprocAttr,h0,h5]
   exact hc
 ·rintro st iN
  obtain⟨T,rfl,h0,hc⟩:=iN.out
  simp(disch:=omega)only[aM,aa,simprocAttr,h0,hc]
 ·rintro st iN
  obtain⟨T,rfl,h2,h3,h4⟩:=iN.out
  simp(disch:=omega)only[aM,aa,simprocAttr,h2,h3,h4]
 ·simp(disch:=omega)only[aM,aa,simprocAttr,aiN,ai2,ajg]
theorem vk:∀ s:aV,(cM s).1.length<=s.length/\(cM s).2.1.length<=s.length
 | []=>⟨ahQ _,ahQ _⟩
 | b :: r=>by
  have:=vk r
  unfold cM
  split
  ·exact⟨by simp,by simp⟩
  ·exact⟨by simp only[List.length_cons];omega,by simp only[List.length_cons];omega⟩
theorem Om(s:aV)(H:ag)(hs:s.length<=1000000):aB A 91 [.str s] H=some (.bool (lT s),none):=by
 have hf:=He s H hs
 obtain⟨l1,l2⟩:=vk s
 refine ba (fn:=NI) rfl rfl rfl ?_
 unfold NI
 have w1:=nP (cM s).1 H (by omega)
 have w2:=nP (cM s).2.1 H (by omega)
 unfold lT
 cases h1:isWord (cM s).1<;>cases h2:(cM s).2.2<;>rw[h1] at w1<;>rw[h2] at hf<;>simp(disch:=omega)only[aM,aa,simprocAttr,hf,w1,w2,aiu,ais,aiW,aiH,ajD,ajL]
theorem po(s:aV)(H:ag)(hs:s.length<=1000000):aB A 60 [.str s] H=some (.slice (strs (cq s)) true,none):=by
 have hf:=He s H hs
 refine ba (fn:=Nx) rfl rfl rfl ?_
 unfold Nx
 unfold cq
 cases h2:(cM s).2.2<;>rw[h2] at hf<;>simp(disch:=omega)only[aM,aa,simprocAttr,hf,strs,ah1,ah3,ai3,reduceCtorEq,aj0,aiS]
theorem Oa(l:List aV)(H:ag)(hl:l.length<=1000000)(hs:∀ s∈l,s.length<=1000000):aB A 94 [.slice (strs l) false] H=some (.bool (l.all isWord),none):=by
 refine ba (fn:=NL) rfl rfl rfl ?_
 unfold NL
 simp(disch:=omega)only[aM,aa,simprocAttr]
 refine bP l.length 0 (fun i=>Hd (fun T=>T 0=.slice (strs l) false/\T 3=.int .i64 i/\l.all isWord=(l.drop i).all isWord) H H.length 0)
  (Hd (fun T=>l.all isWord=true) H H.length 0) (Hd (fun T=>T 2=.bool false/\l.all isWord=false) H H.length 0) ?_ ?_ ?_ 0 _ (aiB _) ?_
 ·rintro i st hi iN
  obtain⟨T,rfl,h0,h3,hc⟩:=iN.out
  by_cases h:i<l.length
  ·have hx:=ahP h
   have hd:=aij h
   have hm:=aiQ h
   generalize l[i]=b at hx hd hm
   have hw:=nP b H (by have:=hs b hm;omega)
   rw[hd,ajb] at hc
   have kE:=bB hx
   cases hb:isWord b<;>rw[hb] at hw hc
   ·simp(disch:=omega)only[aM,aa,simprocAttr,h0,h3,aJ,kE,hw]
    rw[hc];rfl
   ·simp(disch:=omega)only[aM,aa,simprocAttr,h0,h3,aJ,kE,hw]
    exact⟨h,by rw[hc,ais]⟩
  ·have e:l.drop i=[]:=aiX (by omega)
   rw[e,ake] at hc
   simp(disch:=omega)only[aM,aa,simprocAttr,h0,h3,aJ]
   exact hc
 ·rintro st iN
  obtain⟨T,rfl,hc⟩:=iN.out
  simp(disch:=omega)only[aM,aa,simprocAttr,hc]
 ·rintro st iN
  obtain⟨T,rfl,h2,hc⟩:=iN.out
  simp(disch:=omega)only[aM,aa,simprocAttr,h2,hc]
 ·simp(disch:=omega)only[aM,aa,simprocAttr,ai2]
theorem sP:∀ (h:Nat) (w:Wd) (H:ag),wP h w->aB A 57 [.agg (jK w)] H=some (.bool (bE w),none):=by
 have leaf:∀ (n:aV) (H:ag),n.length<=20->aB A 57 [.agg (jK (.mk n []))] H=some (.bool (bE (.mk n [])),none):=by
  intro n H hn
  have hq:=Om n H (by omega)
  refine ba (fn:=F3) rfl rfl rfl ?_
  unfold F3
  rw[jK,aO]
  by_cases h1:n=gE
  ·have e1:(n==[76,105,115,116])=true:=by simpa using h1
   simp(disch:=omega)only[aX,aa,simprocAttr,e1,bE,if_pos h1]
  have e1:(n==[76,105,115,116])=false:=by simpa using h1
  by_cases h2:n=C4
  ·have e2:(n==[73,110,116])=true:=by simpa using h2
   simp(disch:=omega)only[aX,aa,simprocAttr,e1,e2,bE,if_neg h1,ajL]
  have e2:(n==[73,110,116])=false:=by simpa using h2
  by_cases h3:n=tO
  ·have e3:(n==[66,111,111,108])=true:=by simpa using h3
   simp(disch:=omega)only[aX,aa,simprocAttr,e1,e2,e3,bE,if_neg h1,ajL,ajD]
  have e3:(n==[66,111,111,108])=false:=by simpa using h3
  simp(disch:=omega)only[aX,aa,simprocAttr,e1,e2,e3,hq,bE,if_neg h1,ajD]
 intro h
 induction h with
 | zero =>
  intro w H hw
  obtain⟨n,ks⟩:=w
  obtain⟨h1,h2⟩:=hw
  simp only[Wd.kids,Wd.name] at h1 h2
  subst h2
  exact leaf n H h1
 | succ h ih =>
  intro w H hw
  obtain⟨n,ks⟩:=w
  obtain⟨h1,h2,h3⟩:=hw
  simp only[Wd.kids,Wd.name] at h1 h2 h3
  match ks,h2,h3 with
  | [],_,_=>exact leaf n H h1
  | [k],_,h3 =>
   have hk:=ih k H (h3 k (by simp))
   rw[kR] at hk
   refine ba (fn:=F3) rfl rfl rfl ?_
   unfold F3
   rw[jK,aO,aO,kR]
   by_cases h1:n=gE
   ·have e1:(n==[76,105,115,116])=true:=by simpa using h1
    simp(disch:=omega)only[aX,aa,simprocAttr,e1,hk,bE,if_pos h1]
   ·have e1:(n==[76,105,115,116])=false:=by simpa using h1
    simp(disch:=omega)only[aX,aa,simprocAttr,e1,bE,if_neg h1]
theorem iJ(s:aV):(cq s).length<=3:=by unfold cq;split<;>simp
theorem iK:∀ (h:Nat) (w:Wd),wP h w->(dh w).length<=3*h+3
 | 0,.mk n ks,hw=>by
  obtain⟨_,h2⟩:=hw
  simp only[Wd.kids] at h2
  subst h2
  unfold dh
  have:=iJ n
  split
  ·simp
  ·omega
 | h+1,.mk n [],_=>by
  unfold dh
  have:=iJ n
  split
  ·simp
  ·omega
 | h+1,.mk n [k],hw=>by
  have hk:=iK h k (hw.2.2 k (by simp[Wd.kids]))
  have:=iJ n
  unfold dh
  split
  ·simp only[List.length_append,List.length_cons,ahX];omega
  ·split
   ·simp
   ·omega
 | h+1,.mk n (a :: b :: r),hw=>by
  have:=hw.2.1
  simp[Wd.kids] at this
theorem AE:∀ (h:Nat) (w:Wd) (H:ag),h<=1000->wP h w->bE w=true->aB A 31 [.agg (jK w)] H=some (.slice (strs (dh w)) true,none):=by
 have leaf:∀ (n:aV) (H:ag),n.length<=20->bE (.mk n [])=true->aB A 31 [.agg (jK (.mk n []))] H=some (.slice (strs (dh (.mk n []))) true,none):=by
  intro n H hn hp
  have hq:=po n H (by omega)
  have h1:n≠gE:=fun e=>by subst e;simp[bE] at hp
  have e1:(n==[76,105,115,116])=false:=by simpa using h1
  refine ba (fn:=F1) rfl rfl rfl ?_
  unfold F1
  rw[jK,aO]
  by_cases h2:n=C4
  ·have e2:(n==[73,110,116])=true:=by simpa using h2
   simp(disch:=omega)only[aX,aa,simprocAttr,e1,e2,dh,if_pos (Or.inl h2),strs,ah1,ah3]
  have e2:(n==[73,110,116])=false:=by simpa using h2
  by_cases h3:n=tO
  ·have e3:(n==[66,111,111,108])=true:=by simpa using h3
   simp(disch:=omega)only[aX,aa,simprocAttr,e1,e2,e3,dh,if_pos (Or.inr h3),strs,ah1,ah3]
  have e3:(n==[66,111,111,108])=false:=by simpa using h3
  simp(disch:=omega)only[aX,aa,simprocAttr,e1,e2,e3,hq,dh,if_neg (show ¬ (n=C4\/n=tO) from fun h=>h.elim h2 h3)]
 intro h
 induction h with
 | zero =>
  intro w H _ hw hp
  obtain⟨n,ks⟩:=w
  obtain⟨h1,h2⟩:=hw
  simp only[Wd.kids,Wd.name] at h1 h2
  subst h2
  exact leaf n H h1 hp
 | succ h ih =>
  intro w H hh hw hp
  obtain⟨n,ks⟩:=w
  obtain⟨h1,h2,h3⟩:=hw
  simp only[Wd.kids,Wd.name] at h1 h2 h3
  match ks,h2,h3,hp with
  | [],_,_,hp=>exact leaf n H h1 hp
  | [k],_,h3,hp =>
   have hl:n=gE:=by
    unfold bE at hp
    split at hp
    ·assumption
    ·cases hp
   have kU:bE k=true:=by
    unfold bE at hp
    rwa [if_pos hl] at hp
   have hk:=ih k H (by omega) (h3 k (by simp)) kU
   have hlen:=iK h k (h3 k (by simp))
   rw[kR] at hk
   have a1:an false 1 16 (.slice [[.str [76,105,115,116]],[.str [40]]] true) (.slice (strs (dh k)) true)=some (.slice (strs ([gE,[40]]++dh k)) true):=bG (l:=[gE,[40]]) (by simp;omega)
   have a2:an false 1 16 (.slice (strs ([gE,[40]]++dh k)) true) (.slice [[.str [41]]] true)=some (.slice (strs ([gE,[40]]++dh k++[[41]])) true):=dC (by simp;omega)
   have hw:dh (.mk n [k])=[gE,[40]]++dh k++[[41]]:=by rw[dh,if_pos hl]
   generalize [gE,[40]]++dh k=l1 at a1 a2 hw
   have e1:(n==[76,105,115,116])=true:=by simpa using hl
   refine ba (fn:=F1) rfl rfl rfl ?_
   unfold F1
   rw[jK,aO,aO,kR]
   simp(disch:=omega)only[aX,aa,simprocAttr,e1,hk,a1,a2,hw]
theorem OY{x:Int}(h0:¬ x<0)(h1:¬ 11<x):x=0\/x=1\/x=2\/x=3\/x=4\/x=5\/x=6\/x=7\/x=8\/x=9\/x=10\/x=11:=by omega
theorem Av(n:Int)(H:ag):aB A 63 [.int .i64 n] H=some (.tuple [.str (fm n).1,.int .i64 (fm n).2],none):=by
 refine ba (fn:=NA) rfl rfl rfl ?_
 unfold NA
 by_cases h0:n<0
 ·have e:fm n=([],0):=by unfold fm;rw[if_pos (Or.inl h0)]
  simp(disch:=omega)only[aX,aa,simprocAttr,h0,e]
 by_cases h1:11<n
 ·have e:fm n=([],0):=by unfold fm;rw[if_pos (Or.inr h1)]
  simp(disch:=omega)only[aX,aa,simprocAttr,h0,h1,e]
 rcases OY h0 h1 with rfl|rfl|rfl|rfl|rfl|rfl|rfl|rfl|rfl|rfl|rfl|rfl
 all_goals
  simp(disch:=omega)only[aX,aa,simprocAttr]
  rfl
def dc(t:Tm):Int:=if t.kind=5\/t.kind=6\/t.kind=12 then 0 else if t.kind=4 then (fm t.n).2 else 8
theorem R7(t:Tm)(H:ag):aB A 96 [.agg (gd t)] H=some (.int .i64 (dc t),none):=by
 have hs:=Av t.n H
 refine ba (fn:=NO) rfl rfl rfl ?_
 unfold NO
 rw[ax]
 by_cases h5:t.kind=5
 ·simp(disch:=omega)only[aX,aa,simprocAttr,h5,dc,true_or,ai3]
 by_cases h6:t.kind=6
 ·simp(disch:=omega)only[aX,aa,simprocAttr,h5,h6,dc,true_or,or_true,ai3]
 by_cases Ua:t.kind=12
 ·simp(disch:=omega)only[aX,aa,simprocAttr,h5,h6,Ua,dc,true_or,or_true,ai3]
 have hn:¬ (t.kind=5\/t.kind=6\/t.kind=12):=by omega
 by_cases h4:t.kind=4
 ·have e:dc t=(fm t.n).2:=by unfold dc;rw[if_neg hn,if_pos h4]
  simp(disch:=omega)only[aX,aa,simprocAttr,h4,hs,e]
 ·have e:dc t=8:=by unfold dc;rw[if_neg hn,if_neg h4]
  simp(disch:=omega)only[aX,aa,simprocAttr,h5,h6,Ua,h4,e]
theorem F6(k:Int):k=0\/k=1\/k=2\/k=3\/k=4\/k=5\/k=6\/k=7\/k=8\/k=9\/k=10\/k=11\/k=12\/(k<0\/12<k):=by omega
theorem KF(t:Tm)(H:ag)(hl:t.kids.length<=1000):aB A 93 [.agg (gd t)] H=some (.tuple [.int .i64 (bN t.kind t.n t.kids.length).1,.int .i64 (bN t.kind t.n t.kids.length).2],none):=by
 have hs:=Av t.n H
 refine ba (fn:=NK) rfl rfl rfl ?_
 unfold NK
 rw[ax]
 rcases F6 t.kind with h|h|h|h|h|h|h|h|h|h|h|h|h|h
 ·rw[h];simp(disch:=omega)only[aX,aa,simprocAttr,b8];rfl
 ·rw[h];simp(disch:=omega)only[aX,aa,simprocAttr,b8];rfl
 ·rw[h];simp(disch:=omega)only[aX,aa,simprocAttr,b8];rfl
 ·rw[h];simp(disch:=omega)only[aX,aa,simprocAttr,b8];rfl
 ·rw[h]
  by_cases h1:(fm t.n).1=[]
  ·have e1:((fm t.n).1==[])=true:=by rw[h1];rfl
   have e:bN 4 t.n t.kids.length=(-2,0):=by simp[bN,h1]
   rw[e]
   simp(disch:=omega)only[aX,aa,simprocAttr,b8,hs,e1]
  ·have e1:((fm t.n).1==[])=false:=by simpa using h1
   by_cases h2:(fm t.n).2=7
   ·have e:bN 4 t.n t.kids.length=(1,0):=by simp[bN,h1,h2]
    rw[e]
    simp(disch:=omega)only[aX,aa,simprocAttr,b8,hs,e1,h2]
   ·have e:bN 4 t.n t.kids.length=(2,0):=by simp[bN,h1,h2]
    rw[e]
    simp(disch:=omega)only[aX,aa,simprocAttr,b8,hs,e1,h2]
 ·rw[h];simp(disch:=omega)only[aX,aa,simprocAttr,b8];rfl
 ·rw[h];simp(disch:=omega)only[aX,aa,simprocAttr,b8];rfl
 ·rw[h];simp(disch:=omega)only[aX,aa,simprocAttr,b8];rfl
 ·rw[h];simp(disch:=omega)only[aX,aa,simprocAttr,b8];rfl
 ·rw[h];simp(disch:=omega)only[aX,aa,simprocAttr,b8];rfl
 ·rw[h]
  by_cases h1:t.kids.length<2
  ·have e:bN 10 t.n t.kids.length=(-2,0):=by simp[bN,h1]
   rw[e]
   simp(disch:=omega)only[aX,aa,simprocAttr,b8]
  ·have e:bN 10 t.n t.kids.length=(-1,2*((t.kids.length:Int)-1)):=by simp[bN,h1]
   rw[e]
   simp(disch:=omega)only[aX,aa,simprocAttr,b8]
 ·rw[h];simp(disch:=omega)only[aX,aa,simprocAttr,b8];rfl
 ·rw[h];simp(disch:=omega)only[aX,aa,simprocAttr,b8];rfl
 ·have e:bN t.kind t.n t.kids.length=(-2,0):=by
   unfold bN
   repeat rw[if_neg (by omega)]
  rw[e]
  simp(disch:=omega)only[aX,aa,simprocAttr,b8]
def VE:List aV:=[[],[32],[10],[32,32],[35,32,97,32,40,98,10],[32,35,10,32],[10,10],[35,255,35,32,49,10]]
def Vg:List aV:=[[10],[32,10],[35,32,120,10],[32,32,35,32,121,32,40,10]]
def Whole(s:aV):Prop:=∀ r,bA false (s++r)=s.length+bA false r
theorem yQ:Whole []:=by intro r;simp
theorem Whole.append{a b:aV}(ha:Whole a)(hb:Whole b):Whole (a++b):=by
 intro r
 rw[ajf,ha,hb,List.length_append,ajp]
theorem wN:Whole [32]:=by intro r;simp[bA]
theorem Pg:Whole [10]:=by intro r;simp[bA]
theorem wM:∀ s∈VE,Whole s:=by
 intro s hs r
 simp only[VE,aii,ajz,akw] at hs
 rcases hs with rfl|rfl|rfl|rfl|rfl|rfl|rfl|rfl<;>simp[bA]<;>omega
theorem qB:∀ s∈Vg,Whole s/\s≠[]/\s.length<=20:=by
 intro s hs
 simp only[Vg,aii,ajz,akw] at hs
 rcases hs with rfl|rfl|rfl|rfl<;>refine⟨fun r=>?_,by decide,by decide⟩<;>simp[bA]<;>omega
structure tS (l:List aV):Prop where
 w:∀ x∈l,Whole x/\x.length<=20
 g:∀ i,i+1<l.length->l.getD (i+1) []≠[]
theorem tS.one{b:aV}(h:Whole b)(hl:b.length<=20):tS [b]:=⟨by simp[h,hl],fun i hi=>by simp at hi⟩
theorem tS.snoc{l:List aV}{g:aV}(h:tS l)(hw:Whole g)(hl:g.length<=20)(hg:g≠[]):tS (l++[g]):=by
 refine⟨fun x hx=>?_,fun i hi=>?_⟩
 ·rcases ahS.1 hx with hx|hx
  ·exact h.w x hx
  ·rw[ah4.1 hx];exact⟨hw,hl⟩
 ·by_cases uw:i+1<l.length
  ·have:=h.g i uw
   rw[List.getD,ah6 uw]
   exact this
  ·have e:i+1=l.length:=by simp at hi;omega
   rw[List.getD,e,List.getElem?_concat_length]
   exact hg
theorem La{j:Nat}(h:j<8):∃ s:aV,(s.length<=7/\s∈VE) /\
  ([[.str []],[.str [32]],[.str [10]],[.str [32,32]],[.str [35,32,97,32,40,98,10]],[.str [32,35,10,32]],[.str [10,10]],[.str [35,255,35,32,49,10]]]:List (List AV))[j]?=some [.str s]:=by
 have hj:j=0\/j=1\/j=2\/j=3\/j=4\/j=5\/j=6\/j=7:=by omega
 rcases hj with rfl|rfl|rfl|rfl|rfl|rfl|rfl|rfl<;>exact⟨_,by decide,rfl⟩
theorem aaQ{x:Int}(h0:0<=x)(h1:x<8):∃ j:Nat,j<8/\x=j:=⟨x.toNat,by omega,by omega⟩
theorem T8(n k:Int)(H:ag)(hn:AG n):∃ s:aV,(s.length<=20/\Whole s/\(k≠0->s≠[]))/\aB A 21 [.int .i64 n,.int .i64 k] H=some (.str s,none):=by
 have hr:=iC (n:=n) (k:=1000000) (by omega)
 have ha:=mK n 1000000 H hn (by omega)
 generalize kH n 1000000=x at hr ha
 obtain⟨i,hi,ei⟩:=aaQ (x:=x % 8) (by omega) (by omega)
 obtain⟨j,hj,ej⟩:=aaQ (x:=x / 8 % 8) (by omega) (by omega)
 obtain⟨s,⟨hs,hsg⟩,YN⟩:=La hi
 have hsw:=wM s hsg
 obtain⟨u,⟨hu,hug⟩,YO⟩:=La hj
 have huw:=wM u hug
 have key:∃ r,aB A 21 [.int .i64 n,.int .i64 k] H=some r/\∃ s:aV,(s.length<=20/\Whole s/\(k≠0->s≠[]))/\r=(.str s,none):=by
  refine Kz (fn:=Nl) rfl rfl rfl ?_
  unfold Nl
  by_cases h3:x % 3=0
  ·obtain⟨v,hv⟩:∃ v,v=s++u:=⟨_,rfl⟩
   have Wl:v.length<=14:=by rw[hv];simp;omega
   cases hb:(v==[]) with
   | false =>
    have hvn:v≠[]:=by simpa using hb
    rw[hv] at hb
    simp(disch:=omega)only[aX,aa,simprocAttr,ha,gT,nM,ei,ej,YN,YO,h3,hb]
    exact⟨_,⟨by rw[<- hv];omega,hsw.append huw,fun _=>by rw[<- hv];exact hvn⟩,rfl⟩
   | true =>
    rw[hv] at hb
    by_cases hk:k=0
    ·simp(disch:=omega)only[aX,aa,Nat.reduceEqDiff,Nat.reduceBEq,Nat.reduceAdd,Nat.reduceMul,reduceCtorEq,↓reduceIte,Nat.reduceLeDiff,Int.reduceEq,Int.reduceLT,Int.reduceLE,Int.reduceBEq,Int.reduceBNe,Int.reduceAdd,Int.reduceNeg,Int.reduceSub,Int.reduceMul,ha,gT,nM,ei,ej,YN,YO,h3,hb,hk]
     exact⟨_,⟨by rw[<- hv];omega,hsw.append huw,fun h=>(h rfl).elim⟩,rfl⟩
    ·simp(disch:=omega)only[aX,aa,simprocAttr,ha,gT,nM,ei,ej,YN,YO,h3,hb,hk]
     exact⟨[32],⟨by decide,wN,fun _=>by decide⟩,rfl⟩
  ·cases hb:(s==[]) with
   | false =>
    have x7:s≠[]:=by simpa using hb
    simp(disch:=omega)only[aX,aa,simprocAttr,ha,gT,nM,ei,ej,YN,YO,h3,hb]
    exact⟨s,⟨by omega,hsw,fun _=>x7⟩,rfl⟩
   | true =>
    by_cases hk:k=0
    ·simp(disch:=omega)only[aX,aa,Nat.reduceEqDiff,Nat.reduceBEq,Nat.reduceAdd,Nat.reduceMul,reduceCtorEq,↓reduceIte,Nat.reduceLeDiff,Int.reduceEq,Int.reduceLT,Int.reduceLE,Int.reduceBEq,Int.reduceBNe,Int.reduceAdd,Int.reduceNeg,Int.reduceSub,Int.reduceMul,ha,gT,nM,ei,ej,YN,YO,h3,hb,hk]
     exact⟨s,⟨by omega,hsw,fun h=>(h rfl).elim⟩,rfl⟩
    ·simp(disch:=omega)only[aX,aa,simprocAttr,ha,gT,nM,ei,ej,YN,YO,h3,hb,hk]
     exact⟨[32],⟨by decide,wN,fun _=>by decide⟩,rfl⟩
 obtain⟨r,h1,s,h2,rfl⟩:=key
 exact⟨s,h2,h1⟩
theorem Vh{j:Nat}(h:j<4):∃ s:aV,s∈Vg/\([[.str [10]],[.str [32,10]],[.str [35,32,120,10]],[.str [32,32,35,32,121,32,40,10]]]:List (List AV))[j]?=some [.str s]:=by
 have hj:j=0\/j=1\/j=2\/j=3:=by omega
 rcases hj with rfl|rfl|rfl|rfl<;>exact⟨_,by decide,rfl⟩
theorem x8{x:Int}(h0:0<=x)(h1:x<1000000):AG x:=⟨by omega,by omega⟩
theorem N0{c:Cc}{p:Int}{H:ag}(h:CH c p H)(n:Nat)(hn:n<=100000)(b:aV)(hw:Whole b)(hb:b.length<=20) :
  ∃ (out:List aV) (p' : Int),out.length=max n 1+1/\tS out/\aB A 20 [.ref c.mm 0,.int .i64 n,.str b] H=some (.slice (strs out) true,some ⟨bY c p' H,c.mm⟩):=by
 have key:∃ r,aB A 20 [.ref c.mm 0,.int .i64 n,.str b] H=some r/\∃ (out:List aV) (p' : Int),out.length=max n 1+1/\tS out/\r=(.slice (strs out) true,some ⟨bY c p' H,c.mm⟩):=by
  have aZ:=h.lt
  refine la (fn:=Nk) rfl rfl rfl rfl ?_
  unfold Nk
  simp(disch:=omega)only[aX,aa,simprocAttr]
  refine bP (n-1) 0 (fun i s=>∃ T G lo p3 acc,s=⟨T,G,lo,0⟩/\(G=H/\lo=H.length/\i=0\/G=bY c p3 H/\lo=c.mm)/\T 0=.ref c.mm 0/\T 1=.int .i64 n/\T 7=.slice (strs acc) true/\T 8=.int .i64 (i+1)/\acc.length=i+1/\tS acc)
   (fun s=>∃ T G lo p3 acc,s=⟨T,G,lo,0⟩/\(G=H/\lo=H.length\/G=bY c p3 H/\lo=c.mm)/\T 0=.ref c.mm 0/\T 7=.slice (strs acc) true/\acc.length=max n 1/\tS acc) (fun _=>False) ?_ ?_ (fun _ h=>h.elim) 0 _ (by omega) ?_
  ·rintro i s hi ⟨T,G,lo,p3,acc,rfl,hG,e0,e1,e7,e8,hl,hbd⟩
   by_cases hc:i+1<n
   ·have dj:∃ x p4,0<=x/\x<1000/\aB A 19 [.ref c.mm 0,.int .i64 1000] G=some (.int .i64 x,some ⟨bY c p4 H,c.mm⟩):=by
     rcases hG with ⟨rfl,rfl,rfl⟩|⟨rfl,rfl⟩
     ·exact jo h 1000 (by omega)
     ·obtain⟨x,p4,x0,x1,hx⟩:=jo (h.set (p':=p3)) 1000 (by omega)
      rw[aL] at hx
      exact⟨x,p4,x0,x1,hx⟩
    obtain⟨x,p4,x0,x1,dj⟩:=dj
    obtain⟨g,⟨hg,hgw,hgn⟩,acY⟩:=T8 x 1 (bY c p4 H) (x8 x0 (by omega))
    have B1:an false 1 16 (.slice (strs acc) true) (.slice [[.str g]] true)=some (.slice (strs (acc++[g])) true):=dC (by omega)
    have wQ:(bif decide (c.mm<lo) then c.mm else lo)=c.mm:=by
     rcases hG with ⟨_,rfl,_⟩|⟨_,rfl⟩
     ·rw[decide_eq_true aZ];rfl
     ·simp
    simp(disch:=omega)only[aX,aa,simprocAttr,e0,e1,e7,e8,dj,acY,B1,wQ]
    refine⟨by omega,_,_,_,p4,acc++[g],rfl,.inr ⟨rfl,rfl⟩,by simp(disch:=omega)only[aM,aa,simprocAttr,e0],by simp(disch:=omega)only[aM,aa,simprocAttr,e1],by simp(disch:=omega)only[aM,aa,simprocAttr],by simp(disch:=omega)only[aM,aa,simprocAttr],by simp[hl],hbd.snoc hgw hg (hgn (by decide))⟩
   ·simp(disch:=omega)only[aX,aa,simprocAttr,e0,e1,e7,e8]
    refine⟨_,G,lo,p3,acc,rfl,?_,e0,e7,by omega,hbd⟩
    rcases hG with ⟨h1,h2,_⟩|h1
    ·exact .inl ⟨h1,h2⟩
    ·exact .inr h1
  ·rintro s ⟨T,G,lo,p3,acc,rfl,hG,e0,e7,hl,hbd⟩
   have dj:∃ x p4,0<=x/\x<4/\aB A 19 [.ref c.mm 0,.int .i64 4] G=some (.int .i64 x,some ⟨bY c p4 H,c.mm⟩):=by
    rcases hG with ⟨rfl,rfl⟩|⟨rfl,rfl⟩
    ·exact jo h 4 (by omega)
    ·obtain⟨x,p4,x0,x1,hx⟩:=jo (h.set (p':=p3)) 4 (by omega)
     rw[aL] at hx
     exact⟨x,p4,x0,x1,hx⟩
   obtain⟨x,p4,x0,x1,dj⟩:=dj
   obtain⟨j,hj,rfl⟩:∃ j:Nat,j<4/\x=j:=⟨x.toNat,by omega,by omega⟩
   obtain⟨e,he,ate⟩:=Vh hj
   have B1:an false 1 16 (.slice (strs acc) true) (.slice [[.str e]] true)=some (.slice (strs (acc++[e])) true):=dC (by omega)
   have wQ:(bif decide (c.mm<lo) then c.mm else lo)=c.mm:=by
    rcases hG with ⟨_,rfl⟩|⟨_,rfl⟩
    ·rw[decide_eq_true aZ];rfl
    ·simp
   have cE:=h.fU (p':=p4)
   simp(disch:=omega)only[aX,aa,simprocAttr,e0,e7,dj,ate,B1,wQ,cE,aH,aU,Xy]
   refine⟨acc++[e],p4,by simp[hl],hbd.snoc (qB e he).1 (qB e he).2.2 (qB e he).2.1,rfl,rfl⟩
  ·refine⟨_,H,H.length,0,[b],rfl,.inl ⟨rfl,rfl,rfl⟩,?_⟩
   simp(disch:=omega)only[aM,aa,simprocAttr,strs,ah1,ah3]
   exact tS.one hw hb
 obtain⟨r,h1,out,p',h2,h3,rfl⟩:=key
 exact⟨out,p',h2,h3,h1⟩
structure GZ (h:Nat) (t:Tm):Prop where
 n:-2199023255552<=t.n/\t.n<=2199023255552
 k:-100<=t.kind/\t.kind<=100
 a:t.name.length<=20
 f:t.field.length<=20
 w:wP 3 (.mk t.wn t.wk)
 kl:t.kids.length<=3
 kb:∀ u∈t.kids,J' h u
 nl:t.names.length<=8
 nb:∀ s∈t.names,s.length<=20
theorem J'.out{h:Nat}{t:Tm}(hb:J' (h+1) t):GZ h t:=by
 cases hb with
 | mk h k n a f wn wk ks ns h1 hk h2 h3 h4 h5 h6=>exact⟨h1,hk,h2.1,h2.2,h3,h4,h5,h6.1,h6.2⟩
def AR(t:Tm)(H:ag)(s:AS):Prop:=∃ T,s=⟨T,H,H.length,1⟩/\T 1=.lbox 0 [.int .i64 t.kind,.int .i64 t.n,.str t.name,.str t.field,.str t.wn,.slice (aO t.wk) false,.slice (aK t.kids) false,.slice (strs t.names) false]
abbrev gp(H:ag)(b:Bool):bw->AS->Prop:=done H.length [.tmp 2] (.bool b,none)
theorem abG{t:Tm}{h:Nat}(hb:GZ h t){H:ag}(hf:mL t=true->bD t=false) :
  W A (oJ.body.pre 2) { T:=gl [.agg (gd t)],H,lo:=H.length,gen:=0 } (andThen (fun s'=>AR t H s'/\mL t=false) (gp H (bD t))):=by
 have hc:=KF t H (by have:=hb.kl;omega)
 have hn:=Oa t.names H (by have:=hb.nl;omega) (fun s hs=>by have:=hb.nb s hs;omega)
 unfold mL at hf ⊢
 unfold AR
 rw[ax] at hc ⊢
 generalize bD t=pr at hf ⊢
 generalize (bN t.kind t.n t.kids.length).1=c1 at hc hf ⊢
 generalize (bN t.kind t.n t.kids.length).2=c2 at hc hf ⊢
 generalize t.names.all isWord=aw at hn hf ⊢
 have uc:=hb.kl
 have n7:=hb.nl
 unfold oJ
 simp only[a7.pre]
 unfold ki at hf ⊢
 by_cases a1:c1=-2
 ·have e:=hf (by simp[a1])
  simp(disch:=omega)only[aX,aa,simprocAttr,hc,a1,e,gp]
 by_cases a2:0<=c1
 ·by_cases a3:(t.kids.length:Int)=c1
  ·by_cases a4:(t.names.length:Int)=c2
   ·cases aw with
    | false =>
     have e:=hf (by simp)
     simp(disch:=omega)only[aX,aa,simprocAttr,hc,b8,aJ,a3,a4,hn,e,gp]
    | true =>
     simp(disch:=omega)only[aX,aa,simprocAttr,hc,b8,aJ,a3,a4,hn,gp]
     exact⟨⟨_,rfl,by simp(disch:=omega)only[aM,aa,simprocAttr]⟩,by simp[a1,a3,a4]⟩
   ·have e:=hf (by simp[a4])
    simp(disch:=omega)only[aX,aa,simprocAttr,hc,b8,aJ,a3,a4,e,gp]
  ·have e:=hf (by simp[a2,a3])
   simp(disch:=omega)only[aX,aa,simprocAttr,hc,b8,aJ,a3,e,gp]
 ·by_cases a4:(t.names.length:Int)=c2
  ·cases aw with
   | false =>
    have e:=hf (by simp)
    simp(disch:=omega)only[aX,aa,simprocAttr,hc,b8,aJ,a2,a4,hn,e,gp]
   | true =>
    simp(disch:=omega)only[aX,aa,simprocAttr,hc,b8,aJ,a2,a4,hn,gp]
    exact⟨⟨_,rfl,by simp(disch:=omega)only[aM,aa,simprocAttr]⟩,by simp[a1,a2,a4]⟩
  ·have e:=hf (by simp[a4])
   simp(disch:=omega)only[aX,aa,simprocAttr,hc,b8,aJ,a2,a4,e,gp]
theorem abH{t:Tm}{h:Nat}(hb:GZ h t){H:ag}(hf:nv t=true->bD t=false)(s:AS)(hs:AR t H s) :
  W A ((oJ.body.post 2).pre 1) s (andThen (fun s'=>AR t H s'/\nv t=false) (gp H (bD t))):=by
 obtain⟨T,rfl,e1⟩:=hs
 unfold nv at hf ⊢
 unfold AR
 generalize bD t=pr at hf ⊢
 have hq:=Om t.name H (by have:=hb.a;omega)
 have hw:=nP t.name H (by have:=hb.a;omega)
 generalize lT t.name=q at hq hf ⊢
 generalize isWord t.name=w at hw hf ⊢
 unfold oJ
 simp only[a7.pre,a7.post]
 by_cases ty:t.kind=3\/t.kind=7\/t.kind=8\/t.kind=9\/t.kind=10
 ·have et:gA t.kind=true:=decide_eq_true ty
  rw[et] at hf ⊢
  rcases ty with ty|ty|ty|ty|ty
  all_goals
   cases q with
   | false =>
    have e:=hf rfl
    simp(disch:=omega)only[aX,aa,simprocAttr,e1,ty,hq,e,gp]
   | true =>
    simp(disch:=omega)only[aX,aa,simprocAttr,e1,ty,hq,gp]
    exact⟨_,rfl,by first|(simp(disch:=omega)only[aM,aa,simprocAttr,e1];done)|(simp(disch:=omega)only[aM,aa,simprocAttr,e1,ty];done)|(simp(disch:=omega)only[aM,aa,simprocAttr,e1,k2];done)|(simp(disch:=omega)only[aM,aa,simprocAttr,e1,k0];done)|(simp(disch:=omega)only[aM,aa,simprocAttr,e1,k1];done)|(simp(disch:=omega)only[aM,aa,simprocAttr,e1,kk];done)⟩
 ·have et:gA t.kind=false:=aiT ty
  rw[et] at hf ⊢
  by_cases k2:t.kind=2
  ·rw[decide_eq_true k2] at hf ⊢
   cases w with
   | false =>
    have e:=hf rfl
    simp(disch:=omega)only[aX,aa,simprocAttr,e1,k2,hw,e,gp]
   | true =>
    simp(disch:=omega)only[aX,aa,simprocAttr,e1,k2,hw,gp]
    exact⟨_,rfl,by first|(simp(disch:=omega)only[aM,aa,simprocAttr,e1];done)|(simp(disch:=omega)only[aM,aa,simprocAttr,e1,ty];done)|(simp(disch:=omega)only[aM,aa,simprocAttr,e1,k2];done)|(simp(disch:=omega)only[aM,aa,simprocAttr,e1,k0];done)|(simp(disch:=omega)only[aM,aa,simprocAttr,e1,k1];done)|(simp(disch:=omega)only[aM,aa,simprocAttr,e1,kk];done)⟩
  ·rw[aiT k2] at hf ⊢
   by_cases na:t.name=[]
   ·have en:(t.name==[])=true:=by rw[na];rfl
    simp(disch:=omega)only[aX,aa,simprocAttr,e1,k2,en,bne,gp]
    exact⟨⟨_,rfl,by first|(simp(disch:=omega)only[aM,aa,simprocAttr,e1];done)|(simp(disch:=omega)only[aM,aa,simprocAttr,e1,ty];done)|(simp(disch:=omega)only[aM,aa,simprocAttr,e1,k2];done)|(simp(disch:=omega)only[aM,aa,simprocAttr,e1,k0];done)|(simp(disch:=omega)only[aM,aa,simprocAttr,e1,k1];done)|(simp(disch:=omega)only[aM,aa,simprocAttr,e1,kk];done)⟩,by simp[na]⟩
   ·have en:(t.name==[])=false:=by simpa using na
    have e:=hf (by simp[na])
    simp(disch:=omega)only[aX,aa,simprocAttr,e1,k2,en,bne,e,gp]
theorem abI{t:Tm}{h:Nat}(hb:GZ h t){H:ag}(hf:nY t=true->bD t=false)(s:AS)(hs:AR t H s) :
  W A (((oJ.body.post 2).post 1).pre 1) s (andThen (fun s'=>AR t H s'/\nY t=false) (gp H (bD t))):=by
 obtain⟨T,rfl,e1⟩:=hs
 unfold nY at hf ⊢
 unfold AR
 generalize bD t=pr at hf ⊢
 have hw:=nP t.field H (by have:=hb.f;omega)
 generalize isWord t.field=w at hw hf ⊢
 unfold oJ
 simp only[a7.pre,a7.post]
 by_cases ty:t.kind=8\/t.kind=9
 ·rw[decide_eq_true ty] at hf ⊢
  rcases ty with ty|ty
  all_goals
   cases w with
   | false =>
    have e:=hf rfl
    simp(disch:=omega)only[aX,aa,simprocAttr,e1,ty,hw,e,gp]
   | true =>
    simp(disch:=omega)only[aX,aa,simprocAttr,e1,ty,hw,gp]
    exact⟨_,rfl,by first|(simp(disch:=omega)only[aM,aa,simprocAttr,e1];done)|(simp(disch:=omega)only[aM,aa,simprocAttr,e1,ty];done)|(simp(disch:=omega)only[aM,aa,simprocAttr,e1,k2];done)|(simp(disch:=omega)only[aM,aa,simprocAttr,e1,k0];done)|(simp(disch:=omega)only[aM,aa,simprocAttr,e1,k1];done)|(simp(disch:=omega)only[aM,aa,simprocAttr,e1,kk];done)⟩
 ·rw[aiT ty] at hf ⊢
  by_cases na:t.field=[]
  ·have en:(t.field==[])=true:=by rw[na];rfl
   simp(disch:=omega)only[aX,aa,simprocAttr,e1,en,bne,gp]
   exact⟨⟨_,rfl,by first|(simp(disch:=omega)only[aM,aa,simprocAttr,e1];done)|(simp(disch:=omega)only[aM,aa,simprocAttr,e1,ty];done)|(simp(disch:=omega)only[aM,aa,simprocAttr,e1,k2];done)|(simp(disch:=omega)only[aM,aa,simprocAttr,e1,k0];done)|(simp(disch:=omega)only[aM,aa,simprocAttr,e1,k1];done)|(simp(disch:=omega)only[aM,aa,simprocAttr,e1,kk];done)⟩,by simp[na]⟩
  ·have en:(t.field==[])=false:=by simpa using na
   have e:=hf (by simp[na])
   simp(disch:=omega)only[aX,aa,simprocAttr,e1,en,bne,e,gp]
theorem abJ{t:Tm}{h:Nat}(hb:GZ h t){H:ag}(hf:nw t=true->bD t=false)(s:AS)(hs:AR t H s) :
  W A ((((oJ.body.post 2).post 1).post 1).pre 0) s (andThen (fun s'=>AR t H s'/\nw t=false) (gp H (bD t))):=by
 obtain⟨T,rfl,e1⟩:=hs
 unfold nw at hf ⊢
 unfold AR
 generalize bD t=pr at hf ⊢
 have hw:aB A 57 [.agg [.str t.wn,.slice (aO t.wk) false]] H=some (.bool (bE (.mk t.wn t.wk)),none):=by
  have:=sP 3 (.mk t.wn t.wk) H hb.w
  rwa [jK] at this
 have hwk:t.wk.length<=1:=hb.w.2.1
 generalize bE (.mk t.wn t.wk)=w at hw hf ⊢
 unfold oJ
 simp only[a7.pre,a7.post]
 by_cases ty:t.kind=11
 ·rw[decide_eq_true ty] at hf ⊢
  cases w with
  | false =>
   have e:=hf rfl
   simp(disch:=omega)only[aX,aa,simprocAttr,e1,ty,hw,e,gp]
  | true =>
   simp(disch:=omega)only[aX,aa,simprocAttr,e1,ty,hw,gp]
   exact⟨_,rfl,by first|(simp(disch:=omega)only[aM,aa,simprocAttr,e1];done)|(simp(disch:=omega)only[aM,aa,simprocAttr,e1,ty];done)|(simp(disch:=omega)only[aM,aa,simprocAttr,e1,k2];done)|(simp(disch:=omega)only[aM,aa,simprocAttr,e1,k0];done)|(simp(disch:=omega)only[aM,aa,simprocAttr,e1,k1];done)|(simp(disch:=omega)only[aM,aa,simprocAttr,e1,kk];done)⟩
 ·rw[aiT ty] at hf ⊢
  by_cases na:t.wn=[]
  ·have en:(t.wn==[])=true:=by rw[na];rfl
   by_cases nk:0<t.wk.length
   ·have e:=hf (by simp[nk])
    simp(disch:=omega)only[aX,aa,simprocAttr,e1,ty,en,bne,qC,e,gp]
   ·simp(disch:=omega)only[aX,aa,simprocAttr,e1,ty,en,bne,qC,gp]
    exact⟨⟨_,rfl,by first|(simp(disch:=omega)only[aM,aa,simprocAttr,e1];done)|(simp(disch:=omega)only[aM,aa,simprocAttr,e1,ty];done)|(simp(disch:=omega)only[aM,aa,simprocAttr,e1,k2];done)|(simp(disch:=omega)only[aM,aa,simprocAttr,e1,k0];done)|(simp(disch:=omega)only[aM,aa,simprocAttr,e1,k1];done)|(simp(disch:=omega)only[aM,aa,simprocAttr,e1,kk];done)⟩,by simp[na,nk]⟩
  ·have en:(t.wn==[])=false:=by simpa using na
   have e:=hf (by simp[na])
   simp(disch:=omega)only[aX,aa,simprocAttr,e1,ty,en,bne,e,gp]
theorem abK{t:Tm}{h:Nat}(hb:GZ h t){H:ag}(hf:mM t=true->bD t=false)(s:AS)(hs:AR t H s) :
  W A (((((oJ.body.post 2).post 1).post 1).post 0).pre 0) s (andThen (fun s'=>AR t H s'/\mM t=false) (gp H (bD t))):=by
 obtain⟨T,rfl,e1⟩:=hs
 unfold mM at hf ⊢
 unfold AR
 generalize bD t=pr at hf ⊢
 have hn:=hb.n
 unfold oJ
 simp only[a7.pre,a7.post]
 by_cases k0:t.kind=0
 ·rw[decide_eq_true k0] at hf ⊢
  by_cases a1:t.n < -1099511627776
  ·have e:=hf (by simp[a1])
   simp(disch:=omega)only[aX,aa,simprocAttr,e1,k0,e,gp]
  by_cases a2:1099511627776<t.n
  ·have e:=hf (by simp[a2])
   simp(disch:=omega)only[aX,aa,simprocAttr,e1,k0,e,gp]
  ·simp(disch:=omega)only[aX,aa,simprocAttr,e1,k0,gp]
   exact⟨⟨_,rfl,by first|(simp(disch:=omega)only[aM,aa,simprocAttr,e1];done)|(simp(disch:=omega)only[aM,aa,simprocAttr,e1,ty];done)|(simp(disch:=omega)only[aM,aa,simprocAttr,e1,k2];done)|(simp(disch:=omega)only[aM,aa,simprocAttr,e1,k0];done)|(simp(disch:=omega)only[aM,aa,simprocAttr,e1,k1];done)|(simp(disch:=omega)only[aM,aa,simprocAttr,e1,kk];done)⟩,by simp;omega⟩
 rw[aiT k0] at hf ⊢
 by_cases k1:t.kind=1
 ·rw[decide_eq_true k1] at hf ⊢
  by_cases a0:t.n=0
  ·simp(disch:=omega)only[aX,aa,simprocAttr,e1,k1,gp]
   exact⟨⟨_,rfl,by first|(simp(disch:=omega)only[aM,aa,simprocAttr,e1];done)|(simp(disch:=omega)only[aM,aa,simprocAttr,e1,ty];done)|(simp(disch:=omega)only[aM,aa,simprocAttr,e1,k2];done)|(simp(disch:=omega)only[aM,aa,simprocAttr,e1,k0];done)|(simp(disch:=omega)only[aM,aa,simprocAttr,e1,k1];done)|(simp(disch:=omega)only[aM,aa,simprocAttr,e1,kk];done)⟩,by simp[a0]⟩
  by_cases a1:t.n=1
  ·simp(disch:=omega)only[aX,aa,simprocAttr,e1,k1,gp]
   exact⟨⟨_,rfl,by first|(simp(disch:=omega)only[aM,aa,simprocAttr,e1];done)|(simp(disch:=omega)only[aM,aa,simprocAttr,e1,ty];done)|(simp(disch:=omega)only[aM,aa,simprocAttr,e1,k2];done)|(simp(disch:=omega)only[aM,aa,simprocAttr,e1,k0];done)|(simp(disch:=omega)only[aM,aa,simprocAttr,e1,k1];done)|(simp(disch:=omega)only[aM,aa,simprocAttr,e1,kk];done)⟩,by simp[a1]⟩
  ·have e:=hf (by simp[a0,a1])
   simp(disch:=omega)only[aX,aa,simprocAttr,e1,k1,e,gp]
 ·rw[aiT k1] at hf ⊢
  simp(disch:=omega)only[aX,aa,simprocAttr,e1,k0,k1,gp]
  exact⟨_,rfl,by first|(simp(disch:=omega)only[aM,aa,simprocAttr,e1];done)|(simp(disch:=omega)only[aM,aa,simprocAttr,e1,ty];done)|(simp(disch:=omega)only[aM,aa,simprocAttr,e1,k2];done)|(simp(disch:=omega)only[aM,aa,simprocAttr,e1,k0];done)|(simp(disch:=omega)only[aM,aa,simprocAttr,e1,k1];done)|(simp(disch:=omega)only[aM,aa,simprocAttr,e1,kk];done)⟩
theorem abL{t:Tm}{h:Nat}(hb:GZ h t){H:ag}(hf:om t=true->bD t=false)(s:AS)(hs:AR t H s) :
  W A ((((((oJ.body.post 2).post 1).post 1).post 0).post 0).pre 0) s (andThen (fun s'=>AR t H s'/\om t=false) (gp H (bD t))):=by
 obtain⟨T,rfl,e1⟩:=hs
 unfold om at hf ⊢
 unfold AR
 generalize bD t=pr at hf ⊢
 unfold oJ
 simp only[a7.pre,a7.post]
 by_cases kk:t.kind=0\/t.kind=1\/t.kind=4
 ·rcases kk with kk|kk|kk
  all_goals
   simp(disch:=omega)only[aX,aa,simprocAttr,e1,kk,gp]
   exact⟨⟨_,rfl,by first|(simp(disch:=omega)only[aM,aa,simprocAttr,e1];done)|(simp(disch:=omega)only[aM,aa,simprocAttr,e1,ty];done)|(simp(disch:=omega)only[aM,aa,simprocAttr,e1,k2];done)|(simp(disch:=omega)only[aM,aa,simprocAttr,e1,k0];done)|(simp(disch:=omega)only[aM,aa,simprocAttr,e1,k1];done)|(simp(disch:=omega)only[aM,aa,simprocAttr,e1,kk];done)⟩,by simp⟩
 ·by_cases a0:t.n=0
  ·simp(disch:=omega)only[aX,aa,simprocAttr,e1,gp]
   exact⟨⟨_,rfl,by first|(simp(disch:=omega)only[aM,aa,simprocAttr,e1];done)|(simp(disch:=omega)only[aM,aa,simprocAttr,e1,ty];done)|(simp(disch:=omega)only[aM,aa,simprocAttr,e1,k2];done)|(simp(disch:=omega)only[aM,aa,simprocAttr,e1,k0];done)|(simp(disch:=omega)only[aM,aa,simprocAttr,e1,k1];done)|(simp(disch:=omega)only[aM,aa,simprocAttr,e1,kk];done)⟩,by simp[a0]⟩
  ·have e:=hf (by simp[a0];omega)
   simp(disch:=omega)only[aX,aa,simprocAttr,e1,e,gp]
theorem jW{t:Tm}(h:gv t=false):bD t=false:=by rw[lS,h,aiu]
theorem yB:∀ (h:Nat) (t:Tm) (H:ag),J' h t->aB A 59 [.agg (gd t)] H=some (.bool (bD t),none)
 | 0,t,H,hb=>by cases hb
 | h+1,t,H,hb=>by
  have ih:=yB h
  have hF:=hb.out
  refine ba (fn:=oJ) rfl rfl rfl ?_
  refine gI 2 _ (abG hF fun hx=>jW (by unfold gv;rw[hx];rfl)) ?_
  rintro s1 ⟨zO,b1⟩
  refine gI 1 _ (abH hF (fun hx=>jW (by unfold gv;rw[hx];simp)) s1 zO) ?_
  rintro s2 ⟨Qs,b2⟩
  refine gI 1 _ (abI hF (fun hx=>jW (by unfold gv;rw[hx];simp)) s2 Qs) ?_
  rintro s3 ⟨hs3,b3⟩
  refine gI 0 _ (abJ hF (fun hx=>jW (by unfold gv;rw[hx];simp)) s3 hs3) ?_
  rintro s4 ⟨hs4,b4⟩
  refine gI 0 _ (abK hF (fun hx=>jW (by unfold gv;rw[hx];simp)) s4 hs4) ?_
  rintro s5 ⟨hs5,b5⟩
  refine gI 0 _ (abL hF (fun hx=>jW (by unfold gv;rw[hx];simp)) s5 hs5) ?_
  rintro s6 ⟨⟨T,rfl,e1⟩,b6⟩
  have ho:gv t=true:=by unfold gv;rw[b1,b2,b3,b4,b5,b6];rfl
  have hp:bD t=t.kids.all bD:=by rw[lS,ho,ais,kX]
  rw[hp]
  have uc:=hF.kl
  unfold oJ
  simp only[a7.post]
  simp(disch:=omega)only[aX,aa,simprocAttr]
  refine bP t.kids.length 0 (fun i s=>∃ T,s=⟨T,H,H.length,1⟩/\T 1=.lbox 0 [.int .i64 t.kind,.int .i64 t.n,.str t.name,.str t.field,.str t.wn,.slice (aO t.wk) false,.slice (aK t.kids) false,.slice (strs t.names) false]/\T 7=.int .i64 i/\t.kids.all bD=(t.kids.drop i).all bD)
   (fun s=>∃ T,s=⟨T,H,H.length,1⟩/\t.kids.all bD=true) (fun s=>∃ T,s=⟨T,H,H.length,1⟩/\T 2=.bool false/\t.kids.all bD=false) ?_ ?_ ?_ 0 _ (aiB _) ?_
  ·rintro i st hi ⟨T,rfl,e1,e7,hc⟩
   by_cases aZ:i<t.kids.length
   ·have hx:=ahP aZ
    have hd:=aij aZ
    have hm:=aiQ aZ
    generalize t.kids[i]=u at hx hd hm
    have hu:=ih u H (hF.kb u hm)
    have kE:=Dj hx
    rw[ax] at hu kE
    rw[hd,ajb] at hc
    cases FQ:bD u with
    | false =>
     rw[FQ] at hu hc
     simp(disch:=omega)only[aX,aa,simprocAttr,e1,e7,b8,kE,hu]
     exact⟨_,rfl,by simp(disch:=omega)only[aM,aa,simprocAttr],by rw[hc];rfl⟩
    | true =>
     rw[FQ] at hu hc
     simp(disch:=omega)only[aX,aa,simprocAttr,e1,e7,b8,kE,hu]
     exact⟨aZ,_,rfl,by simp(disch:=omega)only[aM,aa,simprocAttr,e1],by simp(disch:=omega)only[aM,aa,simprocAttr],by rw[hc,ais]⟩
   ·have e:t.kids.drop i=[]:=aiX (by omega)
    rw[e,ake] at hc
    simp(disch:=omega)only[aX,aa,simprocAttr,e1,e7,b8]
    exact⟨_,rfl,hc⟩
  ·rintro st ⟨T,rfl,hc⟩
   simp(disch:=omega)only[aX,aa,simprocAttr,hc]
  ·rintro st ⟨T,rfl,h2,hc⟩
   simp(disch:=omega)only[aX,aa,simprocAttr,h2,hc]
  ·exact⟨_,rfl,by simp(disch:=omega)only[aM,aa,simprocAttr,e1],by simp(disch:=omega)only[aM,aa,simprocAttr],by simp⟩
theorem jh(a l:List aV)(x y:aV)(H:ag)(ha:a.length<=1000000)(hl:l.length<=1000000)(o o' : Bool) :
  aB A 61 [.slice (strs a) false,.str x,.slice (strs l) false,.str y] H=some (.slice (strs (a++[x]++l++[y])) true,none):=by
 have h1:an false 1 16 (.slice [] true) (.slice (strs a) false)=some (.slice (strs a) true):=bG (l:=[]) (by simp;omega)
 have h2:an false 1 16 (.slice (strs a) true) (.slice [[.str x]] true)=some (.slice (strs (a++[x])) true):=dC (by omega)
 have h3:an false 1 16 (.slice (strs (a++[x])) true) (.slice (strs l) false)=some (.slice (strs (a++[x]++l)) true):=bG (by simp;omega)
 have h4:an false 1 16 (.slice (strs (a++[x]++l)) true) (.slice [[.str y]] true)=some (.slice (strs (a++[x]++l++[y])) true):=dC (by simp;omega)
 generalize a++[x]++l++[y]=l3 at h4 ⊢
 generalize a++[x]++l=l2 at h3 h4
 generalize a++[x]=l1 at h2 h3
 refine ba (fn:=Ny) rfl rfl rfl ?_
 unfold Ny
 simp(disch:=omega)only[aX,aa,simprocAttr,h1,h2,h3,h4]
def qR(k:Nat):aV:=da (k+1) k []
theorem qT:∀ (f g n:Nat) (acc:aV),n<f->n<g->da f n acc=da g n acc
 | 0,_,n,acc,h,_=>by omega
 | f+1,0,n,acc,_,h=>by omega
 | f+1,g+1,n,acc,h,h2=>by
  unfold da
  cases hn:Nat.blt n 10 with
  | true=>rfl
  | false =>
   have:¬ n<10:=fun h=>by
    have:Nat.blt n 10=true:=by simpa [aih] using h
    rw[hn] at this;cases this
   simp only[ahW]
   exact qT f g (n / 10) _ (by omega) (by omega)
theorem uT(k:Nat)(H:ag)(hk:k<=2199023255552):aB A 32 [.int .i64 k] H=some (.str (qR k),none):=by
 refine ba (fn:=Np) rfl rfl rfl ?_
 unfold Np
 simp(disch:=omega)only[aX,aa,simprocAttr]
 refine yW 0 (fun m s=>∃ T acc,s=⟨T,H,H.length,0⟩/\m<=2199023255552/\T 0=.int .i64 m/\T 3=.str acc/\acc.length+m<=k/\qR k=da (m+1) m acc)
  (fun s=>∃ T acc m,s=⟨T,H,H.length,0⟩/\m<10/\T 0=.int .i64 (m:Nat)/\T 3=.str acc/\acc.length+m<=k/\qR k=UInt8.ofNat (48+m) :: acc) (fun _=>False) ?_ ?_ (fun _ h=>h.elim) k _ ?_
 ·rintro m s ⟨T,acc,rfl,hm,e0,e3,hl,hc⟩
  by_cases h9:9<m
  ·have hb:Nat.blt m 10=false:=by cases h:Nat.blt m 10 with|false=>rfl|true=>simp[aih] at h;omega
   have e:da (m+1) m acc=da (m / 10+1) (m / 10) (UInt8.ofNat (48+m % 10) :: acc):=by
    rw[da,hb,ahW]
    exact qT _ _ _ _ (by omega) (by omega)
   rw[e] at hc
   simp(disch:=omega)only[aX,aa,simprocAttr,e0,e3,gT,nM,Ph,jY,oq,ajb,ake,bytesOf]
   have em:(48+(m:Int) % 10).toNat=48+m % 10:=by omega
   have ed:(m:Int) / 10=((m / 10:Nat):Int):=by omega
   exact⟨m / 10,by omega,_,UInt8.ofNat (48+m % 10) :: acc,rfl,by omega,by simp(disch:=omega)only[aM,aa,simprocAttr,ed],by simp(disch:=omega)only[aM,aa,simprocAttr,em],by simp only[List.length_cons];omega,hc⟩
  ·have hb:Nat.blt m 10=true:=by simp[aih];omega
   have e:da (m+1) m acc=UInt8.ofNat (48+m) :: acc:=by rw[da,hb,cond_true]
   rw[e] at hc
   simp(disch:=omega)only[aX,aa,simprocAttr,e0,e3]
   exact⟨_,acc,m,rfl,by omega,by simp(disch:=omega)only[aM,aa,simprocAttr,e0],by simp(disch:=omega)only[aM,aa,simprocAttr,e3],hl,hc⟩
 ·rintro s ⟨T,acc,m,rfl,hm,e0,e3,hl,hc⟩
  simp(disch:=omega)only[aX,aa,simprocAttr,e0,e3,Ph,jY,oq,ajb,ake,bytesOf]
  rw[hc,show (48+(m:Int)).toNat=48+m by omega]
 ·exact⟨_,[],rfl,hk,by simp(disch:=omega)only[aM,aa,simprocAttr],by simp(disch:=omega)only[aM,aa,simprocAttr],by simp,rfl⟩
def pC(p:List aV × Int)(least:Int):List aV:=if p.2<least then [[40]]++p.1++[[41]] else p.1
def aG:List (List aV)->List aV
 | []=>[]
 | [a]=>a
 | a :: b :: r=>a++[[44]]++aG (b :: r)
theorem kB(x:List aV):∀ l:List (List aV),aG (l++[x])=if l=[] then x else aG l++[[44]]++x
 | []=>by simp[aG]
 | [a]=>by simp[aG]
 | a :: b :: r=>by
  have:=kB x (b :: r)
  simp only[ai',aG] at this ⊢
  rw[this]
  simp
def jC(k n:Int)(a f:aV)(w:Wd)(ns:List aV)(tl:List (List aV × Int)):List aV :=
 if k=0 then (if n<0 then [[45],qR (-n).toNat] else [qR n.toNat])
 else if k=1 then [if n=0 then [102,97,108,115,101] else [116,114,117,101]]
 else if k=2 then [a]
 else if k=3 then cq a++[[40]]++aG (tl.map (·.1))++[[41]]
 else if k=4 then (match tl with
  | [x]=>[(fm n).1]++pC x 7
  | [x,y]=>pC x (if (fm n).2=3 then 4 else (fm n).2)++[(fm n).1]++pC y ((fm n).2+1)
  | _=>[])
 else if k=5 then (match tl with|[x,y,z]=>[[105,102]]++x.1++[[116,104,101,110]]++y.1++[[101,108,115,101]]++z.1|_=>[])
 else if k=6 then (match tl,ns with|[x,y],[s]=>[[108,101,116],s,[61]]++x.1++[[105,110]]++y.1|_,_=>[])
 else if k=7 then cq a++[[123]]++aG (List.zipWith (fun s (x:List aV × Int)=>[s,[61]]++x.1) ns tl)++[[125]]
 else if k=8 then (match tl with|[x]=>cq a++[[58],f]++[[91]]++x.1++[[93]]|_=>[])
 else if k=9 then (match tl with|[x]=>cq a++[[58],f]++[[40]]++x.1++[[41]]|_=>[])
 else if k=10 then (match tl,ns with
  | [x,y],[p,q]=>[[109,97,116,99,104]]++cq a++[[40]]++x.1++[[41]]++[[123]]++([p,q,[45,62]]++y.1)++[[125]]
  | [x,y,z],[p,q,r,u]=>[[109,97,116,99,104]]++cq a++[[40]]++x.1++[[41]]++[[123]]++([p,q,[45,62]]++y.1++[[44]]++[r,u,[45,62]]++z.1)++[[125]]
  | _,_=>[])
 else if k=11 then [gE]++[[40]]++dh w++[[41]]++[[91]]++aG (tl.map (·.1))++[[93]]
 else if k=12 then (match tl,ns with|[x,y,z],[s,u]=>[[102,111,108,100],s,[44],u,[61]]++y.1++[[111,118,101,114]]++x.1++[[100,111]]++z.1|_,_=>[])
 else []
mutual
def aj:Tm->List aV
 | .mk k n a f wn wk ks ns=>jC k n a f (.mk wn wk) ns (wJ ks)
def wJ:List Tm->List (List aV × Int)
 | []=>[]
 | t :: r=>(aj t,dc t) :: wJ r
end
theorem wK:∀ l:List Tm,wJ l=l.map fun t=>(aj t,dc t)
 | []=>by simp[wJ]
 | t :: r=>by simp[wJ,wK r]
theorem dZ(t:Tm):aj t=jC t.kind t.n t.name t.field (.mk t.wn t.wk) t.names (t.kids.map fun t=>(aj t,dc t)):=by
 cases t;rw[aj,wK,Tm.kind,Tm.n,Tm.name,Tm.field,Tm.wn,Tm.wk,Tm.names,Tm.kids]
structure oe (t:Tm):Prop where
 d:∀ H,aB A 33 [.agg (gd t)] H=some (.slice (strs (aj t)) true,none)
 len:(aj t).length<=100000
theorem NT{t:Tm}(h:oe t)(least:Int)(H:ag):aB A 64 [.agg (gd t),.int .i64 least] H=some (.slice (strs (pC (aj t,dc t) least)) true,none):=by
 have h1:=h.d H
 have h2:=R7 t H
 have hl:=h.len
 rw[ax] at h1 h2 ⊢
 have a1:an false 1 16 (.slice [[.str [40]]] true) (.slice (strs (aj t)) true)=some (.slice (strs ([[40]]++aj t)) true):=bG (l:=[[40]]) (by simp;omega)
 have a2:an false 1 16 (.slice (strs ([[40]]++aj t)) true) (.slice [[.str [41]]] true)=some (.slice (strs ([[40]]++aj t++[[41]])) true):=dC (by simp;omega)
 unfold pC
 generalize [[40]]++aj t++[[41]]=l2 at a2 ⊢
 generalize [[40]]++aj t=l1 at a1 a2
 refine ba (fn:=NB) rfl rfl rfl ?_
 unfold NB
 by_cases hc:dc t<least
 ·rw[if_pos hc]
  simp(disch:=omega)only[aX,aa,simprocAttr,h1,h2,a1,a2]
 ·rw[if_neg hc]
  simp(disch:=omega)only[aX,aa,simprocAttr,h1,h2]
theorem fS:∀ (l:List (List aV)) (n:Nat),(∀ x∈l,x.length<=n)->(aG l).length<=l.length*(n+1)
 | [],_,_=>by simp[aG]
 | [a],n,h=>by have:=h a (by simp);simp only[aG,List.length_cons,ahX];omega
 | a :: b :: r,n,h=>by
  have h1:=h a (by simp)
  have h2:=fS (b :: r) n (fun x hx=>h x (by simp only[aii] at hx ⊢;exact .inr hx))
  simp only[aG,List.length_append,List.length_cons,ahX] at h2 ⊢
  rw[aip (r.length+1) 1 (n+1)]
  omega
theorem Cw{l:List Tm}(hl:l.length<=10)(h:∀ t∈l,oe t)(H:ag):aB A 62 [.slice (aK l) false] H=some (.slice (strs (aG (l.map aj))) false,none):=by
 refine ba (fn:=Nz) rfl rfl rfl ?_
 unfold Nz
 simp(disch:=omega)only[aX,aa,simprocAttr]
 refine bP l.length 0 (fun i s=>∃ T,s=⟨T,H,H.length,0⟩/\T 0=.slice (aK l) false/\T 3=.slice (strs (aG ((l.take i).map aj))) true/\T 4=.int .i64 i)
  (fun s=>∃ T,s=⟨T,H,H.length,0⟩/\T 3=.slice (strs (aG (l.map aj))) true) (fun _=>False) ?_ ?_ (fun _ h=>h.elim) 0 _ (aiB _) ?_
 ·rintro i s hi ⟨T,rfl,e0,e3,e4⟩
  by_cases aZ:i<l.length
  ·have hx:=ahP aZ
   have hm:=aiQ aZ
   have FV:l.take (i+1)=l.take i++[l[i]]:=by rw[ajw,hx];rfl
   generalize l[i]=u at hx hm FV
   have hu:=(h u hm).d H
   have hul:=(h u hm).len
   have kE:=Dj hx
   rw[ax] at hu kE
   have B0:(aG ((l.take i).map aj)).length<=10*100001:=by
    have h1:=fS ((l.take i).map aj) 100000 (fun x hx=>by
     obtain⟨t,ht,rfl⟩:=aia.1 hx
     exact (h t (aiO ht)).len)
    have h2:((l.take i).map aj).length<=10:=by simp;omega
    exact ait h1 (ah7 _ h2)
   have mb:(l.take (i+1)).map aj=(l.take i).map aj++[aj u]:=by rw[FV];simp
   have hs:=kB (aj u) ((l.take i).map aj)
   rw[<- mb] at hs
   by_cases h0:i=0
   ·subst h0
    simp only[aiN,ah3,ai3] at hs e3
    have a1:an false 1 16 (.slice (strs (aG [])) true) (.slice (strs (aj u)) true)=some (.slice (strs (aj u)) true):=bG (l:=[]) (by simp;omega)
    simp(disch:=omega)only[aX,aa,simprocAttr,e0,e3,e4,b8,kE,hu,a1]
    exact⟨aZ,_,rfl,by simp(disch:=omega)only[aM,aa,simprocAttr,e0],by rw[hs];simp(disch:=omega)only[aM,aa,simprocAttr],by simp(disch:=omega)only[aM,aa,simprocAttr]⟩
   ·have cS:¬ ((l.take i).map aj=[]):=fun e=>by
     have:=aj8 List.length e
     rw[aie,List.length_take,ahX] at this
     omega
    rw[if_neg cS] at hs
    generalize aG ((l.take i).map aj)=acc at e3 B0 hs
    have a1:an false 1 16 (.slice (strs acc) true) (.slice [[.str [44]]] true)=some (.slice (strs (acc++[[44]])) true):=dC (by omega)
    have a2:an false 1 16 (.slice (strs (acc++[[44]])) true) (.slice (strs (aj u)) true)=some (.slice (strs (acc++[[44]]++aj u)) true):=bG (by simp;omega)
    generalize acc++[[44]]++aj u=l2 at a2 hs
    generalize acc++[[44]]=l1 at a1 a2
    simp(disch:=omega)only[aX,aa,simprocAttr,e0,e3,e4,b8,kE,hu,a1,a2]
    exact⟨aZ,_,rfl,by simp(disch:=omega)only[aM,aa,simprocAttr,e0],by rw[hs];simp(disch:=omega)only[aM,aa,simprocAttr],by simp(disch:=omega)only[aM,aa,simprocAttr]⟩
  ·rw[aiA (by omega)] at e3
   simp(disch:=omega)only[aX,aa,simprocAttr,e0,e3,e4,b8]
   exact⟨_,rfl,by simp(disch:=omega)only[aM,aa,simprocAttr,e3]⟩
 ·rintro s ⟨T,rfl,e3⟩
  simp(disch:=omega)only[aX,aa,simprocAttr,e3]
 ·exact⟨_,rfl,by simp(disch:=omega)only[aM,aa,simprocAttr],by simp(disch:=omega)only[aM,aa,simprocAttr,aiN,ah3,aG,strs],by simp(disch:=omega)only[aM,aa,simprocAttr]⟩
section
structure wS (t:Tm):Prop where
 b1:mL t=false
 b2:nv t=false
 b3:nY t=false
 b4:nw t=false
 b5:mM t=false
 b6:om t=false
 kids:∀ u∈t.kids,bD u=true
theorem HC{t:Tm}(h:bD t=true):wS t:=by
 rw[lS,ahR,kX] at h
 obtain⟨h1,h2⟩:=h
 simp only[gv,ajn,ajT] at h1
 obtain⟨⟨⟨⟨⟨a1,a2⟩,a3⟩,a4⟩,a5⟩,a6⟩:=h1
 exact⟨a1,a2,a3,a4,a5,a6,fun u hu=>ahU.1 h2 u hu⟩
theorem fi{t:Tm}(h:wS t){c1 c2:Int}(hc:bN t.kind t.n t.kids.length=(c1,c2)):c1≠-2/\(0<=c1->(t.kids.length:Int)=c1)/\(t.names.length:Int)=c2:=by
 have h1:=h.b1
 unfold mL at h1
 rw[hc] at h1
 simp only[ki,ajT,aje,not_and,Decidable.not_not] at h1
 exact⟨h1.1.1.1,h1.1.1.2,h1.1.2⟩
theorem Og{t:Tm}(h:wS t):0<=t.kind/\t.kind<=12:=by
 rcases F6 t.kind with e|e|e|e|e|e|e|e|e|e|e|e|e|e
 all_goals first|omega|skip
 have hc:bN t.kind t.n t.kids.length=(-2,0):=by
  unfold bN
  repeat rw[if_neg (by omega)]
 exact absurd rfl (fi h hc).1
theorem R5{α:Type}{l:List α}(h:l.length=1):∃ a,l=[a]:=by
 match l,h with
 | [a],_=>exact⟨a,rfl⟩
theorem N1{α:Type}{l:List α}(h:l.length=2):∃ a b,l=[a,b]:=by
 match l,h with
 | [a,b],_=>exact⟨a,b,rfl⟩
theorem Xk{α:Type}{l:List α}(h:l.length=3):∃ a b c,l=[a,b,c]:=by
 match l,h with
 | [a,b,c],_=>exact⟨a,b,c,rfl⟩
section
variable {t:Tm}{h:Nat}(hF:GZ h t)(hO:wS t)(hK:∀ u∈t.kids,oe u)(H:ag)
include hF hO hK
theorem tk0(hk:t.kind=0):aB A 33 [.agg (gd t)] H=some (.slice (strs (aj t)) true,none):=by
 have _:=hF
 have _:=hK
 have hn:=hO.b5
 unfold mM at hn
 rw[decide_eq_true hk] at hn
 simp only[cond_true,aje,not_or,Int.not_lt] at hn
 rw[dZ,ax]
 refine ba (fn:=jc) rfl rfl rfl ?_
 unfold jc
 by_cases h0:t.n<0
 ·obtain⟨m,hm⟩:∃ m:Nat, -t.n=m:=⟨(-t.n).toNat,by omega⟩
  have hm0:0-t.n=m:=by omega
  have hd:=uT m H (by omega)
  have e:jC t.kind t.n t.name t.field (.mk t.wn t.wk) t.names (t.kids.map fun t=>(aj t,dc t))=[[45],qR m]:=by
   unfold jC;rw[if_pos hk,if_pos h0,hm];rfl
  rw[e]
  simp(disch:=omega)only[aX,aa,simprocAttr,hk,hm0,hd,strs,ah1,ah3]
 ·obtain⟨m,hm⟩:∃ m:Nat,t.n=m:=⟨t.n.toNat,by omega⟩
  have hd:=uT m H (by omega)
  have e:jC t.kind t.n t.name t.field (.mk t.wn t.wk) t.names (t.kids.map fun t=>(aj t,dc t))=[qR m]:=by
   unfold jC;rw[if_pos hk,if_neg h0,hm];rfl
  rw[e]
  simp(disch:=omega)only[aX,aa,simprocAttr,hk,hm,hd,strs,ah1,ah3]
theorem tk2(hk:t.kind=2):aB A 33 [.agg (gd t)] H=some (.slice (strs (aj t)) true,none):=by
 have _:=hF
 have _:=hO
 have _:=hK
 rw[dZ,ax]
 refine ba (fn:=jc) rfl rfl rfl ?_
 unfold jc
 have e:jC t.kind t.n t.name t.field (.mk t.wn t.wk) t.names (t.kids.map fun t=>(aj t,dc t))=[t.name]:=by
  rw[hk];rfl
 rw[e]
 simp(disch:=omega)only[aX,aa,simprocAttr,hk,strs,ah1,ah3]
theorem tk3(hk:t.kind=3):aB A 33 [.agg (gd t)] H=some (.slice (strs (aj t)) true,none):=by
 have _:=hO
 have hq:=po t.name H (by have:=hF.a;omega)
 have hl:=Cw (l:=t.kids) (by have:=hF.kl;omega) hK H
 have hb:=jh (cq t.name) (aG (t.kids.map aj)) [40] [41] H (by have:=iJ t.name;omega) (by
  have h1:=fS (t.kids.map aj) 100000 (fun x hx=>by obtain⟨u,hu,rfl⟩:=aia.1 hx;exact (hK u hu).len)
  rw[aie] at h1
  have:=hF.kl
  have h2:t.kids.length*(100000+1)<=3*100001:=ah7 _ this
  omega) true false
 rw[dZ,ax]
 have e:jC t.kind t.n t.name t.field (.mk t.wn t.wk) t.names (t.kids.map fun t=>(aj t,dc t))=cq t.name++[[40]]++aG (t.kids.map aj)++[[41]]:=by
  rw[hk]
  show cq t.name++[[40]]++aG ((t.kids.map fun t=>(aj t,dc t)).map (·.1))++[[41]]=_
  rw[ajh]
  rfl
 rw[e]
 generalize cq t.name++[[40]]++aG (t.kids.map aj)++[[41]]=out at hb ⊢
 refine ba (fn:=jc) rfl rfl rfl ?_
 unfold jc
 simp(disch:=omega)only[aX,aa,simprocAttr,hk,hq,hl,hb]
theorem tk1(hk:t.kind=1):aB A 33 [.agg (gd t)] H=some (.slice (strs (aj t)) true,none):=by
 have _:=hF
 have _:=hK
 have hn:=hO.b5
 unfold mM at hn
 rw[aiT (show ¬ t.kind=0 by omega),decide_eq_true hk] at hn
 simp only[cond_true,ahW,aje,not_and,Decidable.not_not] at hn
 rw[dZ,ax]
 refine ba (fn:=jc) rfl rfl rfl ?_
 unfold jc
 by_cases h0:t.n=0
 ·have e:jC t.kind t.n t.name t.field (.mk t.wn t.wk) t.names (t.kids.map fun t=>(aj t,dc t))=[[102,97,108,115,101]]:=by
   rw[hk,h0];rfl
  rw[e]
  simp(disch:=omega)only[aX,aa,simprocAttr,hk,h0,strs,ah1,ah3]
  first|done|rfl
 ·have h1:=hn h0
  have e:jC t.kind t.n t.name t.field (.mk t.wn t.wk) t.names (t.kids.map fun t=>(aj t,dc t))=[[116,114,117,101]]:=by
   rw[hk,h1];rfl
  rw[e]
  simp(disch:=omega)only[aX,aa,simprocAttr,hk,h1,strs,ah1,ah3]
  first|done|rfl
theorem tk5(hk:t.kind=5):aB A 33 [.agg (gd t)] H=some (.slice (strs (aj t)) true,none):=by
 have _:=hF
 have hc:=fi hO (c1:=3) (c2:=0) (by rw[hk];rfl)
 have hl:=hc.2.1 (by omega)
 obtain⟨x,y,z,kA⟩:=Xk (show t.kids.length=3 by omega)
 have hx:=hK x (by rw[kA];simp)
 have hy:=hK y (by rw[kA];simp)
 have hz:=hK z (by rw[kA];simp)
 have dx:=hx.d H
 have dy:=hy.d H
 have dz:=hz.d H
 have lx:=hx.len
 have ly:=hy.len
 have lz:=hz.len
 have kt:aK t.kids=[[.int .i64 x.kind,.int .i64 x.n,.str x.name,.str x.field,.str x.wn,.slice (aO x.wk) false,.slice (aK x.kids) false,.slice (strs x.names) false],
   [.int .i64 y.kind,.int .i64 y.n,.str y.name,.str y.field,.str y.wn,.slice (aO y.wk) false,.slice (aK y.kids) false,.slice (strs y.names) false],
   [.int .i64 z.kind,.int .i64 z.n,.str z.name,.str z.field,.str z.wn,.slice (aO z.wk) false,.slice (aK z.kids) false,.slice (strs z.names) false]]:=by
  rw[kA,aK,aK,aK,aK,ax,ax,ax]
 rw[ax] at dx dy dz
 have a1:an false 1 16 (.slice [[.str [105,102]]] true) (.slice (strs (aj x)) true)=some (.slice (strs ([[105,102]]++aj x)) true):=bG (l:=[[105,102]]) (by simp;omega)
 have a2:an false 1 16 (.slice (strs ([[105,102]]++aj x)) true) (.slice [[.str [116,104,101,110]]] true)=some (.slice (strs ([[105,102]]++aj x++[[116,104,101,110]])) true):=dC (by simp;omega)
 have a3:an false 1 16 (.slice (strs ([[105,102]]++aj x++[[116,104,101,110]])) true) (.slice (strs (aj y)) true)=some (.slice (strs ([[105,102]]++aj x++[[116,104,101,110]]++aj y)) true):=bG (by simp;omega)
 have a4:an false 1 16 (.slice (strs ([[105,102]]++aj x++[[116,104,101,110]]++aj y)) true) (.slice [[.str [101,108,115,101]]] true)=some (.slice (strs ([[105,102]]++aj x++[[116,104,101,110]]++aj y++[[101,108,115,101]])) true):=dC (by simp;omega)
 have a5:an false 1 16 (.slice (strs ([[105,102]]++aj x++[[116,104,101,110]]++aj y++[[101,108,115,101]])) true) (.slice (strs (aj z)) true)=some (.slice (strs ([[105,102]]++aj x++[[116,104,101,110]]++aj y++[[101,108,115,101]]++aj z)) true):=bG (by simp;omega)
 have e:aj t=[[105,102]]++aj x++[[116,104,101,110]]++aj y++[[101,108,115,101]]++aj z:=by
  rw[dZ,hk,kA];rfl
 rw[e,ax]
 generalize [[105,102]]++aj x++[[116,104,101,110]]++aj y++[[101,108,115,101]]++aj z=l5 at a5 ⊢
 generalize [[105,102]]++aj x++[[116,104,101,110]]++aj y++[[101,108,115,101]]=l4 at a4 a5
 generalize [[105,102]]++aj x++[[116,104,101,110]]++aj y=l3 at a3 a4
 generalize [[105,102]]++aj x++[[116,104,101,110]]=l2 at a2 a3
 generalize [[105,102]]++aj x=l1 at a1 a2
 refine ba (fn:=jc) rfl rfl rfl ?_
 unfold jc
 rw[kt]
 simp(disch:=omega)only[aX,aa,simprocAttr,hk,dx,dy,dz,a1,a2,a3,a4,a5]
end
end
section
section
variable {t:Tm}{h:Nat}(hF:GZ h t)(hO:wS t)(hK:∀ u∈t.kids,oe u)(H:ag)
include hF hO hK
theorem tk6(hk:t.kind=6):aB A 33 [.agg (gd t)] H=some (.slice (strs (aj t)) true,none):=by
 have _:=hF
 have hc:=fi hO (c1:=2) (c2:=1) (by rw[hk];rfl)
 have hl:=hc.2.1 (by omega)
 have n7:=hc.2.2
 obtain⟨x,y,kA⟩:=N1 (show t.kids.length=2 by omega)
 obtain⟨s,pA⟩:=R5 (show t.names.length=1 by omega)
 have hx:=hK x (by rw[kA];simp)
 have dx:=hx.d H
 have lx:=hx.len
 have hy:=hK y (by rw[kA];simp)
 have dy:=hy.d H
 have ly:=hy.len
 have kt:aK t.kids=[[.int .i64 x.kind,.int .i64 x.n,.str x.name,.str x.field,.str x.wn,.slice (aO x.wk) false,.slice (aK x.kids) false,.slice (strs x.names) false],[.int .i64 y.kind,.int .i64 y.n,.str y.name,.str y.field,.str y.wn,.slice (aO y.wk) false,.slice (aK y.kids) false,.slice (strs y.names) false]]:=by
  rw[kA,aK,aK,aK,ax,ax]
 have nt:strs t.names=[[.str s]]:=by rw[pA];rfl
 rw[ax] at dx dy
 have a1:an false 1 16 (.slice [[.str [108,101,116]],[.str s],[.str [61]]] true) (.slice (strs (aj x)) true)=some (.slice (strs ([[108,101,116],s,[61]]++aj x)) true):=bG (l:=[[108,101,116],s,[61]]) (by simp;omega)
 have a2:an false 1 16 (.slice (strs ([[108,101,116],s,[61]]++aj x)) true) (.slice [[.str [105,110]]] true)=some (.slice (strs ([[108,101,116],s,[61]]++aj x++[[105,110]])) true):=dC (by simp;omega)
 have a3:an false 1 16 (.slice (strs ([[108,101,116],s,[61]]++aj x++[[105,110]])) true) (.slice (strs (aj y)) true)=some (.slice (strs ([[108,101,116],s,[61]]++aj x++[[105,110]]++aj y)) true):=bG (by simp;omega)
 have e:aj t=[[108,101,116],s,[61]]++aj x++[[105,110]]++aj y:=by
  rw[dZ,hk,kA,pA];rfl
 rw[e,ax]
 generalize [[108,101,116],s,[61]]++aj x++[[105,110]]++aj y=q3 at a3 ⊢
 generalize [[108,101,116],s,[61]]++aj x++[[105,110]]=q2 at a2 a3
 generalize [[108,101,116],s,[61]]++aj x=q1 at a1 a2
 refine ba (fn:=jc) rfl rfl rfl ?_
 unfold jc
 rw[kt,nt]
 simp(disch:=omega)only[aX,aa,simprocAttr,hk,dx,dy,a1,a2,a3]
theorem aeb(hk:t.kind=12):aB A 33 [.agg (gd t)] H=some (.slice (strs (aj t)) true,none):=by
 have _:=hF
 have hc:=fi hO (c1:=3) (c2:=2) (by rw[hk];rfl)
 have hl:=hc.2.1 (by omega)
 have n7:=hc.2.2
 obtain⟨x,y,z,kA⟩:=Xk (show t.kids.length=3 by omega)
 obtain⟨s,u,pA⟩:=N1 (show t.names.length=2 by omega)
 have hx:=hK x (by rw[kA];simp)
 have dx:=hx.d H
 have lx:=hx.len
 have hy:=hK y (by rw[kA];simp)
 have dy:=hy.d H
 have ly:=hy.len
 have hz:=hK z (by rw[kA];simp)
 have dz:=hz.d H
 have lz:=hz.len
 have kt:aK t.kids=[[.int .i64 x.kind,.int .i64 x.n,.str x.name,.str x.field,.str x.wn,.slice (aO x.wk) false,.slice (aK x.kids) false,.slice (strs x.names) false],[.int .i64 y.kind,.int .i64 y.n,.str y.name,.str y.field,.str y.wn,.slice (aO y.wk) false,.slice (aK y.kids) false,.slice (strs y.names) false],[.int .i64 z.kind,.int .i64 z.n,.str z.name,.str z.field,.str z.wn,.slice (aO z.wk) false,.slice (aK z.kids) false,.slice (strs z.names) false]]:=by
  rw[kA,aK,aK,aK,aK,ax,ax,ax]
 have nt:strs t.names=[[.str s],[.str u]]:=by rw[pA];rfl
 rw[ax] at dx dy dz
 have a1:an false 1 16 (.slice [[.str [102,111,108,100]],[.str s],[.str [44]],[.str u],[.str [61]]] true) (.slice (strs (aj y)) true)=some (.slice (strs ([[102,111,108,100],s,[44],u,[61]]++aj y)) true):=bG (l:=[[102,111,108,100],s,[44],u,[61]]) (by simp;omega)
 have a2:an false 1 16 (.slice (strs ([[102,111,108,100],s,[44],u,[61]]++aj y)) true) (.slice [[.str [111,118,101,114]]] true)=some (.slice (strs ([[102,111,108,100],s,[44],u,[61]]++aj y++[[111,118,101,114]])) true):=dC (by simp;omega)
 have a3:an false 1 16 (.slice (strs ([[102,111,108,100],s,[44],u,[61]]++aj y++[[111,118,101,114]])) true) (.slice (strs (aj x)) true)=some (.slice (strs ([[102,111,108,100],s,[44],u,[61]]++aj y++[[111,118,101,114]]++aj x)) true):=bG (by simp;omega)
 have a4:an false 1 16 (.slice (strs ([[102,111,108,100],s,[44],u,[61]]++aj y++[[111,118,101,114]]++aj x)) true) (.slice [[.str [100,111]]] true)=some (.slice (strs ([[102,111,108,100],s,[44],u,[61]]++aj y++[[111,118,101,114]]++aj x++[[100,111]])) true):=dC (by simp;omega)
 have a5:an false 1 16 (.slice (strs ([[102,111,108,100],s,[44],u,[61]]++aj y++[[111,118,101,114]]++aj x++[[100,111]])) true) (.slice (strs (aj z)) true)=some (.slice (strs ([[102,111,108,100],s,[44],u,[61]]++aj y++[[111,118,101,114]]++aj x++[[100,111]]++aj z)) true):=bG (by simp;omega)
 have e:aj t=[[102,111,108,100],s,[44],u,[61]]++aj y++[[111,118,101,114]]++aj x++[[100,111]]++aj z:=by
  rw[dZ,hk,kA,pA];rfl
 rw[e,ax]
 generalize [[102,111,108,100],s,[44],u,[61]]++aj y++[[111,118,101,114]]++aj x++[[100,111]]++aj z=q5 at a5 ⊢
 generalize [[102,111,108,100],s,[44],u,[61]]++aj y++[[111,118,101,114]]++aj x++[[100,111]]=q4 at a4 a5
 generalize [[102,111,108,100],s,[44],u,[61]]++aj y++[[111,118,101,114]]++aj x=q3 at a3 a4
 generalize [[102,111,108,100],s,[44],u,[61]]++aj y++[[111,118,101,114]]=q2 at a2 a3
 generalize [[102,111,108,100],s,[44],u,[61]]++aj y=q1 at a1 a2
 refine ba (fn:=jc) rfl rfl rfl ?_
 unfold jc
 rw[kt,nt]
 simp(disch:=omega)only[aX,aa,simprocAttr,hk,dx,dy,dz,a1,a2,a3,a4,a5]
end
end
section
section
variable {t:Tm}{h:Nat}(hF:GZ h t)(hO:wS t)(hK:∀ u∈t.kids,oe u)(H:ag)
include hF hO hK
theorem tk8(hk:t.kind=8):aB A 33 [.agg (gd t)] H=some (.slice (strs (aj t)) true,none):=by
 have hc:=fi hO (c1:=1) (c2:=0) (by rw[hk];rfl)
 have hl:=hc.2.1 (by omega)
 obtain⟨x,kA⟩:=R5 (show t.kids.length=1 by omega)
 have hx:=hK x (by rw[kA];simp)
 have dx:=hx.d H
 have lx:=hx.len
 have kt:aK t.kids=[[.int .i64 x.kind,.int .i64 x.n,.str x.name,.str x.field,.str x.wn,.slice (aO x.wk) false,.slice (aK x.kids) false,.slice (strs x.names) false]]:=by
  rw[kA,aK,aK,ax]
 rw[ax] at dx
 have hq:=po t.name H (by have:=hF.a;omega)
 have hql:=iJ t.name
 have a1:an false 1 16 (.slice (strs (cq t.name)) true) (.slice [[.str [58]],[.str t.field]] true)=some (.slice (strs (cq t.name++[[58],t.field])) true):=DK (by omega)
 have hb:=jh (cq t.name++[[58],t.field]) (aj x) [91] [93] H (by simp;omega) (by omega) true true
 have e:aj t=cq t.name++[[58],t.field]++[[91]]++aj x++[[93]]:=by
  rw[dZ,hk,kA];rfl
 rw[e,ax]
 generalize cq t.name++[[58],t.field]++[[91]]++aj x++[[93]]=q2 at hb ⊢
 generalize cq t.name++[[58],t.field]=q1 at a1 hb
 refine ba (fn:=jc) rfl rfl rfl ?_
 unfold jc
 rw[kt]
 simp(disch:=omega)only[aX,aa,simprocAttr,hk,dx,hq,a1,hb]
theorem tk9(hk:t.kind=9):aB A 33 [.agg (gd t)] H=some (.slice (strs (aj t)) true,none):=by
 have hc:=fi hO (c1:=1) (c2:=0) (by rw[hk];rfl)
 have hl:=hc.2.1 (by omega)
 obtain⟨x,kA⟩:=R5 (show t.kids.length=1 by omega)
 have hx:=hK x (by rw[kA];simp)
 have dx:=hx.d H
 have lx:=hx.len
 have kt:aK t.kids=[[.int .i64 x.kind,.int .i64 x.n,.str x.name,.str x.field,.str x.wn,.slice (aO x.wk) false,.slice (aK x.kids) false,.slice (strs x.names) false]]:=by
  rw[kA,aK,aK,ax]
 rw[ax] at dx
 have hq:=po t.name H (by have:=hF.a;omega)
 have hql:=iJ t.name
 have a1:an false 1 16 (.slice (strs (cq t.name)) true) (.slice [[.str [58]],[.str t.field]] true)=some (.slice (strs (cq t.name++[[58],t.field])) true):=DK (by omega)
 have hb:=jh (cq t.name++[[58],t.field]) (aj x) [40] [41] H (by simp;omega) (by omega) true true
 have e:aj t=cq t.name++[[58],t.field]++[[40]]++aj x++[[41]]:=by
  rw[dZ,hk,kA];rfl
 rw[e,ax]
 generalize cq t.name++[[58],t.field]++[[40]]++aj x++[[41]]=q2 at hb ⊢
 generalize cq t.name++[[58],t.field]=q1 at a1 hb
 refine ba (fn:=jc) rfl rfl rfl ?_
 unfold jc
 rw[kt]
 simp(disch:=omega)only[aX,aa,simprocAttr,hk,dx,hq,a1,hb]
theorem aea(hk:t.kind=11):aB A 33 [.agg (gd t)] H=some (.slice (strs (aj t)) true,none):=by
 have hp:bE (.mk t.wn t.wk)=true:=by
  have h4:=hO.b4
  unfold nw at h4
  rw[decide_eq_true hk] at h4
  simpa using h4
 have hw:=AE 3 (.mk t.wn t.wk) H (by omega) hF.w hp
 rw[jK] at hw
 have hwl:=iK 3 (.mk t.wn t.wk) hF.w
 have hl:=Cw (l:=t.kids) (by have:=hF.kl;omega) hK H
 have Uq:(aG (t.kids.map aj)).length<=3*100001:=by
  have h1:=fS (t.kids.map aj) 100000 (fun x hx=>by obtain⟨u,hu,rfl⟩:=aia.1 hx;exact (hK u hu).len)
  rw[aie] at h1
  exact ait h1 (ah7 _ hF.kl)
 have b1:=jh [gE] (dh (.mk t.wn t.wk)) [40] [41] H (by simp) (by omega) true true
 have b2:=jh ([gE]++[[40]]++dh (.mk t.wn t.wk)++[[41]]) (aG (t.kids.map aj)) [91] [93] H (by simp;omega) (by omega) true true
 have e:aj t=[gE]++[[40]]++dh (.mk t.wn t.wk)++[[41]]++[[91]]++aG (t.kids.map aj)++[[93]]:=by
  rw[dZ,hk]
  show [gE]++[[40]]++dh (.mk t.wn t.wk)++[[41]]++[[91]]++aG ((t.kids.map fun t=>(aj t,dc t)).map (·.1))++[[93]]=_
  rw[ajh]
  rfl
 rw[e,ax]
 generalize [gE]++[[40]]++dh (.mk t.wn t.wk)++[[41]]++[[91]]++aG (t.kids.map aj)++[[93]]=q2 at b2 ⊢
 generalize [gE]++[[40]]++dh (.mk t.wn t.wk)++[[41]]=q1 at b1 b2
 rw[show strs [gE]=[[.str [76,105,115,116]]] from rfl] at b1
 refine ba (fn:=jc) rfl rfl rfl ?_
 unfold jc
 simp(disch:=omega)only[aX,aa,simprocAttr,hk,hw,hl,b1,b2]
end
end
end Go.Proofs.YtocbgffdpfiidaaGreatDoor
