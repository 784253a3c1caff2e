/-
  A part of the proof of SyntaxTokens: T50, T51, T52, T54, T55, T56, T53, T57, T58.
-/
import Derived.Test.YtbdhkgiakaegdaaGreatDoorP21
set_option linter.unusedSimpArgs false
set_option linter.unusedVariables false
set_option linter.defProp false
set_option maxHeartbeats 1000000
set_option maxRecDepth 100000
namespace Go.Proofs.YtbdhkgiakaegdaaGreatDoor
open Go Go.Abs Go.Proofs
theorem agy{t:Tm}(hk:t.kind=0)(hu:bt t=true):True/\t.name=[]/\t.field=[]/\t.wn=[]/\t.wk=[]/\t.kids=[]/\t.names=[]:=by
 unfold bt at hu
 rw[hk] at hu
 rw[show fA 0=[110] from rfl] at hu
 simp only[mZ,show cC [110] 110=false from rfl,show cC [110] 97=true from rfl,show cC [110] 102=true from rfl,show cC [110] 116=true from rfl,show cC [110] 107=true from rfl,show cC [110] 115=true from rfl,aon,aoj,aog,aop,aoT,aoY,apg,aoZ,ao',aoN,apI,apw,aoy] at hu
 simp_all
theorem agz{t:Tm}(hk:t.kind=1)(hu:bt t=true):True/\t.name=[]/\t.field=[]/\t.wn=[]/\t.wk=[]/\t.kids=[]/\t.names=[]:=by
 unfold bt at hu
 rw[hk] at hu
 rw[show fA 1=[110] from rfl] at hu
 simp only[mZ,show cC [110] 110=false from rfl,show cC [110] 97=true from rfl,show cC [110] 102=true from rfl,show cC [110] 116=true from rfl,show cC [110] 107=true from rfl,show cC [110] 115=true from rfl,aon,aoj,aog,aop,aoT,aoY,apg,aoZ,ao',aoN,apI,apw,aoy] at hu
 simp_all
theorem agA{t:Tm}(hk:t.kind=2)(hu:bt t=true):True/\t.n=0/\t.field=[]/\t.wn=[]/\t.wk=[]/\t.kids=[]/\t.names=[]:=by
 unfold bt at hu
 rw[hk] at hu
 rw[show fA 2=[97] from rfl] at hu
 simp only[mZ,show cC [97] 110=true from rfl,show cC [97] 97=false from rfl,show cC [97] 102=true from rfl,show cC [97] 116=true from rfl,show cC [97] 107=true from rfl,show cC [97] 115=true from rfl,aon,aoj,aog,aop,aoT,aoY,apg,aoZ,ao',aoN,apI,apw,aoy] at hu
 simp_all
theorem agB{t:Tm}(hk:t.kind=3)(hu:bt t=true):True/\t.n=0/\t.field=[]/\t.wn=[]/\t.wk=[]/\t.names=[]:=by
 unfold bt at hu
 rw[hk] at hu
 rw[show fA 3=[97,107] from rfl] at hu
 simp only[mZ,show cC [97,107] 110=true from rfl,show cC [97,107] 97=false from rfl,show cC [97,107] 102=true from rfl,show cC [97,107] 116=true from rfl,show cC [97,107] 107=false from rfl,show cC [97,107] 115=true from rfl,aon,aoj,aog,aop,aoT,aoY,apg,aoZ,ao',aoN,apI,apw,aoy] at hu
 simp_all
theorem adb{t:Tm}(hk:t.kind=4)(hu:bt t=true):True/\t.name=[]/\t.field=[]/\t.wn=[]/\t.wk=[]/\t.names=[]:=by
 unfold bt at hu
 rw[hk] at hu
 rw[show fA 4=[110,107] from rfl] at hu
 simp only[mZ,show cC [110,107] 110=false from rfl,show cC [110,107] 97=true from rfl,show cC [110,107] 102=true from rfl,show cC [110,107] 116=true from rfl,show cC [110,107] 107=false from rfl,show cC [110,107] 115=true from rfl,aon,aoj,aog,aop,aoT,aoY,apg,aoZ,ao',aoN,apI,apw,aoy] at hu
 simp_all
theorem agC{t:Tm}(hk:t.kind=5)(hu:bt t=true):True/\t.n=0/\t.name=[]/\t.field=[]/\t.wn=[]/\t.wk=[]/\t.names=[]:=by
 unfold bt at hu
 rw[hk] at hu
 rw[show fA 5=[107] from rfl] at hu
 simp only[mZ,show cC [107] 110=true from rfl,show cC [107] 97=true from rfl,show cC [107] 102=true from rfl,show cC [107] 116=true from rfl,show cC [107] 107=false from rfl,show cC [107] 115=true from rfl,aon,aoj,aog,aop,aoT,aoY,apg,aoZ,ao',aoN,apI,apw,aoy] at hu
 simp_all
theorem agD{t:Tm}(hk:t.kind=6)(hu:bt t=true):True/\t.n=0/\t.name=[]/\t.field=[]/\t.wn=[]/\t.wk=[]:=by
 unfold bt at hu
 rw[hk] at hu
 rw[show fA 6=[107,115] from rfl] at hu
 simp only[mZ,show cC [107,115] 110=true from rfl,show cC [107,115] 97=true from rfl,show cC [107,115] 102=true from rfl,show cC [107,115] 116=true from rfl,show cC [107,115] 107=false from rfl,show cC [107,115] 115=false from rfl,aon,aoj,aog,aop,aoT,aoY,apg,aoZ,ao',aoN,apI,apw,aoy] at hu
 simp_all
theorem agE{t:Tm}(hk:t.kind=7)(hu:bt t=true):True/\t.n=0/\t.field=[]/\t.wn=[]/\t.wk=[]:=by
 unfold bt at hu
 rw[hk] at hu
 rw[show fA 7=[97,107,115] from rfl] at hu
 simp only[mZ,show cC [97,107,115] 110=true from rfl,show cC [97,107,115] 97=false from rfl,show cC [97,107,115] 102=true from rfl,show cC [97,107,115] 116=true from rfl,show cC [97,107,115] 107=false from rfl,show cC [97,107,115] 115=false from rfl,aon,aoj,aog,aop,aoT,aoY,apg,aoZ,ao',aoN,apI,apw,aoy] at hu
 simp_all
theorem ade{t:Tm}(hk:t.kind=8)(hu:bt t=true):True/\t.n=0/\t.wn=[]/\t.wk=[]/\t.names=[]:=by
 unfold bt at hu
 rw[hk] at hu
 rw[show fA 8=[97,102,107] from rfl] at hu
 simp only[mZ,show cC [97,102,107] 110=true from rfl,show cC [97,102,107] 97=false from rfl,show cC [97,102,107] 102=false from rfl,show cC [97,102,107] 116=true from rfl,show cC [97,102,107] 107=false from rfl,show cC [97,102,107] 115=true from rfl,aon,aoj,aog,aop,aoT,aoY,apg,aoZ,ao',aoN,apI,apw,aoy] at hu
 simp_all
theorem adf{t:Tm}(hk:t.kind=9)(hu:bt t=true):True/\t.n=0/\t.wn=[]/\t.wk=[]/\t.names=[]:=by
 unfold bt at hu
 rw[hk] at hu
 rw[show fA 9=[97,102,107] from rfl] at hu
 simp only[mZ,show cC [97,102,107] 110=true from rfl,show cC [97,102,107] 97=false from rfl,show cC [97,102,107] 102=false from rfl,show cC [97,102,107] 116=true from rfl,show cC [97,102,107] 107=false from rfl,show cC [97,102,107] 115=true from rfl,aon,aoj,aog,aop,aoT,aoY,apg,aoZ,ao',aoN,apI,apw,aoy] at hu
 simp_all
theorem Zn{t:Tm}(hk:t.kind=10)(hu:bt t=true):True/\t.n=0/\t.field=[]/\t.wn=[]/\t.wk=[]:=by
 unfold bt at hu
 rw[hk] at hu
 rw[show fA 10=[97,107,115] from rfl] at hu
 simp only[mZ,show cC [97,107,115] 110=true from rfl,show cC [97,107,115] 97=false from rfl,show cC [97,107,115] 102=true from rfl,show cC [97,107,115] 116=true from rfl,show cC [97,107,115] 107=false from rfl,show cC [97,107,115] 115=false from rfl,aon,aoj,aog,aop,aoT,aoY,apg,aoZ,ao',aoN,apI,apw,aoy] at hu
 simp_all
theorem Zo{t:Tm}(hk:t.kind=11)(hu:bt t=true):True/\t.n=0/\t.name=[]/\t.field=[]/\t.names=[]:=by
 unfold bt at hu
 rw[hk] at hu
 rw[show fA 11=[116,107] from rfl] at hu
 simp only[mZ,show cC [116,107] 110=true from rfl,show cC [116,107] 97=true from rfl,show cC [116,107] 102=true from rfl,show cC [116,107] 116=false from rfl,show cC [116,107] 107=false from rfl,show cC [116,107] 115=true from rfl,aon,aoj,aog,aop,aoT,aoY,apg,aoZ,ao',aoN,apI,apw,aoy] at hu
 simp_all
theorem Zp{t:Tm}(hk:t.kind=12)(hu:bt t=true):True/\t.n=0/\t.name=[]/\t.field=[]/\t.wn=[]/\t.wk=[]:=by
 unfold bt at hu
 rw[hk] at hu
 rw[show fA 12=[107,115] from rfl] at hu
 simp only[mZ,show cC [107,115] 110=true from rfl,show cC [107,115] 97=true from rfl,show cC [107,115] 102=true from rfl,show cC [107,115] 116=true from rfl,show cC [107,115] 107=false from rfl,show cC [107,115] 115=false from rfl,aon,aoj,aog,aop,aoT,aoY,apg,aoZ,ao',aoN,apI,apw,aoy] at hu
 simp_all
theorem LN{n:Int}(h:0<=n/\n<=11):(fh n).1≠[]:=by
 have:n=0\/n=1\/n=2\/n=3\/n=4\/n=5\/n=6\/n=7\/n=8\/n=9\/n=10\/n=11:=by omega
 rcases this with rfl|rfl|rfl|rfl|rfl|rfl|rfl|rfl|rfl|rfl|rfl|rfl<;>decide
theorem HP{n:Int}(h:¬ (0<=n/\n<=11)):fh n=([],0):=by unfold fh;rw[if_pos (by omega)]
theorem afD{t:Tm}(hk:t.kind=0)(hu:bt t=true):ak t=decide (-1099511627776<=t.n/\t.n<=1099511627776):=by
 obtain⟨-,h0,h1,h2,h3,h4,h5⟩:=agy hk hu
 rw[fE,dJ]
 unfold mu oP lY pD pE oQ oR pF
 simp[hk,h0,h1,h2,h3,h4,h5,bR,iW]
 rw[Bool.eq_iff_iff]
 simp
theorem afE{t:Tm}(hk:t.kind=1)(hu:bt t=true):ak t=decide (t.n=0\/t.n=1):=by
 obtain⟨-,h0,h1,h2,h3,h4,h5⟩:=agz hk hu
 rw[fE,dJ]
 unfold mu oP lY pD pE oQ oR pF
 simp[hk,h0,h1,h2,h3,h4,h5,bR,iW]
theorem afF{t:Tm}(hk:t.kind=2)(hu:bt t=true):ak t=isWord t.name:=by
 obtain⟨-,h0,h1,h2,h3,h4,h5⟩:=agA hk hu
 rw[fE,dJ]
 unfold mu oP lY pD pE oQ oR pF
 simp[hk,h0,h1,h2,h3,h4,h5,bR,iW]
theorem afG{t:Tm}(hk:t.kind=3)(hu:bt t=true):ak t=(cT t.name&&t.kids.all ak):=by
 obtain⟨-,h0,h1,h2,h3,h4⟩:=agB hk hu
 rw[fE,dJ]
 unfold mu oP lY pD pE oQ oR pF
 simp[hk,h0,h1,h2,h3,h4,bR,iW]
theorem Zc{t:Tm}(hk:t.kind=4)(hu:bt t=true):ak t=(decide (0<=t.n/\t.n<=11)&&gX t (if (fh t.n).2=7 then 1 else 2) 0&&t.kids.all ak):=by
 obtain⟨-,h0,h1,h2,h3,h4⟩:=adb hk hu
 rw[fE,dJ]
 unfold mu oP lY pD pE oQ oR pF gX
 by_cases hn:0<=t.n/\t.n<=11
 ·have h9:=LN hn
  obtain⟨MY,hn2⟩:=hn
  by_cases h7:(fh t.n).2=7
  ·simp[hk,h0,h1,h2,h3,h4,bR,iW,h9,h7,MY,hn2]
  ·simp[hk,h0,h1,h2,h3,h4,bR,iW,h9,h7,MY,hn2]
 have h9:=HP hn
 have hd:decide (0<=t.n/\t.n<=11)=false:=aoP hn
 rw[hd]
 simp[hk,h0,h1,h2,h3,h4,bR,iW,h9]
theorem afH{t:Tm}(hk:t.kind=5)(hu:bt t=true):ak t=(gX t 3 0&&t.kids.all ak):=by
 obtain⟨-,h0,h1,h2,h3,h4,h5⟩:=agC hk hu
 rw[fE,dJ]
 unfold mu oP lY pD pE oQ oR pF gX
 simp[hk,h0,h1,h2,h3,h4,h5,bR,iW]
theorem afI{t:Tm}(hk:t.kind=6)(hu:bt t=true):ak t=(gX t 2 1&&t.names.all isWord&&t.kids.all ak):=by
 obtain⟨-,h0,h1,h2,h3,h4⟩:=agD hk hu
 rw[fE,dJ]
 unfold mu oP lY pD pE oQ oR pF gX
 simp[hk,h0,h1,h2,h3,h4,bR,iW]
theorem Zd{t:Tm}(hk:t.kind=7)(hu:bt t=true):ak t=(decide ((t.names.length:Int)=t.kids.length)&&t.names.all isWord&&cT t.name&&t.kids.all ak):=by
 obtain⟨-,h0,h1,h2,h3⟩:=agE hk hu
 rw[fE,dJ]
 unfold mu oP lY pD pE oQ oR pF
 simp[hk,h0,h1,h2,h3,bR,iW]
theorem Ze{t:Tm}(hk:t.kind=8)(hu:bt t=true):ak t=(decide ((t.kids.length:Int)=1)&&cT t.name&&isWord t.field&&t.kids.all ak):=by
 obtain⟨-,h0,h1,h2,h3⟩:=ade hk hu
 rw[fE,dJ]
 unfold mu oP lY pD pE oQ oR pF
 simp[hk,h0,h1,h2,h3,bR,iW]
theorem Zf{t:Tm}(hk:t.kind=9)(hu:bt t=true):ak t=(decide ((t.kids.length:Int)=1)&&cT t.name&&isWord t.field&&t.kids.all ak):=by
 obtain⟨-,h0,h1,h2,h3⟩:=adf hk hu
 rw[fE,dJ]
 unfold mu oP lY pD pE oQ oR pF
 simp[hk,h0,h1,h2,h3,bR,iW]
theorem RX{t:Tm}(hk:t.kind=10)(hu:bt t=true):ak t=(decide (2<=t.kids.length)&&decide ((t.names.length:Int)=2*((t.kids.length:Int)-1))&&t.names.all isWord&&cT t.name&&t.kids.all ak):=by
 obtain⟨-,h0,h1,h2,h3⟩:=Zn hk hu
 rw[fE,dJ]
 unfold mu oP lY pD pE oQ oR pF
 by_cases h7:t.kids.length<2
 ·have h8:decide (2<=t.kids.length)=false:=aoP (by omega)
  rw[h8]
  simp[hk,h0,h1,h2,h3,bR,iW,h7]
 have h8:decide (2<=t.kids.length)=true:=decide_eq_true (by omega)
 rw[h8]
 simp[hk,h0,h1,h2,h3,bR,iW,h7]
theorem ab2{t:Tm}(hk:t.kind=11)(hu:bt t=true):ak t=(bk (.mk t.wn t.wk)&&t.kids.all ak):=by
 obtain⟨-,h0,h1,h2,h3⟩:=Zo hk hu
 rw[fE,dJ]
 unfold mu oP lY pD pE oQ oR pF
 simp[hk,h0,h1,h2,h3,bR,iW]
theorem ab3{t:Tm}(hk:t.kind=12)(hu:bt t=true):ak t=(gX t 3 2&&t.names.all isWord&&t.kids.all ak):=by
 obtain⟨-,h0,h1,h2,h3,h4⟩:=Zp hk hu
 rw[fE,dJ]
 unfold mu oP lY pD pE oQ oR pF gX
 simp[hk,h0,h1,h2,h3,h4,bR,iW]
section
theorem Ho{ks:List Tm} : ∀ i,i<=ks.length->xQ ks i=(ks.take i).all ak
 | 0,_=>by simp[xQ]
 | i+1,h=>by
  have hx:=an3 (show i<ks.length by omega)
  have hg:ks.getD i j9=ks[i]:=by rw[List.getD,hx];rfl
  rw[zG,Ho i (by omega),iV hx,List.all_append,hg];simp
theorem rT{ks:List Tm} : xQ ks ks.length=ks.all ak:=by rw[Ho _ (an4 _),aps]
theorem u7{ob:Nat->Bool}{ks:List Tm} : ∀ i,xB ob ks i=((List.range i).all ob&&xQ ks i)
 | 0=>rfl
 | i+1=>by
  rw[Hn,zG,u7 i,List.range_succ,List.all_append]
  simp only[aoV,ao5,Bool.and_true]
  cases (List.range i).all ob<;>cases xQ ks i<;>cases ob i<;>cases ak (ks.getD i j9)<;>rfl
theorem u9{ks:List Tm} : xB (fun _=>true) ks ks.length=ks.all ak:=by
 rw[u7,rT]
 have:(List.range ks.length).all (fun _=>true)=true:=by simp
 rw[this,aon]
theorem zj{tb:Nat->List cd}{ks:List Tm} : ∀ i,i<=ks.length->Df tb ks i=((ks.take i).zipIdx.map fun p=>tb p.2++av p.1)
 | 0,_=>by simp[Df]
 | i+1,h=>by
  have hx:=an3 (show i<ks.length by omega)
  have hg:ks.getD i j9=ks[i]:=by rw[List.getD,hx];rfl
  have hl:(ks.take i).length=i:=by rw[ao2];omega
  rw[GZ,zj i (by omega),iV hx,hg,List.zipIdx_append,List.map_append,hl];simp
theorem Lx{ks:List Tm} : Df (fun _=>[]) ks ks.length=ks.map av:=by
 rw[zj _ (an4 _),aps]
 simp only[ao0]
 have:∀ (l:List Tm) (k:Nat),(l.zipIdx k).map (fun p=>av p.1)=l.map av:=by
  intro l;induction l with
  | nil=>intro k;rfl
  | cons a r ih=>intro k;simp only[List.zipIdx_cons,aoc,ih]
 exact this ks 0
theorem V4{ks:List Tm}{ns:List cd}(h:ns.length=ks.length):Df (fun j=>[ns.getD j [],[61]]) ks ks.length=List.zipWith (fun s (x:List cd × Int)=>[s,[61]]++x.1) ns (ks.map fun t=>(av t,fl t)):=by
 rw[zj _ (an4 _),aps]
 have:∀ (l:List Tm) (m:List cd) (k:Nat),m.length=l.length->(∀ j,j<l.length->ns.getD (k+j) []=m.getD j [])->(l.zipIdx k).map (fun p=>[ns.getD p.2 [],[61]]++av p.1)=List.zipWith (fun s (x:List cd × Int)=>[s,[61]]++x.1) m (l.map fun t=>(av t,fl t)):=by
  intro l;induction l with
  | nil=>intro m k hm _;cases m with|nil=>rfl|cons a r=>simp at hm
  | cons a r ih =>
   intro m k hm hg
   cases m with
   | nil=>simp at hm
   | cons b q =>
    have h0:=hg 0 (by simp)
    simp only[aos] at h0
    simp only[List.zipIdx_cons,aoc,List.zipWith_cons_cons,h0]
    rw[ih q (k+1) (by simpa using hm) (fun j hj=>by
     have:=hg (j+1) (by simp;omega)
     rw[show k+(j+1)=k+1+j by omega] at this
     rw[this];rfl)]
    rfl
 exact this ks ns 0 h (fun j _=>by rw[Nat.zero_add])
theorem NA{ns:List cd} : (List.range ns.length).all (fun j=>isWord (ns.getD j []))=ns.all isWord:=by
 rw[Bool.eq_iff_iff,an',an']
 constructor
 ·intro h x hx
  obtain⟨i,hi⟩:=aoC hx
  have hl:=(an2.1 hi).1
  have:=h i (by simpa using hl)
  rwa [List.getD,hi] at this
 ·intro h j hj
  have hl:j<ns.length:=by simpa using hj
  rw[getD_at hl]
  exact h _ (aoX hl)
section
variable {n:Int}{a f p q r u:cd}{w:Wd}{ns:List cd}{tl:List (List cd × Int)}{x y z:List cd × Int}
theorem b0:gx 0 n a f w ns tl=if n<0 then [[45],mH (-n).toNat] else [mH n.toNat]:=rfl
theorem b1:gx 1 n a f w ns tl=[if n=0 then [102,97,108,115,101] else [116,114,117,101]]:=rfl
theorem b2:gx 2 n a f w ns tl=[a]:=rfl
theorem b3:gx 3 n a f w ns tl=cU a++[[40]]++aR (tl.map (·.1))++[[41]]:=rfl
theorem b4a:gx 4 n a f w ns [x]=[(fh n).1]++o6 x 7:=rfl
theorem b4b:gx 4 n a f w ns [x,y]=o6 x (if (fh n).2=3 then 4 else (fh n).2)++[(fh n).1]++o6 y ((fh n).2+1):=rfl
theorem b5:gx 5 n a f w ns [x,y,z]=[[105,102]]++x.1++[[116,104,101,110]]++y.1++[[101,108,115,101]]++z.1:=rfl
theorem b6:gx 6 n a f w [p] [x,y]=[[108,101,116],p,[61]]++x.1++[[105,110]]++y.1:=rfl
theorem b7:gx 7 n a f w ns tl=cU a++[[123]]++aR (List.zipWith (fun s (x:List cd × Int)=>[s,[61]]++x.1) ns tl)++[[125]]:=rfl
theorem b8:gx 8 n a f w ns [x]=cU a++[[58],f]++[[91]]++x.1++[[93]]:=rfl
theorem b9:gx 9 n a f w ns [x]=cU a++[[58],f]++[[40]]++x.1++[[41]]:=rfl
theorem ahk:gx 10 n a f w [p,q] [x,y]=[[109,97,116,99,104]]++cU a++[[40]]++x.1++[[41]]++[[123]]++([p,q,[45,62]]++y.1)++[[125]]:=rfl
theorem ahl:gx 10 n a f w [p,q,r,u] [x,y,z]=[[109,97,116,99,104]]++cU a++[[40]]++x.1++[[41]]++[[123]]++([p,q,[45,62]]++y.1++[[44]]++[r,u,[45,62]]++z.1)++[[125]]:=rfl
theorem b11:gx 11 n a f w ns tl=[gP]++[[40]]++fe w++[[41]]++[[91]]++aR (tl.map (·.1))++[[93]]:=rfl
theorem b12:gx 12 n a f w [p,q] [x,y,z]=[[102,111,108,100],p,[44],q,[61]]++y.1++[[111,118,101,114]]++x.1++[[100,111]]++z.1:=rfl
end
theorem pt2{a b:cd}{x y:Tm} : N9 [a,b] [x,y] 2=[a]++av x++[b]++av y:=by simp[N9,List.range_succ]
theorem pt3{a b c:cd}{x y z:Tm} : N9 [a,b,c] [x,y,z] 3=[a]++av x++[b]++av y++[c]++av z:=by simp[N9,List.range_succ]
end
theorem PW.LI{mm:Nat}{K:ai}(h:PW mm K){a b:cJ}(ha:∀ cs,a≠.ba cs)(hb:∀ cs,b≠.ba cs):PW mm (K++[a,b]):=by
 have:=(h.push ha).push hb
 rwa [apd] at this
theorem xW{mm:Nat}{l:List cd}{b:Bool}{K:ai}(h:PW mm K){x y:cJ} : (cE mm l b (K++[x,y]))[K.length]?=some x:=by rw[DQ (by have:=h.lt;omega)];exact Ue
theorem xX{mm:Nat}{l:List cd}{b:Bool}{K:ai}(h:PW mm K){x y:cJ} : (cE mm l b (K++[x,y]))[K.length+1]?=some y:=by rw[DQ (by have:=h.lt;omega)];exact h2b
theorem Cm{A:AP}{T:aU}{H:ai}{lo gen t ty l off:Nat}{os:List aO}{K:AS->Prop}(h:l<=H.length):IG A ty (.ref l off) t os T H lo gen K=WO A false os ⟨T.put t (.ref H.length 0),H++[.box ty [.ref l off]],cond (Nat.blt H.length lo) H.length lo,gen⟩ K:=by
 simp only[IG,AV.drop,AV.cells,an8,aoV,ao5,bD,ao1 h,Bool.and_true,cond_true]
 exact aJ
theorem RT{b x y:Bool}(h:(b || !(x&&y))=false):(b || !x)=false:=by cases b<;>cases x<;>simp_all
structure TyH (mm:Nat) (t:Tm) (n:Nat) (K:ai):Prop where
 p:PW mm K
 w:∀ l b,(cE mm l b K)[n]?=some (.box 72 [.ref mm 0])
 t:∀ l b,(cE mm l b K)[n+1]?=some (.box 45 [.int .i64 t.kind,.int .i64 t.n,.str t.name,.str t.field,.str t.wn,.slice (ax t.wk) false,.slice (ar t.kids) false,.slice (strs t.names) false])
theorem ZH{mm n:Nat}{t:Tm}{K:ai}(h:TyH mm t n K)(i:Nat)(hi:i<t.names.length)(D6:∀ s∈t.names,s.length<=1100000):Bef mm K 89 [.ref n 0,.ref (n+1) 0] i (isWord (t.names.getD i [])) [t.names.getD i [],[61]] 2:=by
 intro l b hl
 have gq:=pt hi
 have tV:=Jw D6 i
 generalize t.names.getD i []=s at gq tV ⊢
 obtain⟨l1,e1,t1,n1⟩:=jh h.p s (by omega) l b (by omega)
 obtain⟨l2,e2,t2,n2⟩:=fL h.p [[61]] (by simp) l1 (b || !isWord s) (by simp only[an0,an1];omega)
 simp only[an0,an1] at n2
 rw[pg,tU] at e2
 rw[pg] at t2
 refine⟨l2,_,?_,.inl rfl,fun hp=>by rw[t2 hp,t1 hp];simp,by omega⟩
 refine aD (fn:=Rk) rfl rfl rfl ?_
 unfold Rk
 have hw:=h.w
 have ht:=h.t
 have bA:=h.p.lt
 have ho:=h.p.open l2 (b || !isWord s)
 generalize (b || !isWord s)=b1 at *
 simp(disch:=omega)only[aY,aa,simprocAttr,hw,ht,gq,e1,e2,ga,ho,az,an6,an5,anZ,cond_true,aB,ay,an,anW,anX,ab]
theorem ZG{mm n:Nat}{t:Tm}{K:ai}(h:TyH mm t n K)(i:Nat)(hi:2*i+1<t.names.length)(qk:t.names.length<=100)(D6:∀ s∈t.names,s.length<=1100000) :
  Bef mm K 88 [.ref n 0,.ref (n+1) 0] i (isWord (t.names.getD (2*i) [])&&isWord (t.names.getD (2*i+1) [])) [t.names.getD (2*i) [],t.names.getD (2*i+1) [],[45,62]] 3:=by
 intro l b hl
 have gq:=pt (show 2*i<t.names.length by omega)
 have Pz:=pt hi
 have tV:=Jw D6 (2*i)
 have aiv:=Jw D6 (2*i+1)
 generalize t.names.getD (2*i) []=s at gq tV ⊢
 generalize t.names.getD (2*i+1) []=s2 at Pz aiv ⊢
 obtain⟨l1,e1,t1,n1⟩:=jh h.p s (by omega) l b (by omega)
 obtain⟨l2,e2,t2,n2⟩:=jh h.p s2 (by omega) l1 (b || !isWord s) (by omega)
 rw[RU] at e2 t2
 obtain⟨l3,e3,t3,n3⟩:=fL h.p [[45,62]] (by simp) l2 (b || !(isWord s&&isWord s2)) (by simp only[an0,an1];omega)
 simp only[an0,an1] at n3
 rw[pg,tU] at e3
 rw[pg] at t3
 refine⟨l3,_,?_,.inl rfl,fun hp=>?_,by omega⟩
 ·refine aD (fn:=Rj) rfl rfl rfl ?_
  unfold Rj
  have hw:=h.w
  have ht:=h.t
  have bA:=h.p.lt
  have ho:=h.p.open l3 (b || !(isWord s&&isWord s2))
  have en:asNat (.int .i64 (2*(i:Int)))=some (2*i):=by rw[bO (by omega)];congr 1
  have en2:asNat (.int .i64 (2*(i:Int)+1))=some (2*i+1):=by rw[bO (by omega)];congr 1
  generalize (b || !(isWord s&&isWord s2))=b2 at *
  generalize (b || !isWord s)=b1 at *
  simp(disch:=omega)only[aY,aa,simprocAttr,hw,ht,gq,Pz,en,en2,e1,e2,e3,ga,ho,az,an6,an5,anZ,cond_true,aB,ay,an,anW,anX,ab]
 ·have h1:(b || !isWord s)=false:=RT hp
  rw[t3 hp,t2 hp,t1 h1];simp
def oJ(mm:Nat)(K:ai)(f:FuncId)(args:List AV)(ok:Bool)(nK:List cd)(n:Nat):Prop :=
 ∀ l,l.length+n<=10000000->∃ l',aE A f args (cE mm l false K)=some (.undef,some ⟨cE mm l' (!ok) K,mm⟩)/\(ok=true->l'=l++nK)/\l'.length<=l.length+n
theorem S1{n:Nat}(hn:n<=10000){t:Tm}(hk:t.kind=8)(hu:bt t=true)(Bz:t.name.length<=1100000)(C8:t.field.length<=1100000)(gF:∀ u∈t.kids,jV n u){mm:Nat}{K:ai}(hP:PW mm K):oJ mm K 57 [.ref mm 0,.agg (cV t)] (ak t) (av t) (n+7):=by
 intro l hl
 have l9:=Ze hk hu
 have hF:=ade hk hu
 rw[l9]
 rw[al]
 have fp:PW mm (K++[.box 72 [.ref mm 0],.box 45 [.int .i64 t.kind,.int .i64 t.n,.str t.name,.str t.field,.str t.wn,.slice (ax t.wk) false,.slice (ar t.kids) false,.slice (strs t.names) false]]):=hP.LI (fun cs e=>by cases e) (fun cs e=>by cases e)
 have hH:TyH mm t K.length (K++[.box 72 [.ref mm 0],.box 45 [.int .i64 t.kind,.int .i64 t.n,.str t.name,.str t.field,.str t.wn,.slice (ax t.wk) false,.slice (ar t.kids) false,.slice (strs t.names) false]]):=⟨fp,fun l b=>xW hP,fun l b=>xX hP⟩
 have cw:=lP (l:=l) (b:=false) hP (L:=[.box 72 [.ref mm 0],.box 45 [.int .i64 t.kind,.int .i64 t.n,.str t.name,.str t.field,.str t.wn,.slice (ax t.wk) false,.slice (ar t.kids) false,.slice (strs t.names) false]])
 have hT:=fun l b=>kG (l:=l) (b:=b) hP (L:=[.box 72 [.ref mm 0],.box 45 [.int .i64 t.kind,.int .i64 t.n,.str t.name,.str t.field,.str t.wn,.slice (ax t.wk) false,.slice (ar t.kids) false,.slice (strs t.names) false]])
 have hO:=fun l b=>hP.BU (L:=[.box 72 [.ref mm 0],.box 45 [.int .i64 t.kind,.int .i64 t.n,.str t.name,.str t.field,.str t.wn,.slice (ax t.wk) false,.slice (ar t.kids) false,.slice (strs t.names) false]]) l b
 have bA:=hP.lt
 have vQ:=fun (ty off t:Nat) (os:List aO) (T:aU) (lo gen:Nat) (Q:AS->Prop)=>Cm (A:=A) (T:=T) (H:=cE mm l false K) (lo:=lo) (gen:=gen) (t:=t) (ty:=ty) (l:=mm) (off:=off) (os:=os) (K:=Q) (by rw[aB];omega)
 have o4:decide (K.length+1<K.length)=false:=by simp
 generalize K++[.box 72 [.ref mm 0],.box 45 [.int .i64 t.kind,.int .i64 t.n,.str t.name,.str t.field,.str t.wn,.slice (ax t.wk) false,.slice (ar t.kids) false,.slice (strs t.names) false]]=K1 at fp hH cw hT hO
 have hw:=hH.w
 have ht:=hH.t
 obtain⟨l1,e1,t1,n1⟩:=pn fp t.name (by omega) l false (by omega)
 rw[aog] at e1 t1
 have hv:=qR fp t 1 0 l1 (!cT t.name)
 rw[al] at hv
 have hn0:(t.names.length:Int)=0:=by rw[show t.names=[] from by simp_all];rfl
 have PJ:gX t 1 0=decide ((t.kids.length:Int)=1):=by unfold gX;rw[decide_eq_true hn0,Bool.and_true]
 rw[PJ] at hv
 by_cases hg:(decide ((t.kids.length:Int)=1)&&cT t.name)=true
 ·rw[hg,aon]
  simp only[an7,aoq] at hg
  obtain⟨g1,g2⟩:=hg
  obtain⟨x,hx⟩:∃ x,t.kids=[x]:=by
   have:t.kids.length=1:=by omega
   exact He this
  have JH:=gF x (by rw[hx];simp)
  have gq:(ar t.kids)[0]?=some (cV x):=by rw[hx];simp[ar]
  unfold jV at JH
  rw[al x] at gq JH
  rw[decide_eq_true g1,g2] at hv
  rw[g2] at e1 t1
  simp only[aoe,aoR,aoa] at e1 t1 hv
  obtain⟨l2,e2,t2,n2⟩:=fL fp [[58]] (by simp) l1 false (by simp only[an0,an1];omega)
  obtain⟨l3,e3,t3,n3⟩:=jh fp t.field (by omega) l2 false (by simp only[an0,an1] at n2;omega)
  obtain⟨l4,e4,t4,n4⟩:=fL fp [[91]] (by simp) l3 (!isWord t.field) (by simp only[an0,an1] at n2 ⊢;omega)
  simp only[an0,an1] at n2 n4
  obtain⟨l5,e5,t5,n5⟩:=JH mm K1 fp l4 (!isWord t.field) (by omega)
  obtain⟨l6,e6,t6,n6⟩:=fL fp [[93]] (by simp) l5 (!isWord t.field || !ak x) (by simp only[an0,an1];omega)
  simp only[an0,an1] at n6
  simp only[pg,tU,aog] at e2 e3 e4 e5 e6 t2 t3 t4 t5 t6
  have fH:t.kids.all ak=ak x:=by rw[hx];simp
  rw[fH]
  have eo:(!isWord t.field || !ak x)=!(isWord t.field&&ak x):=by cases isWord t.field<;>cases ak x<;>rfl
  rw[eo] at e5 e6 t5 t6
  refine⟨l6,?_,fun hp=>?_,by omega⟩
  ·refine aD (fn:=nD) rfl rfl rfl ?_
   unfold nD
   have ho:=hO l6 (!(isWord t.field&&ak x))
   generalize (!(isWord t.field&&ak x))=b6 at *
   generalize (!isWord t.field)=b3 at *
   simp(disch:=omega)only[aY,aa,simprocAttr,cw,vQ,hw,ht,gq,hv,e1,e2,e3,e4,e5,e6,hT,ho,o4,az,an6,an5,anZ,cond_true,aB,ay,an,anW,anX,ab]
  ·have hf:isWord t.field=true:=by cases h:isWord t.field<;>simp_all
   have PU:ak x=true:=by cases h:ak x<;>simp_all
   rw[t6 (by simp[hf,PU]),t5 (by simp[hf,PU]),t4 (by simp[hf]),t3 (by simp[hf]),t2 (by trivial),t1 (by trivial),cM t,hx,hk]
   simp[b8]
 ·have hg' : (decide ((t.kids.length:Int)=1)&&cT t.name)=false:=by cases h:(decide ((t.kids.length:Int)=1)&&cT t.name)<;>simp_all
  rw[hg',aoj,aoj]
  have eb:(!cT t.name || !decide ((t.kids.length:Int)=1))=true:=by cases h1:decide ((t.kids.length:Int)=1)<;>cases h2:cT t.name<;>simp_all
  rw[eb] at hv
  refine⟨l1,?_,(fun h=>by cases h),by omega⟩
  refine aD (fn:=nD) rfl rfl rfl ?_
  unfold nD
  have ho:=hO l1 true
  generalize (!cT t.name)=b1 at *
  simp(disch:=omega)only[aY,aa,simprocAttr,cw,vQ,hw,ht,hv,e1,hT,ho,o4,aoe,aoa,az,an6,an5,anZ,cond_true,aB,ay,an,anW,anX,ab]
theorem S2{n:Nat}(hn:n<=10000){t:Tm}(hk:t.kind=9)(hu:bt t=true)(Bz:t.name.length<=1100000)(C8:t.field.length<=1100000)(gF:∀ u∈t.kids,jV n u){mm:Nat}{K:ai}(hP:PW mm K):oJ mm K 57 [.ref mm 0,.agg (cV t)] (ak t) (av t) (n+7):=by
 intro l hl
 have l9:=Zf hk hu
 have hF:=adf hk hu
 rw[l9]
 rw[al]
 have fp:PW mm (K++[.box 72 [.ref mm 0],.box 45 [.int .i64 t.kind,.int .i64 t.n,.str t.name,.str t.field,.str t.wn,.slice (ax t.wk) false,.slice (ar t.kids) false,.slice (strs t.names) false]]):=hP.LI (fun cs e=>by cases e) (fun cs e=>by cases e)
 have hH:TyH mm t K.length (K++[.box 72 [.ref mm 0],.box 45 [.int .i64 t.kind,.int .i64 t.n,.str t.name,.str t.field,.str t.wn,.slice (ax t.wk) false,.slice (ar t.kids) false,.slice (strs t.names) false]]):=⟨fp,fun l b=>xW hP,fun l b=>xX hP⟩
 have cw:=lP (l:=l) (b:=false) hP (L:=[.box 72 [.ref mm 0],.box 45 [.int .i64 t.kind,.int .i64 t.n,.str t.name,.str t.field,.str t.wn,.slice (ax t.wk) false,.slice (ar t.kids) false,.slice (strs t.names) false]])
 have hT:=fun l b=>kG (l:=l) (b:=b) hP (L:=[.box 72 [.ref mm 0],.box 45 [.int .i64 t.kind,.int .i64 t.n,.str t.name,.str t.field,.str t.wn,.slice (ax t.wk) false,.slice (ar t.kids) false,.slice (strs t.names) false]])
 have hO:=fun l b=>hP.BU (L:=[.box 72 [.ref mm 0],.box 45 [.int .i64 t.kind,.int .i64 t.n,.str t.name,.str t.field,.str t.wn,.slice (ax t.wk) false,.slice (ar t.kids) false,.slice (strs t.names) false]]) l b
 have bA:=hP.lt
 have vQ:=fun (ty off t:Nat) (os:List aO) (T:aU) (lo gen:Nat) (Q:AS->Prop)=>Cm (A:=A) (T:=T) (H:=cE mm l false K) (lo:=lo) (gen:=gen) (t:=t) (ty:=ty) (l:=mm) (off:=off) (os:=os) (K:=Q) (by rw[aB];omega)
 have o4:decide (K.length+1<K.length)=false:=by simp
 generalize K++[.box 72 [.ref mm 0],.box 45 [.int .i64 t.kind,.int .i64 t.n,.str t.name,.str t.field,.str t.wn,.slice (ax t.wk) false,.slice (ar t.kids) false,.slice (strs t.names) false]]=K1 at fp hH cw hT hO
 have hw:=hH.w
 have ht:=hH.t
 obtain⟨l1,e1,t1,n1⟩:=pn fp t.name (by omega) l false (by omega)
 rw[aog] at e1 t1
 have hv:=qR fp t 1 0 l1 (!cT t.name)
 rw[al] at hv
 have hn0:(t.names.length:Int)=0:=by rw[show t.names=[] from by simp_all];rfl
 have PJ:gX t 1 0=decide ((t.kids.length:Int)=1):=by unfold gX;rw[decide_eq_true hn0,Bool.and_true]
 rw[PJ] at hv
 by_cases hg:(decide ((t.kids.length:Int)=1)&&cT t.name)=true
 ·rw[hg,aon]
  simp only[an7,aoq] at hg
  obtain⟨g1,g2⟩:=hg
  obtain⟨x,hx⟩:∃ x,t.kids=[x]:=by
   have:t.kids.length=1:=by omega
   exact He this
  have JH:=gF x (by rw[hx];simp)
  have gq:(ar t.kids)[0]?=some (cV x):=by rw[hx];simp[ar]
  unfold jV at JH
  rw[al x] at gq JH
  rw[decide_eq_true g1,g2] at hv
  rw[g2] at e1 t1
  simp only[aoe,aoR,aoa] at e1 t1 hv
  obtain⟨l2,e2,t2,n2⟩:=fL fp [[58]] (by simp) l1 false (by simp only[an0,an1];omega)
  obtain⟨l3,e3,t3,n3⟩:=jh fp t.field (by omega) l2 false (by simp only[an0,an1] at n2;omega)
  obtain⟨l4,e4,t4,n4⟩:=fL fp [[40]] (by simp) l3 (!isWord t.field) (by simp only[an0,an1] at n2 ⊢;omega)
  simp only[an0,an1] at n2 n4
  obtain⟨l5,e5,t5,n5⟩:=JH mm K1 fp l4 (!isWord t.field) (by omega)
  obtain⟨l6,e6,t6,n6⟩:=fL fp [[41]] (by simp) l5 (!isWord t.field || !ak x) (by simp only[an0,an1];omega)
  simp only[an0,an1] at n6
  simp only[pg,tU,aog] at e2 e3 e4 e5 e6 t2 t3 t4 t5 t6
  have fH:t.kids.all ak=ak x:=by rw[hx];simp
  rw[fH]
  have eo:(!isWord t.field || !ak x)=!(isWord t.field&&ak x):=by cases isWord t.field<;>cases ak x<;>rfl
  rw[eo] at e5 e6 t5 t6
  refine⟨l6,?_,fun hp=>?_,by omega⟩
  ·refine aD (fn:=nD) rfl rfl rfl ?_
   unfold nD
   have ho:=hO l6 (!(isWord t.field&&ak x))
   generalize (!(isWord t.field&&ak x))=b6 at *
   generalize (!isWord t.field)=b3 at *
   simp(disch:=omega)only[aY,aa,simprocAttr,cw,vQ,hw,ht,gq,hv,e1,e2,e3,e4,e5,e6,hT,ho,o4,az,an6,an5,anZ,cond_true,aB,ay,an,anW,anX,ab]
  ·have hf:isWord t.field=true:=by cases h:isWord t.field<;>simp_all
   have PU:ak x=true:=by cases h:ak x<;>simp_all
   rw[t6 (by simp[hf,PU]),t5 (by simp[hf,PU]),t4 (by simp[hf]),t3 (by simp[hf]),t2 (by trivial),t1 (by trivial),cM t,hx,hk]
   simp[b9]
 ·have hg' : (decide ((t.kids.length:Int)=1)&&cT t.name)=false:=by cases h:(decide ((t.kids.length:Int)=1)&&cT t.name)<;>simp_all
  rw[hg',aoj,aoj]
  have eb:(!cT t.name || !decide ((t.kids.length:Int)=1))=true:=by cases h1:decide ((t.kids.length:Int)=1)<;>cases h2:cT t.name<;>simp_all
  rw[eb] at hv
  refine⟨l1,?_,(fun h=>by cases h),by omega⟩
  refine aD (fn:=nD) rfl rfl rfl ?_
  unfold nD
  have ho:=hO l1 true
  generalize (!cT t.name)=b1 at *
  simp(disch:=omega)only[aY,aa,simprocAttr,cw,vQ,hw,ht,hv,e1,hT,ho,o4,aoe,aoa,az,an6,an5,anZ,cond_true,aB,ay,an,anW,anX,ab]
theorem R1{mm:Nat}{K:ai}(h:PW mm K)(xs l:List cd)(b:Bool)(hx:xs.length<=1000)(hl:l.length+xs.length<=10000000):aE A 21 [.ref mm 0,.slice (strs xs) false] (cE mm l b K)=some (.undef,some ⟨cE mm (l++xs) b K,mm⟩):=by
 refine aD (fn:=Dc) rfl rfl rfl ?_
 unfold Dc
 have h0:=fG (l:=l) (b:=b) h
 unfold lq at h0
 have a1:aF false 1 16 (.slice (strs l) true) (.slice (strs xs) false)=some (.slice (strs (l++xs)) true):=cD (by omega)
 have bA:=h.lt
 have ho:=h.open (l++xs) b
 have h1:∀ x:cJ,((cE mm l b K).set mm x)[mm]?=some x:=fun x=>List.getElem?_set_self (by rw[aB];exact bA)
 simp(disch:=omega)only[aY,aa,simprocAttr,h0,h1,a1,aB,rz,List.set_set,ga,ho,ay,an,anW,anX,ab]
theorem SE(n:Int):0<=(fh n).2/\(fh n).2<=7:=by
 by_cases h:0<=n/\n<=11
 ·have:n=0\/n=1\/n=2\/n=3\/n=4\/n=5\/n=6\/n=7\/n=8\/n=9\/n=10\/n=11:=by omega
  rcases this with rfl|rfl|rfl|rfl|rfl|rfl|rfl|rfl|rfl|rfl|rfl|rfl<;>decide
 ·rw[HP h];decide
theorem abZ{n:Nat}(hn:n<=9000){t:Tm}(hk:t.kind=4)(hu:bt t=true)(gF:∀ u∈t.kids,jV n u){mm:Nat}{K:ai}(hP:PW mm K):oJ mm K 54 [.ref mm 0,.agg (cV t)] (ak t) (av t) (2*n+5):=by
 intro l hl
 have l9:=Zc hk hu
 have hF:=adb hk hu
 rw[l9]
 have oo:=cM t
 rw[hk] at oo
 rw[al]
 obtain⟨K1,fp,cw,dA,hT,hO⟩:=lD hP t
 have bA:=hP.lt
 have hs:=fun K=>HQ t.n K
 have hn0:(t.names.length:Int)=0:=by rw[show t.names=[] from by simp_all];rfl
 have hc:=fun ok=>fO fp ok l false
 have hv:=fun k b=>qR fp t k 0 l b
 rw[al] at hv
 have PJ:∀ k,gX t k 0=decide ((t.kids.length:Int)=k):=fun k=>by unfold gX;rw[decide_eq_true hn0,Bool.and_true]
 rw[PJ]
 by_cases hr:0<=t.n/\t.n<=11
 ·have hsw:lk t.n=fh t.n:=LM (by omega)
  have ff:=LN hr
  obtain⟨v0,v7⟩:=SE t.n
  rw[hsw] at hs
  rw[decide_eq_true hr,aon]
  generalize hsg:fh t.n=sg at *
  obtain⟨s,lv⟩:=sg
  simp only at ff v0 v7 hs ⊢
  have hse:(s==[])=false:=by simpa using ff
  by_cases h7:lv=7
  ·subst h7
   rw[if_pos rfl]
   have hc:=hc true
   have hv:=hv 1 false
   rw[PJ] at hv
   simp only[aoe,aop,aog] at hc hv
   by_cases g1:(t.kids.length:Int)=1
   ·rw[decide_eq_true g1] at hv ⊢
    rw[aon]
    simp only[aoe,aoa] at hv
    obtain⟨x,hx⟩:∃ x,t.kids=[x]:=He (by omega)
    have JH:=gF x (by rw[hx];simp)
    have gq:(ar t.kids)[0]?=some (cV x):=by rw[hx];simp[ar]
    obtain⟨l1,e1,t1,n1⟩:=fL fp [s] (by simp) l false (by simp only[an0,an1];omega)
    simp only[an0,an1] at n1
    obtain⟨l2,e2,t2,n2⟩:=J4 JH 7 fp l1 false (by omega)
    simp only[pg,tU,aog] at e1 e2 t1 t2
    rw[al x] at gq e2
    have fH:t.kids.all ak=ak x:=by rw[hx];simp
    rw[fH]
    refine⟨l2,?_,fun hp=>?_,by omega⟩
    ·refine aD (fn:=vX) rfl rfl rfl ?_
     unfold vX
     have ho:=hO l2 (!ak x)
     generalize (!ak x)=b2 at *
     simp(disch:=omega)only[aY,aa,simprocAttr,cw,dA,hs,bne,hse,hc,hv,gq,e1,e2,hT,ho,aoa,az,an6,an5,anZ,cond_true,aB,ay,an,anW,anX,ab]
    ·rw[t2 (by simp[hp]),t1 (by trivial),oo,hx]
     simp[b4a,b4b,hsg]
   ·rw[aoP g1] at hv ⊢
    simp only[aoa,aoe,aoj] at hv ⊢
    refine⟨l,?_,(fun h=>by cases h),by omega⟩
    refine aD (fn:=vX) rfl rfl rfl ?_
    unfold vX
    have ho:=hO l true
    simp(disch:=omega)only[aY,aa,simprocAttr,cw,dA,hs,bne,hse,hc,hv,hT,ho,aoa,az,an6,an5,anZ,cond_true,aB,ay,an,anW,anX,ab]
  ·rw[if_neg h7]
   have hv:=hv 2 false
   rw[PJ] at hv
   simp only[aog] at hv
   by_cases g1:(t.kids.length:Int)=2
   ·rw[decide_eq_true g1] at hv ⊢
    rw[aon]
    simp only[aoe,aoa] at hv
    obtain⟨x,y,hx⟩:∃ x y,t.kids=[x,y]:=Hf (by omega)
    have JH:=gF x (by rw[hx];simp)
    have hky:=gF y (by rw[hx];simp)
    have gq:(ar t.kids)[0]?=some (cV x):=by rw[hx];simp[ar]
    have aay:(ar t.kids)[1]?=some (cV y):=by rw[hx];simp[ar]
    obtain⟨l1,e1,t1,n1⟩:=J4 JH (if lv=3 then 4 else lv) fp l false (by omega)
    obtain⟨l2,e2,t2,n2⟩:=fL fp [s] (by simp) l1 (!ak x) (by simp only[an0,an1];omega)
    simp only[an0,an1] at n2
    obtain⟨l3,e3,t3,n3⟩:=J4 hky (lv+1) fp l2 (!ak x) (by omega)
    simp only[pg,tU,aog] at e1 e2 e3 t1 t2 t3
    rw[al x] at gq e1
    rw[al y] at aay e3
    have fH:t.kids.all ak=(ak x&&ak y):=by rw[hx];simp
    rw[fH]
    have eo:(!ak x || !ak y)=!(ak x&&ak y):=by cases ak x<;>cases ak y<;>rfl
    rw[eo] at e3 t3
    refine⟨l3,?_,fun hp=>?_,by omega⟩
    ·refine aD (fn:=vX) rfl rfl rfl ?_
     unfold vX
     have ho:=hO l3 (!(ak x&&ak y))
     generalize (!(ak x&&ak y))=b3 at *
     generalize (!ak x)=b2 at *
     by_cases h3:lv=3
     ·subst h3
      rw[if_pos rfl] at e1
      rw[show (3:Int)+1=4 from rfl] at e3
      simp(disch:=omega)only[aY,aa,simprocAttr,cw,dA,hs,hv,gq,aay,e1,e2,e3,hT,ho,aoe,az,an6,an5,anZ,cond_true,aB,ay,an,anW,anX,ab]
     ·rw[if_neg h3] at e1
      simp(disch:=omega)only[aY,aa,simprocAttr,cw,dA,hs,hv,gq,aay,e1,e2,e3,hT,ho,aoe,az,an6,an5,anZ,cond_true,aB,ay,an,anW,anX,ab]
    ·have PU:ak x=true:=by cases h:ak x<;>simp_all
     rw[t3 (by simp[hp]),t2 (by simp[PU]),t1 (by simp[PU]),oo,hx]
     simp[b4a,b4b,hsg]
   ·rw[aoP g1] at hv ⊢
    simp only[aoa,aoe,aoj] at hv ⊢
    refine⟨l,?_,(fun h=>by cases h),by omega⟩
    refine aD (fn:=vX) rfl rfl rfl ?_
    unfold vX
    have ho:=hO l true
    simp(disch:=omega)only[aY,aa,simprocAttr,cw,dA,hs,hv,hT,ho,aoa,az,an6,an5,anZ,cond_true,aB,ay,an,anW,anX,ab]
 ·have hsw:lk t.n=([],7):=by unfold lk;rw[if_pos (by omega)]
  rw[hsw] at hs
  rw[aoP hr,aoj,aoj]
  have hc:=hc false
  have hv:=hv 1 true
  simp only[aoa,aoB,aoz,aoe] at hc hv
  refine⟨l,?_,(fun h=>by cases h),by omega⟩
  refine aD (fn:=vX) rfl rfl rfl ?_
  unfold vX
  have ho:=hO l true
  simp(disch:=omega)only[aY,aa,simprocAttr,cw,dA,hs,bne,hc,hv,hT,ho,aoa,aoe,apA,az,an6,an5,anZ,cond_true,aB,ay,an,anW,anX,ab]
theorem yz:∀ (k f n:Nat) (acc:cd),n<10 ^ (k+1)->(gE f n acc).length<=acc.length+k+1
 | _,0,n,acc,_=>by rw[gE];omega
 | 0,f+1,n,acc,h=>by
  have:Nat.blt n 10=true:=by simp[aoE];omega
  rw[gE,this,cond_true];simp
 | k+1,f+1,n,acc,h=>by
  rw[gE]
  cases hb:Nat.blt n 10 with
  | true=>simp only[cond_true,an0];omega
  | false =>
   simp only[anZ]
   have h2:n / 10<10 ^ (k+1):=by rw[Nat.pow_succ] at h;omega
   have:=yz k f (n / 10) (UInt8.ofNat (48+n % 10) :: acc) h2
   rw[an0] at this
   omega
theorem FI{n:Nat}(h:n<=2199023255552):(mH n).length<=14:=by
 have:=yz 12 (n+1) n [] (by omega)
 unfold mH
 rw[an1] at this
 omega
theorem Ya{t:Tm}(h:ak t=true):bt t=true:=by
 have hO:=xS h
 obtain⟨k0,k12⟩:=zI hO
 have b1:=hO.b1
 have b2:=hO.b2
 have b3:=hO.b3
 have b4:=hO.b4
 have b6:=hO.b6
 unfold oP lY at b1
 unfold pD iW at b2
 unfold pE at b3
 unfold oQ at b4
 unfold pF at b6
 unfold bt
 rcases tG t.kind with e|e|e|e|e|e|e|e|e|e|e|e|e|e
 ·rw[e,show fA 0=[110] from rfl]
  simp[e,bR] at b1 b2 b3 b4 b6
  simp only[mZ,show cC [110] 110=false from rfl,show cC [110] 97=true from rfl,show cC [110] 102=true from rfl,show cC [110] 116=true from rfl,show cC [110] 107=true from rfl,show cC [110] 115=true from rfl]
  simp_all
 ·rw[e,show fA 1=[110] from rfl]
  simp[e,bR] at b1 b2 b3 b4 b6
  simp only[mZ,show cC [110] 110=false from rfl,show cC [110] 97=true from rfl,show cC [110] 102=true from rfl,show cC [110] 116=true from rfl,show cC [110] 107=true from rfl,show cC [110] 115=true from rfl]
  simp_all
 ·rw[e,show fA 2=[97] from rfl]
  simp[e,bR] at b1 b2 b3 b4 b6
  simp only[mZ,show cC [97] 110=true from rfl,show cC [97] 97=false from rfl,show cC [97] 102=true from rfl,show cC [97] 116=true from rfl,show cC [97] 107=true from rfl,show cC [97] 115=true from rfl]
  simp_all
 ·rw[e,show fA 3=[97,107] from rfl]
  simp[e,bR] at b1 b2 b3 b4 b6
  simp only[mZ,show cC [97,107] 110=true from rfl,show cC [97,107] 97=false from rfl,show cC [97,107] 102=true from rfl,show cC [97,107] 116=true from rfl,show cC [97,107] 107=false from rfl,show cC [97,107] 115=true from rfl]
  simp_all
 ·rw[e,show fA 4=[110,107] from rfl]
  simp[e,bR] at b1 b2 b3 b4 b6
  simp only[mZ,show cC [110,107] 110=false from rfl,show cC [110,107] 97=true from rfl,show cC [110,107] 102=true from rfl,show cC [110,107] 116=true from rfl,show cC [110,107] 107=false from rfl,show cC [110,107] 115=true from rfl]
  by_cases q1:(fh t.n).1=[]
  ·simp[q1] at b1
  ·by_cases q2:(fh t.n).2=7
   ·simp[q1,q2] at b1;simp_all
   ·simp[q1,q2] at b1;simp_all
 ·rw[e,show fA 5=[107] from rfl]
  simp[e,bR] at b1 b2 b3 b4 b6
  simp only[mZ,show cC [107] 110=true from rfl,show cC [107] 97=true from rfl,show cC [107] 102=true from rfl,show cC [107] 116=true from rfl,show cC [107] 107=false from rfl,show cC [107] 115=true from rfl]
  simp_all
 ·rw[e,show fA 6=[107,115] from rfl]
  simp[e,bR] at b1 b2 b3 b4 b6
  simp only[mZ,show cC [107,115] 110=true from rfl,show cC [107,115] 97=true from rfl,show cC [107,115] 102=true from rfl,show cC [107,115] 116=true from rfl,show cC [107,115] 107=false from rfl,show cC [107,115] 115=false from rfl]
  simp_all
 ·rw[e,show fA 7=[97,107,115] from rfl]
  simp[e,bR] at b1 b2 b3 b4 b6
  simp only[mZ,show cC [97,107,115] 110=true from rfl,show cC [97,107,115] 97=false from rfl,show cC [97,107,115] 102=true from rfl,show cC [97,107,115] 116=true from rfl,show cC [97,107,115] 107=false from rfl,show cC [97,107,115] 115=false from rfl]
  simp_all
 ·rw[e,show fA 8=[97,102,107] from rfl]
  simp[e,bR] at b1 b2 b3 b4 b6
  simp only[mZ,show cC [97,102,107] 110=true from rfl,show cC [97,102,107] 97=false from rfl,show cC [97,102,107] 102=false from rfl,show cC [97,102,107] 116=true from rfl,show cC [97,102,107] 107=false from rfl,show cC [97,102,107] 115=true from rfl]
  simp_all
 ·rw[e,show fA 9=[97,102,107] from rfl]
  simp[e,bR] at b1 b2 b3 b4 b6
  simp only[mZ,show cC [97,102,107] 110=true from rfl,show cC [97,102,107] 97=false from rfl,show cC [97,102,107] 102=false from rfl,show cC [97,102,107] 116=true from rfl,show cC [97,102,107] 107=false from rfl,show cC [97,102,107] 115=true from rfl]
  simp_all
 ·rw[e,show fA 10=[97,107,115] from rfl]
  simp[e,bR] at b1 b2 b3 b4 b6
  simp only[mZ,show cC [97,107,115] 110=true from rfl,show cC [97,107,115] 97=false from rfl,show cC [97,107,115] 102=true from rfl,show cC [97,107,115] 116=true from rfl,show cC [97,107,115] 107=false from rfl,show cC [97,107,115] 115=false from rfl]
  simp_all
 ·rw[e,show fA 11=[116,107] from rfl]
  simp[e,bR] at b1 b2 b3 b4 b6
  simp only[mZ,show cC [116,107] 110=true from rfl,show cC [116,107] 97=true from rfl,show cC [116,107] 102=true from rfl,show cC [116,107] 116=false from rfl,show cC [116,107] 107=false from rfl,show cC [116,107] 115=true from rfl]
  simp_all
 ·rw[e,show fA 12=[107,115] from rfl]
  simp[e,bR] at b1 b2 b3 b4 b6
  simp only[mZ,show cC [107,115] 110=true from rfl,show cC [107,115] 97=true from rfl,show cC [107,115] 102=true from rfl,show cC [107,115] 116=true from rfl,show cC [107,115] 107=false from rfl,show cC [107,115] 115=false from rfl]
  simp_all
 ·omega
theorem XW{t:Tm}{n h:Nat}(hn:n<=9000)(hF:vl h t)(hk:t.kind=0)(hu:bt t=true)(gF:∀ u∈t.kids,jV n u){mm:Nat}{K:ai}(hP:PW mm K):oJ mm K 27 [.ref mm 0,.agg (cV t)] (ak t) (av t) (3*(n+4)+20):=by
 have l9:=afD hk hu
 have hU:=agy hk hu
 have oo:=cM t
 rw[hk] at oo
 have Bz:=hF.a
 have og:=hF.kl
 rw[al]
 intro l hl
 obtain⟨K1,fp,cw,dA,hT,hO⟩:=lD hP t
 have bA:=hP.lt
 have jj:=fun K=>gZ t K
 rw[hu,al] at jj
 have fq:=fun ok l b=>fO fp ok l b
 have h0:=fun l b=>fG (l:=l) (b:=b) fp
 unfold lq at h0
 obtain⟨nn0,nn1⟩:=hF.n
 have D5:=fun K=>Rs t.n K ⟨by omega,by omega⟩
 have Ul:(ql t.n).length<=10000000:=by
  by_cases h:t.n<0
  ·rw[itoa_neg h];have:=FI (n:=(-t.n).toNat) (by omega);simp;omega
  ·rw[Dg (by omega)];have:=FI (n:=t.n.toNat) (by omega);omega
 have Us:=fun K=>ac6 (ql t.n) 45 K Ul
 rw[NR] at Us
 rw[l9]
 have main:∀ (ok:Bool),(ok=decide (-1099511627776<=t.n/\t.n<=1099511627776))->(∃ l',(t.n<0->aE A 21 [.ref mm 0,.slice [[.str [45]]] false] (cE mm l (!ok) K1)=some (.undef,some ⟨cE mm (l++[[45]]) (!ok) K1,mm⟩)/\aE A 21 [.ref mm 0,.slice [[.str (mH (-t.n).toNat)]] false] (cE mm (l++[[45]]) (!ok) K1)=some (.undef,some ⟨cE mm l' (!ok) K1,mm⟩)) /\
   (¬ t.n<0->aE A 21 [.ref mm 0,.slice [[.str (mH t.n.toNat)]] false] (cE mm l (!ok) K1)=some (.undef,some ⟨cE mm l' (!ok) K1,mm⟩))/\l'=l++av t/\l'.length<=l.length+2):=by
  intro ok lH
  have px:∀ (xs l:List cd) (b:Bool),xs.length<=10->l.length+xs.length<=10000000->aE A 21 [.ref mm 0,.slice (strs xs) false] (cE mm l b K1)=some (.undef,some ⟨cE mm (l++xs) b K1,mm⟩):=fun xs l b hx hl=>R1 fp xs l b (by omega) hl
  by_cases tC:t.n<0
  ·refine⟨l++[[45]]++[mH (-t.n).toNat],fun _=>⟨px [[45]] l _ (by simp) (by simp;omega),px [mH (-t.n).toNat] (l++[[45]]) _ (by simp) (by simp;omega)⟩,fun h=>absurd tC h,?_,by simp⟩
   rw[oo];simp[b0,tC]
  ·refine⟨l++[mH t.n.toNat],fun h=>absurd h tC,fun _=>px [mH t.n.toNat] l _ (by simp) (by simp;omega),?_,by simp⟩
   rw[oo];simp[b0,tC]
 by_cases r1:-1099511627776<=t.n
 ·by_cases r2:t.n<=1099511627776
  ·obtain⟨l',p1,p2,p3,p4⟩:=main true (by simp[r1,r2])
   rw[decide_eq_true (show -1099511627776<=t.n/\t.n<=1099511627776 from ⟨r1,r2⟩)]
   simp only[aoe] at p1 p2 ⊢
   refine⟨l',?_,fun _=>p3,by omega⟩
   by_cases tC:t.n<0
   ·obtain⟨e1,e2⟩:=p1 tC
    rw[if_pos tC] at Us
    refine aD (fn:=gH) rfl rfl rfl ?_
    unfold gH
    have ho:=hO l' false
    simp(disch:=omega)only[aY,aa,simprocAttr,cw,dA,jj,fq,h0,hT,aoe,aoa,aop,aog,aoR,aoz,aoB,az,an6,an5,anZ,cond_true,aB,ay,an,anW,anX,ab,ho,D5,Us,e1,e2]
   ·have e1:=p2 tC
    rw[if_neg tC] at Us
    refine aD (fn:=gH) rfl rfl rfl ?_
    unfold gH
    have ho:=hO l' false
    simp(disch:=omega)only[aY,aa,simprocAttr,cw,dA,jj,fq,h0,hT,aoe,aoa,aop,aog,aoR,aoz,aoB,az,an6,an5,anZ,cond_true,aB,ay,an,anW,anX,ab,ho,D5,Us,e1]
  ·obtain⟨l',p1,p2,p3,p4⟩:=main false (by simp[r2])
   rw[aoP (show ¬ (-1099511627776<=t.n/\t.n<=1099511627776) from fun h=>r2 h.2)]
   simp only[aoa] at p1 p2 ⊢
   refine⟨l',?_,(fun h=>by cases h),by omega⟩
   by_cases tC:t.n<0
   ·omega
   ·have e1:=p2 tC
    rw[if_neg tC] at Us
    refine aD (fn:=gH) rfl rfl rfl ?_
    unfold gH
    have ho:=hO l' true
    simp(disch:=omega)only[aY,aa,simprocAttr,cw,dA,jj,fq,h0,hT,aoe,aoa,aop,aog,aoR,aoz,aoB,az,an6,an5,anZ,cond_true,aB,ay,an,anW,anX,ab,ho,D5,Us,e1]
 ·obtain⟨l',p1,p2,p3,p4⟩:=main false (by simp[r1])
  rw[aoP (show ¬ (-1099511627776<=t.n/\t.n<=1099511627776) from fun h=>r1 h.1)]
  simp only[aoa] at p1 p2 ⊢
  refine⟨l',?_,(fun h=>by cases h),by omega⟩
  have tC:t.n<0:=by omega
  obtain⟨e1,e2⟩:=p1 tC
  rw[if_pos tC] at Us
  refine aD (fn:=gH) rfl rfl rfl ?_
  unfold gH
  have ho:=hO l' true
  simp(disch:=omega)only[aY,aa,simprocAttr,cw,dA,jj,fq,h0,hT,aoe,aoa,aop,aog,aoR,aoz,aoB,az,an6,an5,anZ,cond_true,aB,ay,an,anW,anX,ab,ho,D5,Us,e1,e2]
theorem XX{t:Tm}{n h:Nat}(hn:n<=9000)(hF:vl h t)(hk:t.kind=1)(hu:bt t=true)(gF:∀ u∈t.kids,jV n u){mm:Nat}{K:ai}(hP:PW mm K):oJ mm K 27 [.ref mm 0,.agg (cV t)] (ak t) (av t) (3*(n+4)+20):=by
 have l9:=afE hk hu
 have hU:=agz hk hu
 have oo:=cM t
 rw[hk] at oo
 have Bz:=hF.a
 have og:=hF.kl
 rw[al]
 intro l hl
 obtain⟨K1,fp,cw,dA,hT,hO⟩:=lD hP t
 have bA:=hP.lt
 have jj:=fun K=>gZ t K
 rw[hu,al] at jj
 have fq:=fun ok l b=>fO fp ok l b
 have h0:=fun l b=>fG (l:=l) (b:=b) fp
 unfold lq at h0
 have px:∀ (xs l:List cd) (b:Bool),xs.length<=10->l.length+xs.length<=10000000->aE A 21 [.ref mm 0,.slice (strs xs) false] (cE mm l b K1)=some (.undef,some ⟨cE mm (l++xs) b K1,mm⟩):=fun xs l b hx hl=>R1 fp xs l b (by omega) hl
 have e1:=fun s b=>px [s] l b (by simp) (by simp only[an0,an1];omega)
 simp only[tU] at e1
 have fb:=fun b K=>aar b K
 rw[l9,oo]
 by_cases z0:t.n=0
 ·rw[decide_eq_true (Or.inl z0:t.n=0\/t.n=1)]
  refine⟨l++[[102,97,108,115,101]],?_,fun _=>by simp[b1,z0],by simp⟩
  refine aD (fn:=gH) rfl rfl rfl ?_
  unfold gH
  have ho:=hO (l++[[102,97,108,115,101]]) false
  simp(disch:=omega)only[aY,aa,simprocAttr,cw,dA,jj,fq,h0,hT,aoe,aoa,aop,aog,aoR,aoz,aoB,az,an6,an5,anZ,cond_true,aB,ay,an,anW,anX,ab,ho,fb,e1]
 by_cases z1:t.n=1
 ·rw[decide_eq_true (Or.inr z1:t.n=0\/t.n=1)]
  refine⟨l++[[116,114,117,101]],?_,fun _=>by simp[b1,z1],by simp⟩
  refine aD (fn:=gH) rfl rfl rfl ?_
  unfold gH
  have ho:=hO (l++[[116,114,117,101]]) false
  simp(disch:=omega)only[aY,aa,simprocAttr,cw,dA,jj,fq,h0,hT,aoe,aoa,aop,aog,aoR,aoz,aoB,az,an6,an5,anZ,cond_true,aB,ay,an,anW,anX,ab,ho,fb,e1]
 ·rw[aoP (fun h=>h.elim z0 z1:¬ (t.n=0\/t.n=1))]
  refine⟨l++[[102,97,108,115,101]],?_,(fun h=>by cases h),by simp⟩
  refine aD (fn:=gH) rfl rfl rfl ?_
  unfold gH
  have ho:=hO (l++[[102,97,108,115,101]]) true
  simp(disch:=omega)only[aY,aa,simprocAttr,cw,dA,jj,fq,h0,hT,aoe,aoa,aop,aog,aoR,aoz,aoB,az,an6,an5,anZ,cond_true,aB,ay,an,anW,anX,ab,ho,fb,e1]
theorem XY{t:Tm}{n h:Nat}(hn:n<=9000)(hF:vl h t)(hk:t.kind=2)(hu:bt t=true)(gF:∀ u∈t.kids,jV n u){mm:Nat}{K:ai}(hP:PW mm K):oJ mm K 27 [.ref mm 0,.agg (cV t)] (ak t) (av t) (3*(n+4)+20):=by
 have l9:=afF hk hu
 have hU:=agA hk hu
 have oo:=cM t
 rw[hk] at oo
 have Bz:=hF.a
 have og:=hF.kl
 rw[al]
 intro l hl
 obtain⟨K1,fp,cw,dA,hT,hO⟩:=lD hP t
 have bA:=hP.lt
 have jj:=fun K=>gZ t K
 rw[hu,al] at jj
 have fq:=fun ok l b=>fO fp ok l b
 have h0:=fun l b=>fG (l:=l) (b:=b) fp
 unfold lq at h0
 obtain⟨l1,e1,t1,n1⟩:=jh fp t.name (by omega) l false (by omega)
 rw[aog] at e1 t1
 rw[l9,oo]
 refine⟨l1,?_,fun hp=>by rw[t1 (by simp[hp])];simp[b2],by omega⟩
 refine aD (fn:=gH) rfl rfl rfl ?_
 unfold gH
 have ho:=hO l1 (!isWord t.name)
 generalize (!isWord t.name)=b1 at *
 simp(disch:=omega)only[aY,aa,simprocAttr,cw,dA,jj,fq,h0,hT,aoe,aoa,aop,aog,aoR,aoz,aoB,az,an6,an5,anZ,cond_true,aB,ay,an,anW,anX,ab,ho,e1]
theorem XZ{t:Tm}{n h:Nat}(hn:n<=9000)(hF:vl h t)(hk:t.kind=3)(hu:bt t=true)(gF:∀ u∈t.kids,jV n u){mm:Nat}{K:ai}(hP:PW mm K):oJ mm K 27 [.ref mm 0,.agg (cV t)] (ak t) (av t) (3*(n+4)+20):=by
 have l9:=afG hk hu
 have hU:=agB hk hu
 have oo:=cM t
 rw[hk] at oo
 have Bz:=hF.a
 have og:=hF.kl
 rw[al]
 intro l hl
 obtain⟨K1,fp,cw,dA,hT,hO⟩:=lD hP t
 have bA:=hP.lt
 have jj:=fun K=>gZ t K
 rw[hu,al] at jj
 have fq:=fun ok l b=>fO fp ok l b
 have h0:=fun l b=>fG (l:=l) (b:=b) fp
 unfold lq at h0
 have hmk:t.kids.length*(n+0+1)<=3*(n+0+1):=aoo _ og
 obtain⟨l1,e1,t1,n1⟩:=pn fp t.name (by omega) l false (by omega)
 obtain⟨l2,e2,t2,n2⟩:=fL fp [[40]] (by simp) l1 (false || !cT t.name) (by simp only[an0,an1];omega)
 simp only[an0,an1] at n2
 by_cases zc:t.kids.length=0
 ·have AN:t.kids=[]:=aoy.1 zc
  have e3:∀ Q:ai,aE A 53 [.ref mm 0,.slice [] false,.func (.func 50) [] []] Q=some (.undef,none):=fun Q=>Dp
  obtain⟨l4,e4,t4,n4⟩:=fL fp [[41]] (by simp) l2 (false || !cT t.name) (by simp only[an0,an1];omega)
  simp only[an0,an1] at n4
  simp only[pg,tU,aog] at e1 e2 e4 t1 t2 t4
  rw[l9,oo,AN]
  simp only[ao5,Bool.and_true]
  rw[AN,LR] at cw jj dA
  rw[LR]
  refine⟨l4,?_,fun hp=>by rw[t4 (by simp[hp]),t2 (by simp[hp]),t1 (by simp[hp])];simp[b3,aR],by omega⟩
  refine aD (fn:=gH) rfl rfl rfl ?_
  unfold gH
  have ho:=hO l4 (!cT t.name)
  generalize (!cT t.name)=b1 at *
  simp(disch:=omega)only[mf,cZ,ca,cA,cu,gr,bj,aA,bf,aC.eval,AS.bW,↓reduceIte,Nat.reduceEqDiff,Option.isSome,Option.isNone,cond_true,anZ,Nat.reduceBEq,Nat.reduceAdd,Nat.reduceMul,aa,cj,eq_self,reduceCtorEq,gk,cQ,cm,bH,bound,dj,AS.bI,aQ,bF,bu,Nat.reduceLeDiff,cn,putAt,Int.reduceEq,Int.reduceLT,Int.reduceLE,Int.reduceBEq,Int.reduceBNe,Int.reduceAdd,Int.reduceNeg,Int.reduceSub,Int.reduceMul,dZ,dY,dX,dW,dV,dU,fc,fa,aN,bO,Int.toNat_natCast,aos,cw,dA,jj,fq,h0,hT,aoe,aoa,aop,aog,aoR,aoz,aoB,az,an6,an5,anZ,cond_true,aB,ay,an,anW,anX,ab,ho,e1,e2,e3,e4]
 ·obtain⟨l3,e3,t3,n3⟩:=Dq (n:=n) (nb:=0) (ob:=fun _=>true) (tb:=fun _=>[]) (fb:=50) (cs:=[]) fp gF (by omega) (by omega) (fun i _=>BS i) (by omega) l2 (false || !cT t.name) (by omega)
  rw[u9,Lx] at t3
  rw[u9] at e3
  obtain⟨l4,e4,t4,n4⟩:=fL fp [[41]] (by simp) l3 ((false || !cT t.name) || !t.kids.all ak) (by simp only[an0,an1];omega)
  simp only[an0,an1] at n4
  simp only[pg,tU,aog] at e1 e2 e3 e4 t1 t2 t3 t4
  rw[l9,oo]
  have eo:(!cT t.name || !t.kids.all ak)=!(cT t.name&&t.kids.all ak):=by cases cT t.name<;>cases t.kids.all ak<;>rfl
  rw[eo] at e3 e4 t3 t4
  refine⟨l4,?_,fun hp=>?_,by omega⟩
  ·skip
   refine aD (fn:=gH) rfl rfl rfl ?_
   unfold gH
   have ho:=hO l4 (!(cT t.name&&t.kids.all ak))
   generalize (!(cT t.name&&t.kids.all ak))=b2 at *
   generalize (!cT t.name)=b1 at *
   simp(disch:=omega)only[mf,cZ,ca,cA,cu,gr,bj,aA,bf,aC.eval,AS.bW,↓reduceIte,Nat.reduceEqDiff,Option.isSome,Option.isNone,cond_true,anZ,Nat.reduceBEq,Nat.reduceAdd,Nat.reduceMul,aa,cj,eq_self,reduceCtorEq,gk,cQ,cm,bH,bound,dj,AS.bI,aQ,bF,bu,Nat.reduceLeDiff,cn,putAt,Int.reduceEq,Int.reduceLT,Int.reduceLE,Int.reduceBEq,Int.reduceBNe,Int.reduceAdd,Int.reduceNeg,Int.reduceSub,Int.reduceMul,dZ,dY,dX,dW,dV,dU,fc,fa,aN,bO,Int.toNat_natCast,aos,cw,dA,jj,fq,h0,hT,aoe,aoa,aop,aog,aoR,aoz,aoB,az,an6,an5,anZ,cond_true,aB,ay,an,anW,anX,ab,ho,e1,e2,e3,e4]
  ·have hq:cT t.name=true:=by cases h:cT t.name<;>simp_all
   rw[t4 (by simp[hp]),t3 (by simp[hp]),t2 (by simp[hq]),t1 (by simp[hq])]
   simp[b3]
   rfl
theorem X0{t:Tm}{n h:Nat}(hn:n<=9000)(hF:vl h t)(hk:t.kind=4)(hu:bt t=true)(gF:∀ u∈t.kids,jV n u){mm:Nat}{K:ai}(hP:PW mm K):oJ mm K 27 [.ref mm 0,.agg (cV t)] (ak t) (av t) (3*(n+4)+20):=by
 have l9:=Zc hk hu
 have hU:=adb hk hu
 have oo:=cM t
 rw[hk] at oo
 have Bz:=hF.a
 have og:=hF.kl
 rw[al]
 intro l hl
 obtain⟨K1,fp,cw,dA,hT,hO⟩:=lD hP t
 have bA:=hP.lt
 have jj:=fun K=>gZ t K
 rw[hu,al] at jj
 have fq:=fun ok l b=>fO fp ok l b
 have h0:=fun l b=>fG (l:=l) (b:=b) fp
 unfold lq at h0
 obtain⟨l1,e1,t1,n1⟩:=abZ hn hk hu gF fp l (by omega)
 rw[al] at e1
 refine⟨l1,?_,t1,by omega⟩
 refine aD (fn:=gH) rfl rfl rfl ?_
 unfold gH
 have ho:=hO l1 (!ak t)
 generalize (!ak t)=b1 at *
 simp(disch:=omega)only[aY,aa,simprocAttr,cw,dA,jj,fq,h0,hT,aoe,aoa,aop,aog,aoR,aoz,aoB,az,an6,an5,anZ,cond_true,aB,ay,an,anW,anX,ab,ho,e1]
theorem X1{t:Tm}{n h:Nat}(hn:n<=9000)(hF:vl h t)(hk:t.kind=5)(hu:bt t=true)(gF:∀ u∈t.kids,jV n u){mm:Nat}{K:ai}(hP:PW mm K):oJ mm K 27 [.ref mm 0,.agg (cV t)] (ak t) (av t) (3*(n+4)+20):=by
 have l9:=afH hk hu
 have hU:=agC hk hu
 have oo:=cM t
 rw[hk] at oo
 have Bz:=hF.a
 have og:=hF.kl
 rw[al]
 intro l hl
 obtain⟨K1,fp,cw,dA,hT,hO⟩:=lD hP t
 have bA:=hP.lt
 have jj:=fun K=>gZ t K
 rw[hu,al] at jj
 have fq:=fun ok l b=>fO fp ok l b
 have h0:=fun l b=>fG (l:=l) (b:=b) fp
 unfold lq at h0
 have hv:=qR fp t 3 0 l false
 rw[al] at hv
 rw[l9]
 by_cases hh:gX t 3 0=true
 ·rw[hh] at hv ⊢
  simp only[aon,aoe,aop,aoa] at hv ⊢
  unfold gX at hh
  simp only[an7,aoq] at hh
  obtain⟨hh1,hh2⟩:=hh
  obtain⟨x,y,z,si⟩:=RC (show t.kids.length=3 by omega)
  have N7:∀ u∈[x,y,z],jV n u:=fun u Al=>gF u (by rw[si];simp only[aoH,apN,aqJ] at Al ⊢;rcases Al with rfl|rfl|rfl<;>simp)
  obtain⟨l1,e1,t1,n1⟩:=DD (ts:=[[105,102],[116,104,101,110],[101,108,115,101]]) fp N7 (by simp) (by simp) rfl (by omega) l false (by simp only[an0,an1];omega)
  rw[show ([x,y,z]:List Tm).length=3 from rfl,pt3] at t1
  rw[show ([x,y,z]:List Tm).length=3 from rfl] at e1 n1
  have dN:xQ [x,y,z] 3=t.kids.all ak:=by
   have:=rT (ks:=[x,y,z])
   rw[show ([x,y,z]:List Tm).length=3 from rfl] at this
   rw[this,si]
  rw[dN] at e1 t1
  simp only[pg,tU,aog] at e1 t1
  rw[<- si] at e1
  rw[show strs [[105,102],[116,104,101,110],[101,108,115,101]]=[[.str [105,102]],[.str [116,104,101,110]],[.str [101,108,115,101]]] from rfl] at e1
  refine⟨l1,?_,fun hp=>?_,by omega⟩
  ·skip
   refine aD (fn:=gH) rfl rfl rfl ?_
   unfold gH
   have ho:=hO l1 (!t.kids.all ak)
   generalize (!t.kids.all ak)=bb at *
   simp(disch:=omega)only[aY,aa,simprocAttr,cw,dA,jj,fq,h0,hT,aoe,aoa,aop,aog,aoR,aoz,aoB,az,an6,an5,anZ,cond_true,aB,ay,an,anW,anX,ab,ho,hv,e1]
  ·rw[t1 (by simp[hp]),oo,si];simp[b5]
 ·have hh' : gX t 3 0=false:=by cases h:gX t 3 0<;>simp_all
  rw[hh'] at hv ⊢
  simp only[aoj,aoa,aoB,aoe] at hv ⊢
  refine⟨l,?_,(fun h=>by cases h),by omega⟩
  refine aD (fn:=gH) rfl rfl rfl ?_
  unfold gH
  have ho:=hO l true
  simp(disch:=omega)only[aY,aa,simprocAttr,cw,dA,jj,fq,h0,hT,aoe,aoa,aop,aog,aoR,aoz,aoB,az,an6,an5,anZ,cond_true,aB,ay,an,anW,anX,ab,ho,hv]
theorem X2{t:Tm}{n h:Nat}(hn:n<=9000)(hF:vl h t)(hk:t.kind=6)(hu:bt t=true)(gF:∀ u∈t.kids,jV n u){mm:Nat}{K:ai}(hP:PW mm K):oJ mm K 27 [.ref mm 0,.agg (cV t)] (ak t) (av t) (3*(n+4)+20):=by
 have l9:=afI hk hu
 have hU:=agD hk hu
 have oo:=cM t
 rw[hk] at oo
 have Bz:=hF.a
 have og:=hF.kl
 rw[al]
 intro l hl
 obtain⟨K1,fp,cw,dA,hT,hO⟩:=lD hP t
 have bA:=hP.lt
 have jj:=fun K=>gZ t K
 rw[hu,al] at jj
 have fq:=fun ok l b=>fO fp ok l b
 have h0:=fun l b=>fG (l:=l) (b:=b) fp
 unfold lq at h0
 have hv:=qR fp t 2 1 l false
 rw[al] at hv
 rw[l9]
 by_cases hh:gX t 2 1=true
 ·rw[hh] at hv ⊢
  simp only[aon,aoe,aop,aoa] at hv ⊢
  unfold gX at hh
  simp only[an7,aoq] at hh
  obtain⟨hh1,hh2⟩:=hh
  obtain⟨x,y,si⟩:=Hf (show t.kids.length=2 by omega)
  obtain⟨p,vU⟩:=He (show t.names.length=1 by omega)
  have hp:p.length<=1100000:=hF.nb p (by rw[vU];simp)
  have xx:(strs t.names)[0]?=some [.str p]:=by rw[vU];rfl
  obtain⟨l1,e1,t1,n1⟩:=fL fp [[108,101,116]] (by simp) l false (by simp only[an0,an1];omega)
  obtain⟨l2,e2,t2,n2⟩:=jh fp p (by omega) l1 false (by simp only[an0,an1] at n1;omega)
  have N7:∀ u∈[x,y],jV n u:=fun u Al=>gF u (by rw[si];simp only[aoH,apN,aqJ] at Al ⊢;rcases Al with rfl|rfl<;>simp)
  obtain⟨l3,e3,t3,n3⟩:=DD (ts:=[[61],[105,110]]) fp N7 (by simp) (by simp) rfl (by omega) l2 (false || !isWord p) (by simp only[an0,an1] at n1 ⊢;omega)
  rw[show ([x,y]:List Tm).length=2 from rfl,pt2] at t3
  rw[show ([x,y]:List Tm).length=2 from rfl] at e3 n3
  have dN:xQ [x,y] 2=t.kids.all ak:=by
   have:=rT (ks:=[x,y])
   rw[show ([x,y]:List Tm).length=2 from rfl] at this
   rw[this,si]
  rw[dN] at e3 t3
  simp only[an0,an1] at n1
  simp only[pg,tU,aog] at e1 t1 e2 t2 e3 t3
  have eo:(!isWord p || !t.kids.all ak)=!(t.names.all isWord&&t.kids.all ak):=by rw[vU];simp only[aoV,ao5,Bool.and_true];cases isWord p<;>cases t.kids.all ak<;>rfl
  rw[eo] at e3 t3
  rw[<- si] at e3
  rw[show strs [[61],[105,110]]=[[.str [61]],[.str [105,110]]] from rfl] at e3
  refine⟨l3,?_,fun hp=>?_,by omega⟩
  ·skip
   refine aD (fn:=gH) rfl rfl rfl ?_
   unfold gH
   have ho:=hO l3 (!(t.names.all isWord&&t.kids.all ak))
   generalize (!(t.names.all isWord&&t.kids.all ak))=bb at *
   generalize (!isWord p)=b1 at *
   simp(disch:=omega)only[aY,aa,simprocAttr,cw,dA,jj,fq,h0,hT,aoe,aoa,aop,aog,aoR,aoz,aoB,az,an6,an5,anZ,cond_true,aB,ay,an,anW,anX,ab,ho,hv,e1,e2,e3,xx]
  ·have hp2:=hp
   rw[vU] at hp2
   have hpp:isWord p=true:=by cases h:isWord p<;>simp_all
   rw[t3 (by simp[hp]),t2 (by simp[hpp]),t1 (by trivial),oo,si,vU];simp[b6]
 ·have hh' : gX t 2 1=false:=by cases h:gX t 2 1<;>simp_all
  rw[hh'] at hv ⊢
  simp only[aoj,aoa,aoB,aoe] at hv ⊢
  refine⟨l,?_,(fun h=>by cases h),by omega⟩
  refine aD (fn:=gH) rfl rfl rfl ?_
  unfold gH
  have ho:=hO l true
  simp(disch:=omega)only[aY,aa,simprocAttr,cw,dA,jj,fq,h0,hT,aoe,aoa,aop,aog,aoR,aoz,aoB,az,an6,an5,anZ,cond_true,aB,ay,an,anW,anX,ab,ho,hv]
theorem SV{t:Tm}{n h:Nat}(hn:n<=9000)(hF:vl h t)(hk:t.kind=12)(hu:bt t=true)(gF:∀ u∈t.kids,jV n u){mm:Nat}{K:ai}(hP:PW mm K):oJ mm K 27 [.ref mm 0,.agg (cV t)] (ak t) (av t) (3*(n+4)+20):=by
 have l9:=ab3 hk hu
 have hU:=Zp hk hu
 have oo:=cM t
 rw[hk] at oo
 have Bz:=hF.a
 have og:=hF.kl
 rw[al]
 intro l hl
 obtain⟨K1,fp,cw,dA,hT,hO⟩:=lD hP t
 have bA:=hP.lt
 have jj:=fun K=>gZ t K
 rw[hu,al] at jj
 have fq:=fun ok l b=>fO fp ok l b
 have h0:=fun l b=>fG (l:=l) (b:=b) fp
 unfold lq at h0
 have hv:=qR fp t 3 2 l false
 rw[al] at hv
 rw[l9]
 by_cases hh:gX t 3 2=true
 ·rw[hh] at hv ⊢
  simp only[aon,aoe,aop,aoa] at hv ⊢
  unfold gX at hh
  simp only[an7,aoq] at hh
  obtain⟨hh1,hh2⟩:=hh
  obtain⟨x,y,z,si⟩:=RC (show t.kids.length=3 by omega)
  obtain⟨p,q,vU⟩:=Hf (show t.names.length=2 by omega)
  have hp:p.length<=1100000:=hF.nb p (by rw[vU];simp)
  have xx:(strs t.names)[0]?=some [.str p]:=by rw[vU];rfl
  have hq:q.length<=1100000:=hF.nb q (by rw[vU];simp)
  have haq:(strs t.names)[1]?=some [.str q]:=by rw[vU];rfl
  obtain⟨l1,e1,t1,n1⟩:=fL fp [[102,111,108,100]] (by simp) l false (by simp only[an0,an1];omega)
  obtain⟨l2,e2,t2,n2⟩:=jh fp p (by omega) l1 false (by simp only[an0,an1] at n1;omega)
  obtain⟨l3,e3,t3,n3⟩:=fL fp [[44]] (by simp) l2 (false || !isWord p) (by simp only[an0,an1] at n1 ⊢;omega)
  obtain⟨l4,e4,t4,n4⟩:=jh fp q (by omega) l3 (false || !isWord p) (by simp only[an0,an1] at n1 n3;omega)
  have N7:∀ u∈[y,x,z],jV n u:=fun u Al=>gF u (by rw[si];simp only[aoH,apN,aqJ] at Al ⊢;rcases Al with rfl|rfl|rfl<;>simp)
  obtain⟨l5,e5,t5,n5⟩:=DD (ts:=[[61],[111,118,101,114],[100,111]]) fp N7 (by simp) (by simp) rfl (by omega) l4 ((false || !isWord p) || !isWord q) (by simp only[an0,an1] at n1 n3 ⊢;omega)
  rw[show ([y,x,z]:List Tm).length=3 from rfl,pt3] at t5
  rw[show ([y,x,z]:List Tm).length=3 from rfl] at e5 n5
  have dN:xQ [y,x,z] 3=t.kids.all ak:=by
   have:=rT (ks:=[y,x,z])
   rw[show ([y,x,z]:List Tm).length=3 from rfl] at this
   rw[this,si]
   simp only[aoV,ao5]
   cases ak x<;>cases ak y<;>cases ak z<;>rfl
  rw[dN] at e5 t5
  simp only[an0,an1] at n1 n3
  simp only[pg,tU,aog] at e1 t1 e2 t2 e3 t3 e4 t4 e5 t5
  have eo:((!isWord p || !isWord q) || !t.kids.all ak)=!(t.names.all isWord&&t.kids.all ak):=by rw[vU];simp only[aoV,ao5,Bool.and_true];cases isWord p<;>cases isWord q<;>cases t.kids.all ak<;>rfl
  rw[eo] at e5 t5
  have zc:(ar t.kids)[0]?=some (cV x):=by rw[si];simp[ar]
  have vT:(ar t.kids)[1]?=some (cV y):=by rw[si];simp[ar]
  have hk2:(ar t.kids)[2]?=some (cV z):=by rw[si];simp[ar]
  rw[al] at zc vT hk2
  rw[show ar [y,x,z]=[cV y,cV x,cV z] from by simp[ar],al x,al y,al z] at e5
  rw[show strs [[61],[111,118,101,114],[100,111]]=[[.str [61]],[.str [111,118,101,114]],[.str [100,111]]] from rfl] at e5
  refine⟨l5,?_,fun hp=>?_,by omega⟩
  ·skip
   refine aD (fn:=gH) rfl rfl rfl ?_
   unfold gH
   have ho:=hO l5 (!(t.names.all isWord&&t.kids.all ak))
   generalize (!(t.names.all isWord&&t.kids.all ak))=bb at *
   generalize (!isWord p || !isWord q)=b2 at *
   generalize (!isWord p)=b1 at *
   simp(disch:=omega)only[aY,aa,simprocAttr,cw,dA,jj,fq,h0,hT,aoe,aoa,aop,aog,aoR,aoz,aoB,az,an6,an5,anZ,cond_true,aB,ay,an,anW,anX,ab,ho,hv,e1,e2,e3,e4,e5,xx,haq,zc,vT,hk2]
  ·have hp2:=hp
   rw[vU] at hp2
   have hpp:isWord p=true:=by cases h:isWord p<;>simp_all
   have hqq:isWord q=true:=by cases h:isWord q<;>simp_all
   rw[t5 (by simp[hp]),t4 (by simp[hpp,hqq]),t3 (by simp[hpp]),t2 (by simp[hpp]),t1 (by trivial),oo,si,vU];simp[b12]
 ·have hh' : gX t 3 2=false:=by cases h:gX t 3 2<;>simp_all
  rw[hh'] at hv ⊢
  simp only[aoj,aoa,aoB,aoe] at hv ⊢
  refine⟨l,?_,(fun h=>by cases h),by omega⟩
  refine aD (fn:=gH) rfl rfl rfl ?_
  unfold gH
  have ho:=hO l true
  simp(disch:=omega)only[aY,aa,simprocAttr,cw,dA,jj,fq,h0,hT,aoe,aoa,aop,aog,aoR,aoz,aoB,az,an6,an5,anZ,cond_true,aB,ay,an,anW,anX,ab,ho,hv]
theorem SU{t:Tm}{n h:Nat}(hn:n<=9000)(hF:vl h t)(hk:t.kind=11)(hu:bt t=true)(gF:∀ u∈t.kids,jV n u){mm:Nat}{K:ai}(hP:PW mm K):oJ mm K 27 [.ref mm 0,.agg (cV t)] (ak t) (av t) (3*(n+4)+20):=by
 have l9:=ab2 hk hu
 have hU:=Zo hk hu
 have oo:=cM t
 rw[hk] at oo
 have Bz:=hF.a
 have og:=hF.kl
 rw[al]
 intro l hl
 obtain⟨K1,fp,cw,dA,hT,hO⟩:=lD hP t
 have bA:=hP.lt
 have jj:=fun K=>gZ t K
 rw[hu,al] at jj
 have fq:=fun ok l b=>fO fp ok l b
 have h0:=fun l b=>fG (l:=l) (b:=b) fp
 unfold lq at h0
 have hmk:t.kids.length*(n+0+1)<=3*(n+0+1):=aoo _ og
 obtain⟨l1,e1,t1,n1⟩:=fL fp [gP] (by simp) l false (by simp only[an0,an1];omega)
 simp only[an0,an1] at n1
 have hw:=KX fp (ks:=[.mk t.wn t.wk]) (n:=12) (by omega) (fun k qj=>by
  rw[apE] at qj
  rw[<- qj.1]
  exact DZ 3 _ (by omega) hF.w mm K1 fp)
 obtain⟨l2,e2,t2,n2⟩:=hw l1 false (by omega)
 rw[show ax [.mk t.wn t.wk]=[[.str t.wn,.slice (ax t.wk) false]] from by simp[ax,hN]] at e2
 rw[show LF [.mk t.wn t.wk]=bk (.mk t.wn t.wk) from rfl] at e2 t2
 rw[show NO [.mk t.wn t.wk]=[[40]]++fe (.mk t.wn t.wk)++[[41]] from rfl] at t2
 obtain⟨l3,e3,t3,n3⟩:=fL fp [[91]] (by simp) l2 (false || !bk (.mk t.wn t.wk)) (by simp only[an0,an1];omega)
 simp only[an0,an1] at n3
 by_cases zc:t.kids.length=0
 ·have AN:t.kids=[]:=aoy.1 zc
  have e4:∀ Q:ai,aE A 53 [.ref mm 0,.slice [] false,.func (.func 50) [] []] Q=some (.undef,none):=fun Q=>Dp
  obtain⟨l5,e5,t5,n5⟩:=fL fp [[93]] (by simp) l3 (false || !bk (.mk t.wn t.wk)) (by simp only[an0,an1];omega)
  simp only[an0,an1] at n5
  simp only[pg,tU,aog] at e1 e2 e3 e5 t1 t2 t3 t5
  rw[l9,oo,AN]
  simp only[ao5,Bool.and_true]
  rw[AN,LR] at cw jj dA
  rw[LR]
  refine⟨l5,?_,fun hp=>by rw[t5 (by simp[hp]),t3 (by simp[hp]),t2 (by simp[hp]),t1 (by trivial)];simp[b11,aR],by omega⟩
  refine aD (fn:=gH) rfl rfl rfl ?_
  unfold gH
  have ho:=hO l5 (!bk (.mk t.wn t.wk))
  generalize (!bk (.mk t.wn t.wk))=b1 at *
  simp(disch:=omega)only[mf,cZ,ca,cA,cu,gr,bj,aA,bf,aC.eval,AS.bW,↓reduceIte,Nat.reduceEqDiff,Option.isSome,Option.isNone,cond_true,anZ,Nat.reduceBEq,Nat.reduceAdd,Nat.reduceMul,aa,cj,eq_self,reduceCtorEq,gk,cQ,cm,bH,bound,dj,AS.bI,aQ,bF,bu,Nat.reduceLeDiff,cn,putAt,Int.reduceEq,Int.reduceLT,Int.reduceLE,Int.reduceBEq,Int.reduceBNe,Int.reduceAdd,Int.reduceNeg,Int.reduceSub,Int.reduceMul,dZ,dY,dX,dW,dV,dU,fc,fa,aN,bO,Int.toNat_natCast,aos,cw,dA,jj,fq,h0,hT,aoe,aoa,aop,aog,aoR,aoz,aoB,az,an6,an5,anZ,cond_true,aB,ay,an,anW,anX,ab,ho,e1,e2,e3,e4,e5]
 ·obtain⟨l4,e4,t4,n4⟩:=Dq (n:=n) (nb:=0) (ob:=fun _=>true) (tb:=fun _=>[]) (fb:=50) (cs:=[]) fp gF (by omega) (by omega) (fun i _=>BS i) (by omega) l3 (false || !bk (.mk t.wn t.wk)) (by omega)
  rw[u9,Lx] at t4
  rw[u9] at e4
  obtain⟨l5,e5,t5,n5⟩:=fL fp [[93]] (by simp) l4 ((false || !bk (.mk t.wn t.wk)) || !t.kids.all ak) (by simp only[an0,an1];omega)
  simp only[an0,an1] at n5
  simp only[pg,tU,aog] at e1 e2 e3 e4 e5 t1 t2 t3 t4 t5
  rw[l9,oo]
  have eo:(!bk (.mk t.wn t.wk) || !t.kids.all ak)=!(bk (.mk t.wn t.wk)&&t.kids.all ak):=by cases bk (.mk t.wn t.wk)<;>cases t.kids.all ak<;>rfl
  rw[eo] at e4 e5 t4 t5
  refine⟨l5,?_,fun hp=>?_,by omega⟩
  ·skip
   refine aD (fn:=gH) rfl rfl rfl ?_
   unfold gH
   have ho:=hO l5 (!(bk (.mk t.wn t.wk)&&t.kids.all ak))
   generalize (!(bk (.mk t.wn t.wk)&&t.kids.all ak))=b2 at *
   generalize (!bk (.mk t.wn t.wk))=b1 at *
   simp(disch:=omega)only[mf,cZ,ca,cA,cu,gr,bj,aA,bf,aC.eval,AS.bW,↓reduceIte,Nat.reduceEqDiff,Option.isSome,Option.isNone,cond_true,anZ,Nat.reduceBEq,Nat.reduceAdd,Nat.reduceMul,aa,cj,eq_self,reduceCtorEq,gk,cQ,cm,bH,bound,dj,AS.bI,aQ,bF,bu,Nat.reduceLeDiff,cn,putAt,Int.reduceEq,Int.reduceLT,Int.reduceLE,Int.reduceBEq,Int.reduceBNe,Int.reduceAdd,Int.reduceNeg,Int.reduceSub,Int.reduceMul,dZ,dY,dX,dW,dV,dU,fc,fa,aN,bO,Int.toNat_natCast,aos,cw,dA,jj,fq,h0,hT,aoe,aoa,aop,aog,aoR,aoz,aoB,az,an6,an5,anZ,cond_true,aB,ay,an,anW,anX,ab,ho,e1,e2,e3,e4,e5]
  ·have hq:bk (.mk t.wn t.wk)=true:=by cases h:bk (.mk t.wn t.wk)<;>simp_all
   rw[t5 (by simp[hp]),t4 (by simp[hp]),t3 (by simp[hq]),t2 (by simp[hq]),t1 (by trivial)]
   simp[b11]
   rfl
theorem S0{n:Nat}(hn:n<=9000){t:Tm}(hk:t.kind=7)(hu:bt t=true)(Bz:t.name.length<=1100000)(og:t.kids.length<=3)(D6:∀ s∈t.names,s.length<=1100000)(gF:∀ u∈t.kids,jV n u){mm:Nat}{K:ai}(hP:PW mm K):oJ mm K 57 [.ref mm 0,.agg (cV t)] (ak t) (av t) (3*(n+3)+7):=by
 intro l hl
 have l9:=Zd hk hu
 have hmk:t.kids.length*(n+2+1)<=3*(n+2+1):=aoo _ og
 rw[l9]
 rw[al]
 have fp:PW mm (K++[.box 72 [.ref mm 0],.box 45 [.int .i64 t.kind,.int .i64 t.n,.str t.name,.str t.field,.str t.wn,.slice (ax t.wk) false,.slice (ar t.kids) false,.slice (strs t.names) false]]):=hP.LI (fun cs e=>by cases e) (fun cs e=>by cases e)
 have hH:TyH mm t K.length (K++[.box 72 [.ref mm 0],.box 45 [.int .i64 t.kind,.int .i64 t.n,.str t.name,.str t.field,.str t.wn,.slice (ax t.wk) false,.slice (ar t.kids) false,.slice (strs t.names) false]]):=⟨fp,fun l b=>xW hP,fun l b=>xX hP⟩
 have cw:=lP (l:=l) (b:=false) hP (L:=[.box 72 [.ref mm 0],.box 45 [.int .i64 t.kind,.int .i64 t.n,.str t.name,.str t.field,.str t.wn,.slice (ax t.wk) false,.slice (ar t.kids) false,.slice (strs t.names) false]])
 have hT:=fun l b=>kG (l:=l) (b:=b) hP (L:=[.box 72 [.ref mm 0],.box 45 [.int .i64 t.kind,.int .i64 t.n,.str t.name,.str t.field,.str t.wn,.slice (ax t.wk) false,.slice (ar t.kids) false,.slice (strs t.names) false]])
 have hO:=fun l b=>hP.BU (L:=[.box 72 [.ref mm 0],.box 45 [.int .i64 t.kind,.int .i64 t.n,.str t.name,.str t.field,.str t.wn,.slice (ax t.wk) false,.slice (ar t.kids) false,.slice (strs t.names) false]]) l b
 have bA:=hP.lt
 have vQ:=fun (ty off t:Nat) (os:List aO) (T:aU) (lo gen:Nat) (Q:AS->Prop)=>Cm (A:=A) (T:=T) (H:=cE mm l false K) (lo:=lo) (gen:=gen) (t:=t) (ty:=ty) (l:=mm) (off:=off) (os:=os) (K:=Q) (by rw[aB];omega)
 have o4:decide (K.length+1<K.length)=false:=by simp
 generalize K++[.box 72 [.ref mm 0],.box 45 [.int .i64 t.kind,.int .i64 t.n,.str t.name,.str t.field,.str t.wn,.slice (ax t.wk) false,.slice (ar t.kids) false,.slice (strs t.names) false]]=K1 at fp hH cw hT hO
 have hw:=hH.w
 have ht:=hH.t
 obtain⟨l1,e1,t1,n1⟩:=pn fp t.name (by omega) l false (by omega)
 rw[aog] at e1 t1
 have hv:=qR fp t (t.kids.length:Int) (t.kids.length:Int) l1 (!cT t.name)
 rw[al] at hv
 have PJ:gX t (t.kids.length:Int) (t.kids.length:Int)=decide ((t.names.length:Int)=t.kids.length):=by unfold gX;simp
 rw[PJ] at hv
 by_cases hg:(decide ((t.names.length:Int)=t.kids.length)&&cT t.name)=true
 ·simp only[an7,aoq] at hg
  obtain⟨g1,g2⟩:=hg
  have g1n:t.names.length=t.kids.length:=by omega
  rw[decide_eq_true g1,g2] at hv
  rw[g2] at e1 t1
  simp only[aoe,aoR,aoa] at e1 t1 hv
  rw[decide_eq_true g1,g2,aon,Bool.and_true]
  obtain⟨l2,e2,t2,n2⟩:=fL fp [[123]] (by simp) l1 false (by simp only[an0,an1];omega)
  simp only[an0,an1] at n2
  simp only[pg,tU] at e2 t2
  by_cases zc:t.kids.length=0
  ·have AN:t.kids=[]:=aoy.1 zc
   have aa0:t.names=[]:=aoy.1 (by omega)
   have e3:∀ Q:ai,aE A 53 [.ref mm 0,.slice [] false,.func (.func 89) [] [.ref K.length 0,.ref (K.length+1) 0]] Q=some (.undef,none):=fun Q=>Dp
   obtain⟨l4,e4,t4,n4⟩:=fL fp [[125]] (by simp) l2 false (by simp only[an0,an1];omega)
   simp only[an0,an1] at n4
   simp only[pg,tU] at e4 t4
   rw[aa0,AN]
   refine⟨l4,?_,fun _=>?_,by omega⟩
   ·have qq:ar t.kids=[]:=by rw[AN,LR]
    simp only[ao5,ao9,aoe]
    rw[AN,aa0,LR,jT] at cw ht hv
    rw[LR,jT]
    simp only[an1,aoG] at hv
    refine aD (fn:=nD) rfl rfl rfl ?_
    unfold nD
    have ho:=hO l4 false
    simp(disch:=omega)only[aY,aa,simprocAttr,cw,vQ,hw,ht,hv,an1,aoG,e1,e2,e3,e4,hT,ho,o4,az,an6,an5,anZ,cond_true,aB,ay,an,anW,anX,ab]
   ·rw[t4 (by trivial),t2 (by trivial),t1 (by trivial),cM t,hk,AN,aa0]
    simp[b7,aR]
  ·have hb:=fun i (hi:i<t.kids.length)=>ZH hH i (by omega) D6
   obtain⟨l3,e3,t3,n3⟩:=Dq (n:=n) (nb:=2) fp gF (by omega) (by omega) hb (by omega) l2 false (by omega)
   obtain⟨l4,e4,t4,n4⟩:=fL fp [[125]] (by simp) l3 (!xB (fun i=>isWord (t.names.getD i [])) t.kids t.kids.length) (by simp only[an0,an1];omega)
   simp only[an0,an1] at n4
   simp only[pg,tU,aog] at e3 e4 t3 t4
   have lH:xB (fun i=>isWord (t.names.getD i [])) t.kids t.kids.length=(t.names.all isWord&&t.kids.all ak):=by
    rw[u7,rT,<- g1n,NA]
   rw[lH] at e3 e4 t3 t4
   refine⟨l4,?_,fun hp=>?_,by omega⟩
   ·refine aD (fn:=nD) rfl rfl rfl ?_
    unfold nD
    have ho:=hO l4 (!(t.names.all isWord&&t.kids.all ak))
    generalize (!(t.names.all isWord&&t.kids.all ak))=b6 at *
    simp(disch:=omega)only[aY,aa,simprocAttr,cw,vQ,hw,ht,hv,bK,e1,e2,e3,e4,hT,ho,o4,az,an6,an5,anZ,cond_true,aB,ay,an,anW,anX,ab]
   ·rw[t4 (by simp[hp]),t3 (by simp[hp]),t2 (by trivial),t1 (by trivial),cM t,hk,V4 g1n]
    simp[b7]
 ·have hg' : (decide ((t.names.length:Int)=t.kids.length)&&t.names.all isWord&&cT t.name&&t.kids.all ak)=false:=by
   cases h1:decide ((t.names.length:Int)=t.kids.length)<;>cases h2:cT t.name<;>simp_all
  rw[hg']
  have eb:(!cT t.name || !decide ((t.names.length:Int)=t.kids.length))=true:=by cases h1:decide ((t.names.length:Int)=t.kids.length)<;>cases h2:cT t.name<;>simp_all
  rw[eb] at hv
  refine⟨l1,?_,(fun h=>by cases h),by omega⟩
  refine aD (fn:=nD) rfl rfl rfl ?_
  unfold nD
  have ho:=hO l1 true
  generalize (!cT t.name)=b1 at *
  simp(disch:=omega)only[aY,aa,simprocAttr,cw,vQ,hw,ht,hv,bK,e1,hT,ho,o4,aoe,aoa,az,an6,an5,anZ,cond_true,aB,ay,an,anW,anX,ab]
theorem Tw{ns:List cd}{ks:List Tm}(h1:0<ks.length)(h2:ks.length<=2)(hn:ns.length=2*ks.length):xB (fun i=>isWord (ns.getD (2*i) [])&&isWord (ns.getD (2*i+1) [])) ks ks.length=(ns.all isWord&&ks.all ak):=by
 rw[u7,rT]
 congr 1
 match ks,ns,h1,h2,hn with
 | [k],[p,q],_,_,_=>simp[List.range_succ]
 | [k,j],[p,q,r,u],_,_,_=>simp[List.range_succ,Bool.and_assoc]
theorem it1{p q:cd}{y:Tm} : aR (Df (fun i=>[([p,q]:List cd).getD (2*i) [],([p,q]:List cd).getD (2*i+1) [],[45,62]]) [y] (0+1))=[p,q,[45,62]]++av y:=rfl
theorem it2{p q r u:cd}{y z:Tm} : aR (Df (fun i=>[([p,q,r,u]:List cd).getD (2*i) [],([p,q,r,u]:List cd).getD (2*i+1) [],[45,62]]) [y,z] (0+1+1))=[p,q,[45,62]]++av y++[[44]]++([r,u,[45,62]]++av z):=rfl
theorem NS{n:Nat}(hn:n<=9000){t:Tm}(hk:t.kind=10)(hu:bt t=true)(Bz:t.name.length<=1100000)(og:t.kids.length<=3)(qk:t.names.length<=8)(D6:∀ s∈t.names,s.length<=1100000)(gF:∀ u∈t.kids,jV n u){mm:Nat}{K:ai}(hP:PW mm K):oJ mm K 57 [.ref mm 0,.agg (cV t)] (ak t) (av t) (3*(n+4)+9):=by
 intro l hl
 have l9:=RX hk hu
 rw[l9]
 rw[al]
 have fp:PW mm (K++[.box 72 [.ref mm 0],.box 45 [.int .i64 t.kind,.int .i64 t.n,.str t.name,.str t.field,.str t.wn,.slice (ax t.wk) false,.slice (ar t.kids) false,.slice (strs t.names) false]]):=hP.LI (fun cs e=>by cases e) (fun cs e=>by cases e)
 have hH:TyH mm t K.length (K++[.box 72 [.ref mm 0],.box 45 [.int .i64 t.kind,.int .i64 t.n,.str t.name,.str t.field,.str t.wn,.slice (ax t.wk) false,.slice (ar t.kids) false,.slice (strs t.names) false]]):=⟨fp,fun l b=>xW hP,fun l b=>xX hP⟩
 have cw:=lP (l:=l) (b:=false) hP (L:=[.box 72 [.ref mm 0],.box 45 [.int .i64 t.kind,.int .i64 t.n,.str t.name,.str t.field,.str t.wn,.slice (ax t.wk) false,.slice (ar t.kids) false,.slice (strs t.names) false]])
 have hT:=fun l b=>kG (l:=l) (b:=b) hP (L:=[.box 72 [.ref mm 0],.box 45 [.int .i64 t.kind,.int .i64 t.n,.str t.name,.str t.field,.str t.wn,.slice (ax t.wk) false,.slice (ar t.kids) false,.slice (strs t.names) false]])
 have hO:=fun l b=>hP.BU (L:=[.box 72 [.ref mm 0],.box 45 [.int .i64 t.kind,.int .i64 t.n,.str t.name,.str t.field,.str t.wn,.slice (ax t.wk) false,.slice (ar t.kids) false,.slice (strs t.names) false]]) l b
 have bA:=hP.lt
 have vQ:=fun (ty off t:Nat) (os:List aO) (T:aU) (lo gen:Nat) (Q:AS->Prop)=>Cm (A:=A) (T:=T) (H:=cE mm l false K) (lo:=lo) (gen:=gen) (t:=t) (ty:=ty) (l:=mm) (off:=off) (os:=os) (K:=Q) (by rw[aB];omega)
 have o4:decide (K.length+1<K.length)=false:=by simp
 generalize K++[.box 72 [.ref mm 0],.box 45 [.int .i64 t.kind,.int .i64 t.n,.str t.name,.str t.field,.str t.wn,.slice (ax t.wk) false,.slice (ar t.kids) false,.slice (strs t.names) false]]=K1 at fp hH cw hT hO
 have hw:=hH.w
 have ht:=hH.t
 have hc:=fun ok=>fO fp ok l false
 simp only[aog] at hc
 have hv:=fun b=>qR fp t ((t.kids.length:Int)-1+1) (2*((t.kids.length:Int)-1)) l b
 rw[al] at hv
 have PJ:gX t ((t.kids.length:Int)-1+1) (2*((t.kids.length:Int)-1))=decide ((t.names.length:Int)=2*((t.kids.length:Int)-1)):=by
  unfold gX
  rw[decide_eq_true (show (t.kids.length:Int)=(t.kids.length:Int)-1+1 by omega),aon]
 rw[PJ] at hv
 by_cases g0:2<=t.kids.length
 ·by_cases g1:(t.names.length:Int)=2*((t.kids.length:Int)-1)
  ·have hc:=hc true
   have hv:=hv (!true)
   rw[decide_eq_true g1] at hv
   simp only[aoe,aoR,aoa] at hc hv
   rw[decide_eq_true g0,decide_eq_true g1,aon,aon]
   obtain⟨x,rest,Y4⟩:∃ x rest,t.kids=x :: rest:=by
    cases h:t.kids with
    | nil=>rw[h] at g0;simp at g0
    | cons a r=>exact⟨a,r,rfl⟩
   have Ih:rest.length+1=t.kids.length:=by rw[Y4];rfl
   have hmk:rest.length*(n+3+1)<=2*(n+3+1):=aoo _ (by omega)
   have JH:=gF x (by rw[Y4];simp)
   have hkr:∀ u∈rest,jV n u:=fun u h=>gF u (by rw[Y4];simp[h])
   have gq:(ar t.kids)[0]?=some (cV x):=by rw[Y4];simp[ar]
   have hdr:(ar t.kids).drop 1=ar rest:=by rw[Y4];simp[ar]
   have kU:(ar t.kids).take t.kids.length=ar t.kids:=aoJ (by rw[bK];omega)
   unfold jV at JH
   rw[al x] at gq JH
   obtain⟨l1,e1,t1,n1⟩:=fL fp [[109,97,116,99,104]] (by simp) l false (by simp only[an0,an1];omega)
   simp only[an0,an1] at n1
   obtain⟨l2,e2,t2,n2⟩:=pn fp t.name (by omega) l1 false (by omega)
   obtain⟨l3,e3,t3,n3⟩:=fL fp [[40]] (by simp) l2 (!cT t.name) (by simp only[an0,an1];omega)
   simp only[an0,an1] at n3
   obtain⟨l4,e4,t4,n4⟩:=JH mm K1 fp l3 (!cT t.name) (by omega)
   obtain⟨l5,e5,t5,n5⟩:=fL fp [[41],[123]] (by simp) l4 (!cT t.name || !ak x) (by simp only[an0,an1];omega)
   simp only[an0,an1] at n5
   have hb:=fun i (hi:i<rest.length)=>ZG hH i (by omega) (by omega) D6
   obtain⟨l6,e6,t6,n6⟩:=Dq (n:=n) (nb:=3) fp hkr (by omega) (by omega) hb (by omega) l5 (!cT t.name || !ak x) (by omega)
   have lH:=Tw (ns:=t.names) (ks:=rest) (by omega) (by omega) (by omega)
   rw[lH] at e6 t6
   obtain⟨l7,e7,t7,n7⟩:=fL fp [[125]] (by simp) l6 ((!cT t.name || !ak x) || !(t.names.all isWord&&rest.all ak)) (by simp only[an0,an1];omega)
   simp only[an0,an1] at n7
   have es2:strs [[41],[123]]=[[.str [41]],[.str [123]]]:=rfl
   simp only[pg,tU,es2,aog] at e1 e2 e3 e4 e5 e6 e7 t1 t2 t3 t4 t5 t6 t7
   have eo:((!cT t.name || !ak x) || !(t.names.all isWord&&rest.all ak))=!(t.names.all isWord&&cT t.name&&t.kids.all ak):=by
    rw[Y4,aoV]
    cases cT t.name<;>cases ak x<;>cases t.names.all isWord<;>cases rest.all ak<;>rfl
   rw[eo] at e6 e7 t6 t7
   refine⟨l7,?_,fun hp=>?_,by omega⟩
   ·refine aD (fn:=nD) rfl rfl rfl ?_
    unfold nD
    have ho:=hO l7 (!(t.names.all isWord&&cT t.name&&t.kids.all ak))
    generalize (!(t.names.all isWord&&cT t.name&&t.kids.all ak))=b7 at *
    generalize (!cT t.name || !ak x)=b4 at *
    generalize (!cT t.name)=b2 at *
    simp(disch:=omega)only[aY,aa,simprocAttr,cw,vQ,hw,ht,bK,DY,kU,hdr,gq,hc,hv,e1,e2,e3,e4,e5,e6,e7,hT,ho,o4,az,an6,an5,anZ,cond_true,aB,ay,an,anW,anX,ab]
   ·have h1:=hp
    rw[Y4,aoV] at h1
    simp only[an7] at h1
    have hq:cT t.name=true:=h1.1.2
    have PU:ak x=true:=h1.2.1
    rw[t7 (by simp[hp]),t6 (by simp[hp]),t5 (by simp[hq,PU]),t4 (by simp[hq,PU]),t3 (by simp[hq]),t2 (by simp[hq]),t1 (by trivial),cM t,hk,Y4]
    match rest,t.names,Ih,g1 with
    | [y],[p,q],_,_=>simp only[aoc,aof,ahk,an0,an1,it1,apd,apm,ao0]
    | [y,z],[p,q,r,u],_,_=>simp only[aoc,aof,ahl,an0,an1,it2,apd,apm,ao0]
    | [],_,h,_=>simp at h;omega
    | [y],[],h,g=>rw[<- h] at g;simp at g
    | [y],[_],h,g=>rw[<- h] at g;simp at g
    | [y],_ :: _ :: _ :: _,h,g=>rw[<- h] at g;simp at g;omega
    | [y,z],[],h,g=>rw[<- h] at g;simp at g
    | [y,z],[_],h,g=>rw[<- h] at g;simp at g
    | [y,z],[_,_],h,g=>rw[<- h] at g;simp at g
    | [y,z],[_,_,_],h,g=>rw[<- h] at g;simp at g
    | [y,z],_ :: _ :: _ :: _ :: _ :: _,h,g=>rw[<- h] at g;simp at g;omega
    | _ :: _ :: _ :: _,_,h,_=>simp at h;omega
  ·have hc:=hc true
   have hv:=hv (!true)
   rw[aoP g1] at hv
   simp only[aoe,aoR,aoa,aog] at hc hv
   rw[aoP g1,Bool.and_false,aoj,aoj,aoj]
   refine⟨l,?_,(fun h=>by cases h),by omega⟩
   refine aD (fn:=nD) rfl rfl rfl ?_
   unfold nD
   have ho:=hO l true
   simp(disch:=omega)only[aY,aa,simprocAttr,cw,vQ,hw,ht,bK,hc,hv,hT,ho,o4,aoe,aoa,az,an6,an5,anZ,cond_true,aB,ay,an,anW,anX,ab]
 ·have hc:=hc false
  have hv:=hv (!false)
  simp only[aoa,aoz,aoe] at hc hv
  rw[aoP g0,aoj,aoj,aoj,aoj]
  refine⟨l,?_,(fun h=>by cases h),by omega⟩
  refine aD (fn:=nD) rfl rfl rfl ?_
  unfold nD
  have ho:=hO l true
  simp(disch:=omega)only[aY,aa,simprocAttr,cw,vQ,hw,ht,bK,hc,hv,hT,ho,o4,aoe,aoa,az,an6,an5,anZ,cond_true,aB,ay,an,anW,anX,ab]
theorem X4{t:Tm}{n h:Nat}(hn:n<=9000)(hF:vl h t)(hk:t.kind=8)(hu:bt t=true)(gF:∀ u∈t.kids,jV n u){mm:Nat}{K:ai}(hP:PW mm K):oJ mm K 27 [.ref mm 0,.agg (cV t)] (ak t) (av t) (3*(n+4)+20):=by
 have l9:=Ze hk hu
 have hU:=ade hk hu
 have oo:=cM t
 rw[hk] at oo
 have Bz:=hF.a
 have og:=hF.kl
 rw[al]
 intro l hl
 obtain⟨K1,fp,cw,dA,hT,hO⟩:=lD hP t
 have bA:=hP.lt
 have jj:=fun K=>gZ t K
 rw[hu,al] at jj
 have fq:=fun ok l b=>fO fp ok l b
 have h0:=fun l b=>fG (l:=l) (b:=b) fp
 unfold lq at h0
 obtain⟨l1,e1,t1,n1⟩:=S1 (by omega) hk hu hF.a hF.f gF fp l (by omega)
 rw[al] at e1
 refine⟨l1,?_,t1,by omega⟩
 refine aD (fn:=gH) rfl rfl rfl ?_
 unfold gH
 have ho:=hO l1 (!ak t)
 generalize (!ak t)=b1 at *
 simp(disch:=omega)only[aY,aa,simprocAttr,cw,dA,jj,fq,h0,hT,aoe,aoa,aop,aog,aoR,aoz,aoB,az,an6,an5,anZ,cond_true,aB,ay,an,anW,anX,ab,ho,e1]
theorem X5{t:Tm}{n h:Nat}(hn:n<=9000)(hF:vl h t)(hk:t.kind=9)(hu:bt t=true)(gF:∀ u∈t.kids,jV n u){mm:Nat}{K:ai}(hP:PW mm K):oJ mm K 27 [.ref mm 0,.agg (cV t)] (ak t) (av t) (3*(n+4)+20):=by
 have l9:=Zf hk hu
 have hU:=adf hk hu
 have oo:=cM t
 rw[hk] at oo
 have Bz:=hF.a
 have og:=hF.kl
 rw[al]
 intro l hl
 obtain⟨K1,fp,cw,dA,hT,hO⟩:=lD hP t
 have bA:=hP.lt
 have jj:=fun K=>gZ t K
 rw[hu,al] at jj
 have fq:=fun ok l b=>fO fp ok l b
 have h0:=fun l b=>fG (l:=l) (b:=b) fp
 unfold lq at h0
 obtain⟨l1,e1,t1,n1⟩:=S2 (by omega) hk hu hF.a hF.f gF fp l (by omega)
 rw[al] at e1
 refine⟨l1,?_,t1,by omega⟩
 refine aD (fn:=gH) rfl rfl rfl ?_
 unfold gH
 have ho:=hO l1 (!ak t)
 generalize (!ak t)=b1 at *
 simp(disch:=omega)only[aY,aa,simprocAttr,cw,dA,jj,fq,h0,hT,aoe,aoa,aop,aog,aoR,aoz,aoB,az,an6,an5,anZ,cond_true,aB,ay,an,anW,anX,ab,ho,e1]
theorem X3{t:Tm}{n h:Nat}(hn:n<=9000)(hF:vl h t)(hk:t.kind=7)(hu:bt t=true)(gF:∀ u∈t.kids,jV n u){mm:Nat}{K:ai}(hP:PW mm K):oJ mm K 27 [.ref mm 0,.agg (cV t)] (ak t) (av t) (3*(n+4)+20):=by
 have l9:=Zd hk hu
 have hU:=agE hk hu
 have oo:=cM t
 rw[hk] at oo
 have Bz:=hF.a
 have og:=hF.kl
 rw[al]
 intro l hl
 obtain⟨K1,fp,cw,dA,hT,hO⟩:=lD hP t
 have bA:=hP.lt
 have jj:=fun K=>gZ t K
 rw[hu,al] at jj
 have fq:=fun ok l b=>fO fp ok l b
 have h0:=fun l b=>fG (l:=l) (b:=b) fp
 unfold lq at h0
 obtain⟨l1,e1,t1,n1⟩:=S0 hn hk hu hF.a og hF.nb gF fp l (by omega)
 rw[al] at e1
 refine⟨l1,?_,t1,by omega⟩
 refine aD (fn:=gH) rfl rfl rfl ?_
 unfold gH
 have ho:=hO l1 (!ak t)
 generalize (!ak t)=b1 at *
 simp(disch:=omega)only[aY,aa,simprocAttr,cw,dA,jj,fq,h0,hT,aoe,aoa,aop,aog,aoR,aoz,aoB,az,an6,an5,anZ,cond_true,aB,ay,an,anW,anX,ab,ho,e1]
theorem SS{t:Tm}{n h:Nat}(hn:n<=9000)(hF:vl h t)(hk:t.kind=10)(hu:bt t=true)(gF:∀ u∈t.kids,jV n u){mm:Nat}{K:ai}(hP:PW mm K):oJ mm K 27 [.ref mm 0,.agg (cV t)] (ak t) (av t) (3*(n+4)+20):=by
 have l9:=RX hk hu
 have hU:=Zn hk hu
 have oo:=cM t
 rw[hk] at oo
 have Bz:=hF.a
 have og:=hF.kl
 rw[al]
 intro l hl
 obtain⟨K1,fp,cw,dA,hT,hO⟩:=lD hP t
 have bA:=hP.lt
 have jj:=fun K=>gZ t K
 rw[hu,al] at jj
 have fq:=fun ok l b=>fO fp ok l b
 have h0:=fun l b=>fG (l:=l) (b:=b) fp
 unfold lq at h0
 obtain⟨l1,e1,t1,n1⟩:=NS hn hk hu hF.a og hF.nl hF.nb gF fp l (by omega)
 rw[al] at e1
 refine⟨l1,?_,t1,by omega⟩
 refine aD (fn:=gH) rfl rfl rfl ?_
 unfold gH
 have ho:=hO l1 (!ak t)
 generalize (!ak t)=b1 at *
 simp(disch:=omega)only[aY,aa,simprocAttr,cw,dA,jj,fq,h0,hT,aoe,aoa,aop,aog,aoR,aoz,aoB,az,an6,an5,anZ,cond_true,aB,ay,an,anW,anX,ab,ho,e1]
theorem X7{t:Tm}{n:Nat}(hk:t.kind<0\/12<t.kind)(hu:bt t=true){mm:Nat}{K:ai}(hP:PW mm K):oJ mm K 27 [.ref mm 0,.agg (cV t)] (ak t) (av t) n:=by
 have l9:ak t=false:=by
  cases h:ak t with
  | false=>rfl
  | true=>have:=zI (xS h);omega
 rw[al,l9]
 intro l hl
 obtain⟨K1,fp,cw,dA,hT,hO⟩:=lD hP t
 have bA:=hP.lt
 have jj:=fun K=>gZ t K
 rw[hu,al] at jj
 have fq:=fun ok l b=>fO fp ok l b
 have h0:=fun l b=>fG (l:=l) (b:=b) fp
 unfold lq at h0
 have h1:∀ (l:List cd) (b:Bool) (x:cJ),((cE mm l b K1).set mm x)[mm]?=some x:=fun l b x=>List.getElem?_set_self (by rw[aB];exact fp.lt)
 refine⟨l,?_,(fun h=>by cases h),by omega⟩
 refine aD (fn:=gH) rfl rfl rfl ?_
 unfold gH
 have ho:=hO l true
 simp(disch:=omega)only[mf,cZ,ca,cA,cu,gr,bj,aA,bf,aC.eval,AS.bW,↓reduceIte,Nat.reduceEqDiff,Option.isSome,Option.isNone,cond_true,anZ,Nat.reduceBEq,Nat.reduceAdd,Nat.reduceMul,aa,cj,eq_self,reduceCtorEq,gk,cQ,cm,bH,bound,dj,AS.bI,aQ,bF,bu,Nat.reduceLeDiff,cn,putAt,Int.reduceEq,Int.reduceLT,Int.reduceLE,Int.reduceBEq,Int.reduceBNe,Int.reduceAdd,Int.reduceNeg,Int.reduceSub,Int.reduceMul,dZ,dY,dX,dW,dV,dU,fc,fa,aN,bO,Int.toNat_natCast,aos,cw,dA,jj,fq,h0,hT,aoe,aoa,aop,aog,aoR,aoz,aoB,az,an6,an5,anZ,cond_true,aB,ay,an,anW,anX,ab,ho,h1,rz]
theorem X6{t:Tm}(b:Bool)(hb:(b || !bt t)=true)(l:List cd){mm:Nat}{K:ai}(hP:PW mm K):aE A 27 [.ref mm 0,.agg (cV t)] (cE mm l b K)=some (.undef,some ⟨cE mm l true K,mm⟩):=by
 rw[al]
 obtain⟨K1,fp,cw,dA,hT,hO⟩:=lD hP t
 have bA:=hP.lt
 have jj:=fun K=>gZ t K
 rw[al] at jj
 have fq:=fun ok=>fO fp ok l b
 have fq:=fq (bt t)
 rw[hb] at fq
 have h0:=fun l b=>fG (l:=l) (b:=b) fp
 unfold lq at h0
 generalize bt t=uu at *
 refine aD (fn:=gH) rfl rfl rfl ?_
 unfold gH
 have ho:=hO l true
 simp(disch:=omega)only[aY,aa,simprocAttr,cw,dA,jj,fq,h0,hT,aoe,aoa,aop,aog,aoR,aoz,aoB,az,an6,an5,anZ,cond_true,aB,ay,an,anW,anX,ab,ho,]
theorem SW{t:Tm}{n h:Nat}(hn:n<=9000)(hF:vl h t)(gF:∀ u∈t.kids,jV n u):jV (3*(n+4)+20) t:=by
 intro mm K hP l b hl
 by_cases hc:b=false/\bt t=true
 ·obtain⟨rfl,hu⟩:=hc
  have main:oJ mm K 27 [.ref mm 0,.agg (cV t)] (ak t) (av t) (3*(n+4)+20):=by
   rcases tG t.kind with e|e|e|e|e|e|e|e|e|e|e|e|e|e
   ·exact XW hn hF e hu gF hP
   ·exact XX hn hF e hu gF hP
   ·exact XY hn hF e hu gF hP
   ·exact XZ hn hF e hu gF hP
   ·exact X0 hn hF e hu gF hP
   ·exact X1 hn hF e hu gF hP
   ·exact X2 hn hF e hu gF hP
   ·exact X3 hn hF e hu gF hP
   ·exact X4 hn hF e hu gF hP
   ·exact X5 hn hF e hu gF hP
   ·exact SS hn hF e hu gF hP
   ·exact SU hn hF e hu gF hP
   ·exact SV hn hF e hu gF hP
   ·exact X7 e hu hP
  obtain⟨l',e,t1,n1⟩:=main l hl
  exact⟨l',by simpa using e,fun h=>t1 (by simpa using h),n1⟩
 ·have hb:(b || !bt t)=true:=by cases b<;>cases h:bt t<;>simp_all
  have hp:(b || !ak t)=true:=by
   cases b with
   | true=>rfl
   | false =>
    cases h:ak t with
    | false=>rfl
    | true=>rw[Ya h] at hb;cases hb
  rw[hp]
  exact⟨l,X6 b hb l hP,(fun h=>by cases h),by omega⟩
def wB:Nat->Nat
 | 0=>0
 | h+1=>3*(wB h+4)+20
theorem S5{h:Nat}(hh:h<=5):wB h<=9000:=by
 have:h=0\/h=1\/h=2\/h=3\/h=4\/h=5:=by omega
 rcases this with rfl|rfl|rfl|rfl|rfl|rfl<;>decide
theorem HZ:∀ (h:Nat) (t:Tm),h<=5->LW h t->jV (wB h) t
 | 0,t,_,hb=>by cases hb
 | h+1,t,hh,hb=>SW (S5 (by omega)) hb.out (fun u hu=>HZ h u (by omega) (hb.out.kb u hu))
theorem Hg{H:ai}{a:cJ} : (H++[a]).length=H.length+1:=l1
theorem B8{H:ai}{a o:cJ}{l:List cd}{b:Bool} : (cE (H.length+1) l b (H++[a,o])).take H.length=H:=by
 unfold cE
 rw[s2b];exact h2t
theorem LU{H:ai}{a o:cJ}{l:List cd}{b:Bool} : (cE (H.length+1) l b (H++[a,o]))[H.length]?=some a:=by
 unfold cE
 rw[s2b];exact Ue
theorem Ab{H:ai}{a o x:cJ}{l:List cd}{b:Bool} : ((cE (H.length+1) l b (H++[a,o])).set (H.length+1) x).take H.length=H:=by
 unfold cE
 rw[s2b,s2b];exact h2t
theorem PF{s:So}(hb:SoB s)(H:ai):aE A 11 [.agg (s8 s)] H=some (.slice (strs (tP s)) true,none):=by
 rw[s8]
 obtain⟨K,hK⟩:∃ K,K=H++[.box 58 [.str s.name,.slice (strs s.dq) false,.slice (s.defs.map gb) false,.slice (strs s.head) false,.str s.fin],.box 74 [.af,.bool false]]:=⟨_,rfl⟩
 obtain⟨mm,MX⟩:∃ mm,mm=H.length+1:=⟨_,rfl⟩
 have hKl:K.length=H.length+2:=by rw[hK];simp
 have hP:PW mm K:=⟨by omega,fun j cs hj=>by
  rw[hK,MX] at *
  intro e
  rw[aou (by omega)] at e
  match vS:j-H.length with
  | 0=>omega
  | 1=>rw[vS] at e;cases e
  | n+2=>rw[vS] at e;simp at e⟩
 have h0:K[mm]?=some (.box 74 [.af,.bool false]):=by rw[hK,MX];exact h2b
 have hul:=hb.ul
 have ef:=RZ hP [[109,111,100,117,108,101]] (by simp) h0
 rw[tU] at ef
 obtain⟨l1,e1,t1,n1⟩:=jh hP s.name (by have:=hb.a;omega) [[109,111,100,117,108,101]] false (by simp)
 simp only[an0,an1,aog] at e1 t1 n1
 have dA:∀ l b,(cE mm l b K)[H.length]?=some (.box 58 [.str s.name,.slice (strs s.dq) false,.slice (s.defs.map gb) false,.slice (strs s.head) false,.str s.fin]):=fun l b=>by rw[hK,MX];exact LU
 have GL:∀ l b,(cE mm l b K).take H.length=H:=fun l b=>by rw[hK,MX];exact B8
 have JM:∀ l b x,((cE mm l b K).set mm x).take H.length=H:=fun l b x=>by rw[hK,MX];exact Ab
 have o4:decide (H.length+1<H.length)=false:=by simp
 have jL:decide (mm<H.length)=false:=by simp;omega
 have hus:∀ i,i<=s.dq.length->(s.dq.take i).all isWord=(s.dq.take i).all isWord:=fun _ _=>rfl
 have hw0:=fun l b=>fG (l:=l) (b:=b) hP
 unfold lq at hw0
 refine aD (fn:=JQ) rfl rfl rfl ?_
 refine iz 3 (fun st=>∃ T,st=⟨T,cE mm l1 (!isWord s.name) K,H.length,0⟩/\T 1=.ref H.length 0/\T 3=.ref mm 0) ?_ ?_
 ·unfold JQ
  simp only[bq.pre]
  have hKs:H++[cJ.box 58 [.str s.name,.slice (strs s.dq) false,.slice (s.defs.map gb) false,.slice (strs s.head) false,.str s.fin],.box 74 [.af,.bool false]]=K:=hK.symm
  have aaU:H.length+1=mm:=MX.symm
  generalize (!isWord s.name)=b1 at *
  simp(disch:=omega)only[aY,aa,simprocAttr,cF,Hg,aaU,hKs,ef,e1,dA,jL,az,an6,an5,anZ,cond_true,aB,ay,an,anW,anX,ab]
  exact⟨_,rfl,by simp(disch:=omega)only[aV,aa,simprocAttr],by simp(disch:=omega)only[aV,aa,simprocAttr]⟩
 ·rintro st ⟨T,rfl,q1,q3⟩
  refine iz 0 (fun st=>∃ T l',st=⟨T,cE mm l' (!(isWord s.name&&s.dq.all isWord)) K,H.length,0⟩/\T 3=.ref mm 0/\((isWord s.name&&s.dq.all isWord)=true->l'=heads s)) ?_ ?_
  ·unfold JQ
   simp only[bq.post,bq.pre]
   simp(disch:=omega)only[aY,aa,simprocAttr,q1,q3,dA,cg,az,an6,an5,anZ,cond_true,aB,ay,an,anW,anX,ab]
   refine cK s.dq.length 0 (fun i st=>∃ T l',st=⟨T,cE mm l' (!(isWord s.name&&(s.dq.take i).all isWord)) K,H.length,0⟩/\T 3=.ref mm 0/\T 16=.slice (strs s.dq) false/\T 17=.int .i64 s.dq.length/\T 18=.int .i64 i/\((isWord s.name&&(s.dq.take i).all isWord)=true->l'=[[109,111,100,117,108,101],s.name]++((s.dq.take i).map fun u=>[[117,115,101],u]).flatten)/\l'.length<=2+2*i)
    (fun st=>∃ T l',st=⟨T,cE mm l' (!(isWord s.name&&s.dq.all isWord)) K,H.length,0⟩/\T 3=.ref mm 0/\((isWord s.name&&s.dq.all isWord)=true->l'=heads s)) (fun _=>False) ?_ (fun st h=>h) (fun _ h=>h.elim) 0 _ (by omega) ?_
   ·rintro i st hi ⟨T,l',rfl,q3,q16,q17,q18,ht,Ak⟩
    by_cases bA:i<s.dq.length
    ·have hx:=an3 bA
     have hm:=aoX bA
     have kU:=iV hx
     generalize s.dq[i]=u at hx hm kU
     have gq:=lp hx
     have amg:=hb.ub u hm
     obtain⟨l2,e2,t2,n2⟩:=fL hP [[117,115,101]] (by simp) l' (!(isWord s.name&&(s.dq.take i).all isWord)) (by simp only[an0,an1];omega)
     simp only[an0,an1] at n2
     rw[pg,tU] at e2
     rw[pg] at t2
     obtain⟨l3,e3,t3,n3⟩:=jh hP u (by omega) l2 (!(isWord s.name&&(s.dq.take i).all isWord)) (by omega)
     have eo:(!(isWord s.name&&(s.dq.take i).all isWord) || !isWord u)=!(isWord s.name&&(s.dq.take (i+1)).all isWord):=by
      rw[kU,List.all_append]
      simp only[aoV,ao5,Bool.and_true]
      cases isWord s.name<;>cases (s.dq.take i).all isWord<;>cases isWord u<;>rfl
     rw[eo] at e3 t3
     have lH:(isWord s.name&&(s.dq.take (i+1)).all isWord)=true->(isWord s.name&&(s.dq.take i).all isWord)=true:=by
      rw[kU,List.all_append]
      cases isWord s.name<;>cases (s.dq.take i).all isWord<;>simp
     generalize (isWord s.name&&(s.dq.take (i+1)).all isWord)=ok1 at *
     generalize (isWord s.name&&(s.dq.take i).all isWord)=ok0 at *
     simp(disch:=omega)only[aY,aa,simprocAttr,q3,q16,q17,q18,gq,e2,e3,jL,az,an6,an5,anZ,cond_true,aB,ay,an,anW,anX,ab]
     refine⟨bA,_,l3,rfl,?_,?_,?_,?_,fun h=>?_,by omega⟩
     all_goals first|(simp(disch:=omega)only[aV,aa,simprocAttr,q3,q16,q17];done)|skip
     have h1:=lH h
     rw[t3 (by simp[h]),t2 (by simp[h1]),ht h1,kU];simp
    ·obtain rfl:i=s.dq.length:=by omega
     rw[aps] at ht ⊢
     generalize (isWord s.name&&s.dq.all isWord)=ok0 at *
     simp(disch:=omega)only[aY,aa,simprocAttr,q3,q16,q17,q18,az,an6,an5,anZ,cond_true,aB]
     exact⟨_,l',rfl,by simp(disch:=omega)only[aV,aa,simprocAttr,q3],fun h=>by rw[ht h];rfl⟩
   ·have e0:cE mm l1 (!isWord s.name) K=cE mm l1 (!(isWord s.name&&(s.dq.take 0).all isWord)) K:=by rw[aoQ,ao5,Bool.and_true]
    refine⟨_,l1,apK (fun x=>AS.mk _ x _ _) e0,?_,?_,?_,?_,fun h=>?_,by omega⟩
    all_goals first|(simp(disch:=omega)only[aV,aa,simprocAttr,q3,aoG];done)|skip
    simp only[aoQ,ao5,Bool.and_true] at h
    rw[t1 (by simp[h])];simp
  ·rintro st ⟨T,l',rfl,q3,ht⟩
   unfold JQ
   simp only[bq.post]
   unfold tP
   cases lH:(isWord s.name&&s.dq.all isWord) with
   | true =>
    have h2:=ht lH
    simp only[an7] at lH
    rw[if_pos lH,h2]
    simp(disch:=omega)only[aY,aa,simprocAttr,q3,hw0,JM,GL,jL,aoe,az,an6,an5,anZ,cond_true,aB,ay,an,anW,anX,ab]
   | false =>
    rw[if_neg (by intro h;rw[h.1,h.2] at lH;cases lH)]
    simp(disch:=omega)only[aY,aa,simprocAttr,q3,hw0,GL,jL,aoa,jT,az,an6,an5,anZ,cond_true,aB,ay,an,anW,anX,ab]
end Go.Proofs.YtbdhkgiakaegdaaGreatDoor
