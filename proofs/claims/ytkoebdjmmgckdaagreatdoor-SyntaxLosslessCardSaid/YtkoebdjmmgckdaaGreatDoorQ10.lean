/-
  A part of the proof of SyntaxLossless: UQ4, UQ5, UQ6, UQ7, UQ8, UQ9, UQ10, UQ11, UQ12, UQ13, UQ14, UQ15, U46.
-/
import Derived.Test.YtkoebdjmmgckdaaGreatDoorQ09
set_option linter.unusedSimpArgs false
set_option linter.unusedVariables false
set_option linter.defProp false
set_option maxHeartbeats 1000000
set_option maxRecDepth 100000
noncomputable section
namespace Go.Proofs.YtkoebdjmmgckdaaGreatDoor
open Go Go.Abs Go.Proofs
variable {v:AV}{r x y:AV × Option fw}{b:Bool}{least:Int}{rows:List (List AV)}{args c0 row row':List AV}{tT:List Tk}{ks:List Tm}{ns:List av}{gen j l lo mm n' q:Nat}{fn:aD}{K' K0:aa}{w:av}{T:az}{o:bG}
section
abbrev Rel:=List AV->aa->AV × Option fw->Prop
open Classical in
def mb(R:Rel)(args:List AV)(H:aa):Option (AV × Option fw):=if h:∃ x,R args H x then some (Classical.choose h) else none
theorem tK{R:Rel}{H:aa}(h:mb R args H=some x):R args H x:=by
 unfold mb at h;split at h
 ·grind
 ·cases h
theorem qf{R:Rel}{H:aa}(hu:∀ y,R args H y->y=x)(h:R args H x):mb R args H=some x:=by
 have hx:∃ x,R args H x:=⟨x,h⟩;unfold mb
 grind
structure jk (tk:List Tk) (pl:Nat) (s:PS) (H:aa):Prop where
 q:PQ pl H
 at' : H[pl]?=some (nS tk s)
 b:Cj tk
 le:s.i<=tk.length
theorem WK{tk:List Tk}{s s':PS}(h:nS tk s=nS tT s'):tk=tT/\s=s':=by
 unfold nS at h;simp only[bG.box.injEq,ayc,AV.slice.injEq,AV.int.injEq,AV.bool.injEq,ayV,ax'] at h;obtain⟨h1,h2,h3⟩:=h;refine⟨?_,?_⟩
 ·have key:∀ a b:List Tk,a.map gp=b.map gp->a=b:=by
   intro a
   induction a with
   | nil=>intro b hb;cases b with|nil=>rfl|cons x r=>simp at hb
   | cons x r ih =>
    intro b hb;cases b with
    | nil=>simp at hb
    | cons y q =>
     simp only[axe,ayc] at hb;obtain⟨h1,h2⟩:=hb;unfold gp at h1
     grind
  exact key _ _ h1
 ·obtain⟨i,b⟩:=s
  obtain⟨j,c⟩:=s'
  grind
theorem jk.uniq{tk:List Tk}{pl:Nat}{s s':PS}{H:aa}(h:jk tk pl s H)(h' : jk tT pl s' H):tk=tT/\s=s':=by
 have:=h.at'
 rw[h'.at'] at this
 grind [WK]
def jk.eq{tk:List Tk}{pl:Nat}{s:PS}{H:aa}(h:jk tk pl s H):H=aH tk pl s H:=by
 unfold aH;refine ayq fun i=>?_
 rw[axI];split
 ·rename_i e;subst e;rw[if_pos h.q.lt];exact h.at'
 ·rfl
def jk.to{tk:List Tk}{pl:Nat}{s s':PS}{H:aa}(h:jk tk pl s H)(hl:s'.i<=tk.length):jk tk pl s' (aH tk pl s' H):=⟨h.q.aH,nI h.q,h.b,hl⟩
def uI(H:aa)(tl c z:Nat)(row:List AV):Option aa :=
 match H[tl]? with
 | some (.bR cs)=>match cs[c]? with
  | some .al=>some (H.set tl (.bR (cs.set c (.sref H.length 0 1 z)))++[.box bz row])
  | some (.sref l 0 n z')=>match H[l]? with
   | some (.box ty es)=>cond (Nat.beq ty bz&&Nat.beq z' z&&Nat.beq es.length (n*z)&&Nat.ble n 2000000&&Nat.blt tl l&&Nat.beq row.length z) (some ((H.set l .dead).set tl (.bR (cs.set c (.sref H.length 0 (n+1) z)))++[.box bz (es++row)])) none
   | _=>none
  | _=>none
 | _=>none
inductive Al (n:Nat):Rel where
 | mk {tk pl s H t s'} (h:jk tk pl s H) (hn:n<=1000000) (he:pE (aq tk) n 0 s=some (t,s')):Al n [.ref pl 0] H (.agg (aK t),some ⟨aH tk pl s' H,pl⟩)
inductive Ak (n:Nat):Rel where
 | mk {tk pl s H t s'} {lv:Nat} (h:jk tk pl s H) (hn:n<=1000000) (h1:1<=lv) (h7:lv<=7) (he:pE (aq tk) n lv s=some (t,s')):Ak n [.ref pl 0,.int .i64 lv] H (.agg (aK t),some ⟨aH tk pl s' H,pl⟩)
inductive yt (n:Nat):Rel where
 | mk {tk pl tl s H t s' H'} (h:jk tk pl s H) (hn:n<=1000000) (aP:pl<tl) (he:pE (aq tk) n 0 s=some (t,s')) (ha:uI (aH tk pl s' H) tl 6 8 (aK t)=some H'):yt n [.agg [.ref pl 0,.ref tl 0]] H (.tuple [],some ⟨H',pl⟩)
inductive Am (n:Nat):Rel where
 | no {tk pl pv tl s H w} (h:jk tk pl s H) (hn:n<=1000000) (hv:H[pv]?=some (.box 72 [.ref pl 0])) (aP:pl<pv) (uu:pv<tl) (hw:w≠[]) (he:(aN (aq tk) w s).bad=true):Am n [.str w,.ref pv 0,.ref tl 0] H (.tuple [],some ⟨aH tk pl (aN (aq tk) w s) H,pl⟩)
 | mk {tk pl pv tl s H w t s' H'} (h:jk tk pl s H) (hn:n<=1000000) (hv:H[pv]?=some (.box 72 [.ref pl 0])) (aP:pl<pv) (uu:pv<tl) (hw:w≠[]) (hg:(aN (aq tk) w s).bad=false) (he:pE (aq tk) n 0 (aN (aq tk) w s)=some (t,s'))
   (ha:uI (aH tk pl s' H) tl 6 8 (aK t)=some H'):Am n [.str w,.ref pv 0,.ref tl 0] H (.tuple [],some ⟨H',pl⟩)
inductive CV (n:Nat):Rel where
 | mk {tk pl pv cv tl s H t s' H1 H'} (h:jk tk pl s H) (hn:n<=1000000) (hv:H[pv]?=some (.box 72 [.ref pl 0])) (hc:H[cv]?=some (.box 1 [.func (.func 139) [.agg [.ref pl 0,.ref tl 0]] []])) (aP:pl<pv) (uu:pv<tl) (htc:tl<cv)
   (h1:uI (aH tk pl (aE (aq tk) s).2 H) tl 7 1 [.str (aE (aq tk) s).1]=some H1) (he:pE (aq tk) n 0 (aN (aq tk) [61] (aE (aq tk) s).2)=some (t,s'))
   (h2:uI (aH tk pl s' H1) tl 6 8 (aK t)=some H'):CV n [.ref tl 0,.ref pv 0,.ref cv 0] H (.tuple [],some ⟨H',pl⟩)
def OI:List (List AV)->AV
 | []=>.al
 | r=>.slice r true
inductive CW (n:Nat):Rel where
 | mk {tk pl pv fl s H fd s' kd cs} {rows:List (List AV)} (h:jk tk pl s H) (hn:n<=1000000) (hv:H[pv]?=some (.box 72 [.ref pl 0])) (hf:H[fl]?=some (.box 85 (.int .i64 kd :: cs))) (hc:cs[1]?=some (OI rows)) (aP:pl<pv) (hlf:pv<fl) (hr:rows.length<=1000000) (hw:wO 4 rows)
   (he:mV (aq tk) n kd [] s=some ([fd],s')):CW n [.ref pv 0,.ref fl 0] H (.tuple [],some ⟨(aH tk pl s' H).set fl (.box 85 (.int .i64 kd :: cs.set 1 (.slice (rows++[dc fd]) true))),pl⟩)
inductive F3 (n:Nat):Rel where
 | mk {tk pl s H f s'} (h:jk tk pl s H) (hn:n<=1000000) (he:lW (aq tk) n (pE (aq tk) n 0) s=some (f,s')):F3 n [.ref pl 0] H (.agg (bJ f),some ⟨aH tk pl s' H,pl⟩)
theorem Sz{n:Nat}{H:aa}(hx:Al n args H x)(hy:Al n args H y):y=x:=by
 cases hx with
 | mk h hn he=>cases hy with
  | mk h' JN y3 =>
   obtain⟨rfl,rfl⟩:=h.uniq h'
   grind
theorem Sy{n:Nat}{H:aa}(hx:Ak n args H x)(hy:Ak n args H y):y=x:=by
 cases hx with
 | @mk tk pl s H t s' lv h hn h1 h7 he =>
  generalize ha:([.ref pl 0,.int .i64 lv]:List AV)=args at hy;cases hy with
  | @mk tk2 pl2 s2 _ t2 s2' lv2 h' JN Yc h7' y3 =>
   simp only[ayc,AV.ref.injEq,ax',AV.int.injEq,ayV] at ha;obtain⟨rfl,uu⟩:=ha;obtain rfl:lv=lv2:=by omega
   obtain⟨rfl,rfl⟩:=h.uniq h'
   grind
theorem SC{n:Nat}{H:aa}(hx:yt n args H x)(hy:yt n args H y):y=x:=by
 cases hx with
 | mk h hn aP he ha=>cases hy with
  | mk h' JN u7 y3 ha' =>
   obtain⟨rfl,rfl⟩:=h.uniq h'
   grind
def HD{H:aa}{pv pl pl':Nat}(h:H[pv]?=some (.box 72 [.ref pl 0]))(h' : H[pv]?=some (.box 72 [.ref pl' 0])):pl=pl':=by
 rw[h] at h';cases h';rfl
theorem SF{n:Nat}{H:aa}(hx:Am n args H x)(hy:Am n args H y):y=x:=by
 cases hx with
 | no h hn hv aP uu hw he=>cases hy with
  | no h' JN o9 u7 ZI hw' y3 =>
   obtain rfl:=HD hv o9;obtain⟨rfl,rfl⟩:=h.uniq h';rfl
  | mk h' JN o9 u7 ZI hw' hg' y3 ha' =>
   obtain rfl:=HD hv o9;obtain⟨rfl,rfl⟩:=h.uniq h';rw[he] at hg';cases hg'
 | mk h hn hv aP uu hw hg he ha=>cases hy with
  | no h' JN o9 u7 ZI hw' y3 =>
   obtain rfl:=HD hv o9;obtain⟨rfl,rfl⟩:=h.uniq h';rw[y3] at hg;cases hg
  | mk h' JN o9 u7 ZI hw' hg' y3 ha' =>
   obtain rfl:=HD hv o9;obtain⟨rfl,rfl⟩:=h.uniq h'
   grind
theorem SD{n:Nat}{H:aa}(hx:CV n args H x)(hy:CV n args H y):y=x:=by
 cases hx with
 | mk h hn hv hc aP uu htc h1 he h2=>cases hy with
  | mk h' JN o9 Cx u7 ZI au3 Yc y3 h2' =>
   obtain rfl:=HD hv o9;obtain⟨rfl,rfl⟩:=h.uniq h'
   grind
theorem abB{a b:List (List AV)}(h:OI a=OI b):a=b:=by
 cases a<;>cases b<;>simp only[OI] at h<;>first|rfl|(cases h;rfl)|cases h
theorem SE{n:Nat}{H:aa}(hx:CW n args H x)(hy:CW n args H y):y=x:=by
 cases hx with
 | mk h hn hv hf hc aP hlf hr hw he=>cases hy with
  | mk h' JN o9 hf' Cx u7 auz JP hw' y3 =>
   obtain rfl:=HD hv o9;obtain⟨rfl,rfl⟩:=h.uniq h'
   grind [abB]
theorem SB{n:Nat}{H:aa}(hx:F3 n args H x)(hy:F3 n args H y):y=x:=by
 cases hx with
 | mk h hn he=>cases hy with
  | mk h' JN y3 =>
   obtain⟨rfl,rfl⟩:=h.uniq h'
   grind
def ovP(k n:Nat):FuncId->Option (List AV->aa->Option (AV × Option fw))
 | 63=>some (mb (Al n))
 | 100=>some (mb (Ak n))
 | 139=>bif Nat.ble 1 k then some (mb (yt n)) else none
 | 99=>bif Nat.ble 2 k then some (mb (Am n)) else none
 | 154=>bif Nat.ble 2 k then some (mb (CV n)) else none
 | 59=>none
 | 126=>none
 | 140=>none
 | 141=>none
 | 60=>bif Nat.ble 3 k then some (mb (CW n)) else none
 | 27=>bif Nat.ble 4 k then some (mb (F3 n)) else none
 | 7=>none
 | 8=>none
 | f=>some (ai A f)
def aeV:FuncId->Option aD
 | 63=>some mX
 | 100=>some jy
 | f=>fns f
def PA(k n:Nat):AP:={ fns:=aeV,ov:=ovP k n,aX:=BS }
def cP{k n:Nat}{f:FuncId}(h:(PA k n).ov f=some (ai A f)){H:aa}(hr:ai A f args H=some r)(hn:args.all vX=true:=by rfl):ai (PA k n) f args H=some r:=fC (g:=ai A f) h hr hn
def Ph{k n:Nat}{tk:List Tk}{pl:Nat}{s s':PS}{H:aa}{t:Tm}(h:jk tk pl s H)(hn:n<=1000000)(he:pE (aq tk) n 0 s=some (t,s')):ai (PA k n) 63 [.ref pl 0] H=some (.agg (aK t),some ⟨aH tk pl s' H,pl⟩) :=
 fC (g:=mb (Al n)) rfl (qf (fun _ hy=>Sz (.mk h hn he) hy) (.mk h hn he))
def YI{k n:Nat}{tk:List Tk}{pl:Nat}{s s':PS}{H:aa}{t:Tm}{lv:Nat}(h:jk tk pl s H)(hn:n<=1000000)(h1:1<=lv)(h7:lv<=7)(he:pE (aq tk) n lv s=some (t,s')):ai (PA k n) 100 [.ref pl 0,.int .i64 lv] H=some (.agg (aK t),some ⟨aH tk pl s' H,pl⟩) :=
 fC (g:=mb (Ak n)) rfl (qf (fun _ hy=>Sy (.mk h hn h1 h7 he) hy) (.mk h hn h1 h7 he))
end
section
section
variable {tk:List Tk}{pl:Nat}{K:aa}
theorem Di(h:PQ pl K)(hb:Cj tk){s:PS}(hs:s.i<=tk.length){w:Wd}{s':PS}(hle:s'.i<=tk.length)
  (hw:ai A 61 [.ref pl 0] (aH tk pl (aN (aq tk) [40] s) K)=some (.agg (fN w),some ⟨aH tk pl s' K,pl⟩)) :
  ai A 96 [.ref pl 0] (aH tk pl s K)=some (.agg (fN w),some ⟨aH tk pl (aN (aq tk) [41] s') K,pl⟩):=by
 have h1:=FO h hb (s:=s) (w:=[40]) ae hs;have h2:=FO h hb (s:=s') (w:=[41]) ae hle;generalize aN (aq tk) [40] s=s1 at *;generalize aN (aq tk) [41] s'=s2 at *;have ho:=h.open (tk:=tk) (s:=s2);have gI:=h.lt;rw[fI] at hw ⊢;refine bL (fn:=agy) rfl rfl rfl rfl ?_;unfold agy;exact l9 h1 h2 hw ho (j2 @bA @dq) (j5 @cr @cq @dR @aaG @aW.eq_1) tv
theorem QI(h:PQ pl K)(hb:Cj tk):∀ (n:Nat) (s:PS) (w:Wd) (s' : PS),s.i<=tk.length->mi (aq tk) n s=some (w,s')->s'.i<=tk.length/\ai A 61 [.ref pl 0] (aH tk pl s K)=some (.agg (fN w),some ⟨aH tk pl s' K,pl⟩):=by
 intro n;have gI:=h.lt
 induction n with
 | zero=>intro s w s' _ he;cases he
 | succ n ih =>
  intro s w s' hs he;unfold mi at he;cases e1:(pk (aq tk) s==tZ) with
  | true =>
   rw[e1,cond_true] at he;injection he with he
   injection he with lJ iX
   subst lJ iX;refine⟨lp aB e1,bL (fn:=IS) rfl rfl rfl rfl ?_⟩;have hi:=Lf h hb aB e1;have ho:=h.open (tk:=tk) (s:=s.up);unfold tZ at hi ⊢;generalize s.up=s1 at *;unfold IS;exact Ac hi ho @bA (j2 @dq @cr) (j5 @cq @cI @fN.eq_1 @aM.eq_1 @aW.eq_1) tv
  | false =>
  have i1:=Ld h hb hs e1;unfold tZ at i1;cases e2:(pk (aq tk) s==oJ) with
  | true =>
   rw[e1,e2,cond_false,cond_true] at he;injection he with he
   injection he with lJ iX
   subst lJ iX;refine⟨lp aB e2,bL (fn:=IS) rfl rfl rfl rfl ?_⟩;have hi:=Lf h hb aB e2;have ho:=h.open (tk:=tk) (s:=s.up);unfold oJ at hi ⊢;generalize s.up=s1 at *;unfold IS;exact Ac i1 hi ho (j3 @bA @dq @cr) (j5 @cq @cI @fN.eq_1 @aM.eq_1 @aW.eq_1) tv
  | false =>
  have i2:=Ld h hb hs e2;unfold oJ at i2;cases e3:(pk (aq tk) s==jr) with
  | true =>
   rw[e1,e2,e3,cond_false,cond_false,cond_true] at he;simp only[aw0] at he;obtain⟨⟨v,s2⟩,hv,he⟩:=he;injection he with lJ iX
   subst lJ iX;have hi:=Lf h hb aB e3;have hu:=lp (tk:=tk) (s:=s) (w:=jr) aB e3;obtain⟨hle,hc⟩:=ih _ v s2 (fT ae hu) hv;have B2:=Di h hb hu hle hc;refine⟨fT ae hle,bL (fn:=IS) rfl rfl rfl rfl ?_⟩;have ho:=h.open (tk:=tk) (s:=aN (aq tk) [41] s2);unfold jr at hi ⊢;generalize aN (aq tk) [41] s2=s3 at *;generalize s.up=s1 at *;rw[fI] at B2;unfold IS;simp(disch:=omega)only[gO,ab,simprocAttr,i1,i2,hi,B2,ho,aW,bA,dq,cr,cq,dR,jR,nA,fN,aM,fI]
  | false =>
   have i3:=Ld h hb hs e3;unfold jr at i3;rw[e1,e2,e3,cond_false,cond_false,cond_false] at he;injection he with he
   injection he with lJ iX
   subst lJ iX;have hq:=LW h hb hs;have hqn:(aJ (aq tk) s).1=(aJ (aq tk) s).1:=rfl;refine⟨WU hs,bL (fn:=IS) rfl rfl rfl rfl ?_⟩;generalize aJ (aq tk) s=q at *;obtain⟨a,s1⟩:=q;have ho:=h.open (tk:=tk) (s:=s1);simp only at hq ⊢;unfold IS;exact Ac i1 i2 i3 (j5 hq ho @bA @dq @cr) (j5 @cq @cI @fN.eq_1 @aM.eq_1 @aW.eq_1) tv
theorem M7(h:PQ pl K)(hb:Cj tk){n:Nat}{s:PS}{w:Wd}{s':PS}(hs:s.i<=tk.length)(he:gS (aq tk) n s=some (w,s')):s'.i<=tk.length/\ai A 96 [.ref pl 0] (aH tk pl s K)=some (.agg (fN w),some ⟨aH tk pl s' K,pl⟩):=by
 unfold gS at he;simp only[aw0] at he
 grind [QI,fT,Di]
end
end
section
structure rA (H:aa) (tl c z:Nat) (kc:AV) (m:Nat) (es:List AV) (Hd:aa) (cs:List AV):Prop where
 obj:H[tl]?=some (.bR cs)
 cell:cs[c]?=some kc
 drop:kc.drop=kc
 adr:∀ s,mM s kc=kc
 fr:aO kc=true
 hc:fY .heap kc=true
 cells:kc.cells=some [kc]
 len:ny .sl kc=some (.int .i64 m)
 lv:∀ T,NY T .sl kc=some (.int .i64 m)
 le:m<=2000000
 el:es.length=m*z
 hd:Hd.length=H.length
 hdt:Hd[tl]?=some (.bR cs)
 low:∀ j,j<=tl->Hd[j]?=H[j]?
 app:∀ T lo gen row o bytes,lo<=tl->bytes<=1000->row.length=z->row.all AV.plain=true->jv ⟨T,H,lo,gen⟩ z bytes kc (.slice [row] o)=some (.sref H.length 0 (m+1) z,some ⟨T,Hd++[.box bz (es++row)],lo,gen⟩)
 lt:tl<H.length
 ob:∀ (j:Nat) (cs' : List AV),Hd[j]?=some (bG.bR cs')->H[j]?=some (bG.bR cs')
 bx:∀ (j:Nat) (ty:TypeId) (uS:List AV),H[j]?=some (bG.box ty uS)->ty≠bz->Hd[j]?=some (bG.box ty uS)
def ng{H H':aa}{tl c z:Nat}(hz:row.length=z)(h:uI H tl c z row=some H') :
  ∃ kc m es Hd cs,rA H tl c z kc m es Hd cs/\H'=(Hd++[bG.box bz (es++row)]).set tl (.bR (cs.set c (.sref H.length 0 (m+1) z))):=by
 unfold uI at h;split at h
 ·rename_i cs pX
  have aP:tl<H.length:=(aw5.1 pX).1;split at h
  ·rename_i hc
   injection h with h
   refine⟨.al,0,[],H,cs,⟨pX,hc,rfl,fun _=>rfl,rfl,rfl,rfl,rfl,fun _=>rfl,af,ae,rfl,pX,fun _ _=>rfl,?_,aP,fun _ _ h=>h,fun _ _ _ h _=>h⟩,?_⟩
   ·intro T lo gen row o bytes yp hb hr hp
    have f1:cn z bytes [] [row]=true:=by
     unfold cn;simp only[List.length_nil,List.length_cons,aw4,axv,fZ,List.head?_nil,azz,ayd,axa,Option.getD_none,ax0,aza,hr,ax'];omega
    have f2:dG [row]=true:=by unfold dG;simp only[List.all_cons,List.all_nil,hp,Bool.and_self]
    have f3:Hp .al (.slice [row] o)=none:=rfl;unfold jv;rw[f3];simp only[jP,dN,aw7,azs,ayb,f1,f2,Bool.and_self,cond_true,List.length_cons,List.length_nil,axw,ayi,List.append_nil,AS.iw,axM];have:Nat.blt H.length lo=false:=by
     cases hb:Nat.blt H.length lo with
     | true=>have:=ax5 hb;omega
     | false=>rfl
    rw[this];rfl
   ·rw[<- h,List.set_append_left _ _ aP,axM]
  ·rename_i l n z' hc
   split at h
   ·rename_i ty es JI
    obtain⟨acN,h⟩:=ay h;simp only[aw4,aza,axv,axp] at acN;obtain⟨⟨⟨⟨⟨h0,h1⟩,h2⟩,h3⟩,h4⟩,h5⟩:=acN;subst h1;injection h with h
    refine⟨.sref l 0 n z',n,es,H.set l .dead,cs,⟨pX,hc,rfl,fun _=>rfl,rfl,rfl,rfl,rfl,fun _=>rfl,h3,h2,ae,?_,?_,?_,aP,?_,?_⟩,?_⟩
    ·rw[List.getElem?_set_ne af];exact pX
    ·intro j hj;exact List.getElem?_set_ne af
    ·intro T lo gen row o bytes yp hb hr hp
     have hmul:(n+1)*bytes<=2000001*1000:=Nat.mul_le_mul af hb;have f3:Hp (.sref l 0 n z') (.slice [row] o)=none:=rfl;have f2:dG [row]=true:=by unfold dG;simp only[List.all_cons,List.all_nil,hp,Bool.and_self]
     have f1:(Nat.beq 0 0&&Nat.beq z' z'&&Nat.beq es.length (n*z')&&Nat.ble ((n+1)*bytes) 70368744177664&&Nat.ble (n+1) 70368744177664&&fZ z' [row]&&dG [row])=true:=by
      have q:(n+1)*bytes<=70368744177664:=af;have q2:n+1<=70368744177664:=af;simp only[aw4,axv,fZ,azz,axa,ax0,aza,hr,f2,h2,q,q2,and_self]
     unfold jv;rw[f3];simp only[jP,dN,aw7,JI,List.length_cons,List.length_nil,axC,f1,cond_true,axw,ayi,List.append_nil,AS.iw];have:Nat.blt l lo=false:=by
      cases hb:Nat.blt l lo with
      | true=>have:=ax5 hb;omega
      | false=>rfl
     rw[this];rfl
    ·intro j cs' hj
     by_cases e:l=j
     ·subst e;rw[List.getElem?_set_self (aw5.1 JI).1] at hj;cases hj
     ·rwa [List.getElem?_set_ne e] at hj
    ·intro j oI uS hj da
     by_cases e:l=j
     ·subst e;rw[JI] at hj;cases hj;exact absurd h0 da
     ·rwa [List.getElem?_set_ne e]
    ·rw[<- h,List.set_append_left _ _ (cJ aP)]
   ·cases h
  ·cases h
 ·cases h
section
variable {H:aa}{tl c z:Nat}{kc:AV}{m:Nat}{es:List AV}{Hd:aa}{cs:List AV}
def sU(Hd:aa)(es row:List AV):aa:=Hd++[.box bz (es++row)]
def H9 : (sU Hd es row).length=Hd.length+1:=by simp[sU]
def rA.t(h:rA H tl c z kc m es Hd cs) : (sU Hd es row)[tl]?=some (.bR cs):=by
 unfold sU;rw[axd (by have:=h.lt;have:=h.hd;omega)]
 exact h.hdt
def rA.n(h:rA H tl c z kc m es Hd cs) : ((sU Hd es row).set tl o)[H.length]?=some (.box bz (es++row)):=by
 have:=h.lt
 rw[List.getElem?_set_ne af,sU,<- h.hd];simp
def rA.n0(h:rA H tl c z kc m es Hd cs) : (sU Hd es row)[H.length]?=some (.box bz (es++row)):=by
 rw[sU,<- h.hd];simp
def rA.put(h:rA H tl c z kc m es Hd cs)(hr:row.length=z)(JP:row'.length=z):putAt (es++row) (m*z) row'=es++row':=by
 unfold putAt;rw[<- h.el,ayv rfl,List.drop_eq_nil_of_le df,List.append_nil]
def rA.set(h:rA H tl c z kc m es Hd cs) : ((sU Hd es row).set tl o).set H.length (.box bz (es++row'))=(sU Hd es row').set tl o:=by
 have:=h.lt
 have hd:=h.hd;rw[List.set_comm _ _ af]
 congr 1
 unfold sU;rw[<- hd,List.set_append_right _ _ (Nat.le_refl _),ayQ];rfl
def rA.am0(h:rA H tl c z kc m es Hd cs) : (sU Hd es row).set H.length (.box bz (es++row'))=sU Hd es row':=by
 have hd:=h.hd;unfold sU;rw[<- hd,List.set_append_right _ _ (Nat.le_refl _),ayQ];rfl
end
def dn(fn:aD)(base:Nat)(x:AV × Option fw):bB->AS->Prop
 | .exit _,_=>False
 | _,s=>finish base fn s=some x
def Qg{base:Nat}{s:AS}{tl:Nat}{cs:List AV}(h1:s.lo<=tl)(h2:tl<base)(h3:s.H[tl]?=some (.bR cs))(h4:cs.all (AV.bp base)=false):kg base s=false:=by
 unfold kg;have:Nat.beq s.lo base=false:=ag6 af
 rw[this,cond_false];cases hb:((s.H.take base).drop s.lo).all fun o=>match o with|.bR cs=>cs.all (AV.bp base)|_=>true with
 | false=>rfl
 | true =>
  rw[aw8] at hb;have hm:bG.bR cs∈(s.H.take base).drop s.lo:=by
   refine axc (i:=tl-s.lo) ?_;rw[ax9,List.getElem?_take,if_pos af,show s.lo+(tl-s.lo)=tl by omega]
   exact h3
  have:=hb _ hm
  simp only at this;rw[h4] at this;cases this
def Pl{base:Nat}{s:AS}(hf:fn.muts.elem 888887=true)(hr:fn.results=[])(ho:kg base s=false):finish base fn s=some (.tuple [],some ⟨s.H,s.lo⟩):=by
 unfold finish mj;rw[ho,cond_false];simp only[ayd,Cq,hf,cond_true,xJ,hr,lS,List.length_nil];rfl
def abz{cs:List AV}{c base n z:Nat}(hc:c<cs.length)(hl:base<=l):(cs.set c (.sref l 0 n z)).all (AV.bp base)=false:=by
 cases hb:(cs.set c (.sref l 0 n z)).all (AV.bp base) with
 | false=>rfl
 | true =>
  rw[aw8] at hb;have:=hb _ (List.mem_set hc _)
  simp only[AV.bp,axp] at this;omega
def Qw{t:Tm} : (aK t).all AV.plain=true:=by rw[aj];rfl
end
section
section
variable {H:aa}{tl c z:Nat}{kc:AV}{m:Nat}{es:List AV}{Hd:aa}{cs:List AV}
def rA.ao{A:AP}(h:rA H tl c z kc m es Hd cs){o:Bool}{bytes d:Nat}{os:List aQ}{K:AS->Prop}(yp:lo<=tl)(hb:bytes<=1000)(hr:row.length=z)(hp:row.all AV.plain=true) :
  Ya A z bytes kc (.slice [row] o) d os T H lo gen K=WO A os ⟨T.put d (.sref H.length 0 (m+1) z),sU Hd es row,lo,gen⟩ K:=by
 unfold Ya;rw[h.app T lo gen row o bytes yp hb hr hp,aS];rfl
def rA.cl(h:rA H tl c z kc m es Hd cs):c<cs.length:=(aw5.1 h.cell).1
def rA.tk(h:rA H tl c z kc m es Hd cs) : List.take c cs++[v]++List.drop (c+1) cs=cs.set c v:=by
 rw[List.set_eq_take_append_cons_drop,if_pos h.cl];simp
def rA.bc(h:rA H tl c z kc m es Hd cs):bN (some (.bR cs)) false 1 c=some kc:=by
 simp only[bN,ah,cond_false,h.cell,axa,h.drop]
end
def ah6{t:Tm} : (aK t).map AV.drop=aK t:=by rw[aj];rfl
def ana{t:Tm} : Tb (aK t)=true:=by rw[aj];rfl
def nK:List AV:=[.int .i64 0,.int .i64 0,.str [],.str [],.str [],.al,.al,.al]
def X6:[AV.int .i64 0,.int .i64 0,.str [],.str [],.str [],.al,.al,.al]=nK:=rfl
def X4:nK.length=8:=rfl
def OS:nK.map AV.drop=nK:=rfl
def JD:nK.all AV.plain=true:=rfl
def X5:Tb nK=true:=rfl
section
variable {k n:Nat}{tk:List Tk}{pl tl:Nat}{s s' : PS}{H:aa}{t:Tm}
def aqO(h:jk tk pl s H)(aP:pl<tl)(kj:ai (PA k n) 63 [.ref pl 0] H=some (.agg (aK t),some ⟨aH tk pl s' H,pl⟩))
  {kc:AV} {m:Nat} {es:List AV} {Hd:aa} {cs:List AV} (hA:rA (aH tk pl s' H) tl 6 8 kc m es Hd cs) {T0:az} (Dz:T0 1=.lbox 0 [.ref pl 0,.ref tl 0]) {Q:bB->AS->Prop}
  (hQ:∀ T,Q .normal ⟨T,(sU Hd es (aK t)).set tl (.bR (cs.set 6 (.sref H.length 0 (m+1) 8))),pl,2⟩) :
  D (PA k n) (p9.body.sub [true,true,true]) ⟨T0,H,H.length,2⟩ Q:=by
 have hlen:=h.q.lt;have pX:H[tl]?=some (.bR cs):=by have:=hA.obj;rwa [dA af] at this
 have oc:(aH tk pl s' H).length=H.length:=bA;have uV:=fun (T:az) (o:Bool) (os:List aQ) (K:AS->Prop)=>hA.ao (A:=PA k n) (row:=aK t) (o:=o) (bytes:=136) (d:=29) (os:=os) (T:=T) (lo:=pl) (gen:=2) (K:=K) af af ja Qw
 rw[oc] at uV;have h7:decide (7<=cs.length)=true:=by have:=hA.cl;simp;omega
 have mD:=fun v=>hA.tk (v:=v)
 have JM:decide (tl<pl)=false:=df;unfold p9;simp only[aG.sub];refine Q8 ?_;refine nM (j4 (j5 Dz hA.obj pX hA.bc hA.hc) (j5 kj hA.adr hA.lv uV (fun r=>hA.t (row:=r))) (j5 h7 mD JM @ja @ah6) (j2 @Qw @ana)) ?_
 exact hQ _
def aqN(h:jk tk pl s H)(aP:pl<tl)(kj:ai (PA k n) 63 [.ref pl 0] H=some (.agg (aK t),some ⟨aH tk pl s' H,pl⟩))
  {kc:AV} {m:Nat} {es:List AV} {Hd:aa} {cs:List AV} (hA:rA (aH tk pl s' H) tl 6 8 kc m es Hd cs) {T0:az} (Dz:T0 1=.lbox 0 [.ref pl 0,.ref tl 0]) {Q:bB->AS->Prop}
  (hQ:∀ T,Q .normal ⟨T,(sU Hd es (aK t)).set tl (.bR (cs.set 6 (.sref H.length 0 (m+1) 8))),pl,2⟩) :
  D (PA k n) (p9.body.sub [true,true,false]) ⟨T0,H,H.length,2⟩ Q:=by
 have hlen:=h.q.lt;have pX:H[tl]?=some (.bR cs):=by have:=hA.obj;rwa [dA af] at this
 have oc:(aH tk pl s' H).length=H.length:=bA;have uV:=fun (T:az) (o:Bool) (os:List aQ) (K:AS->Prop)=>hA.ao (A:=PA k n) (row:=nK) (o:=o) (bytes:=136) (d:=14) (os:=os) (T:=T) (lo:=pl) (gen:=2) (K:=K) af af rfl rfl
 rw[oc] at uV;have h7:decide (7<=cs.length)=true:=by have:=hA.cl;simp;omega
 have mD:=fun v=>hA.tk (v:=v)
 have JM:decide (tl<pl)=false:=df;unfold p9;simp only[aG.sub];have asm:asNat (.int .i64 (m:Int))=some m:=by rw[gf af];rfl
 have Cz:decide (m<m+1)=true:=ae;have hn:=fun row o=>hA.n (row:=row) (o:=o)
 have qz:=fun o=>hA.set (row:=nK) (row':=aK t) (o:=o)
 rw[oc] at hn qz;have K7:=hA.put (row:=nK) (row':=aK t) rfl ja;have B7:List.take (m*8) (es++nK)++aK t++List.drop (m*8+8) (es++nK)=es++aK t:=by
  have:=K7;unfold putAt at this;rwa [ja] at this
 have B2:(es++nK).length=(m+1)*8:=by rw[List.length_append,hA.el];simp[nK];omega
 have h88:decide (m*8+8<=(m+1)*8)=true:=df;have dQ:(aK t).all (aV H.length)=true:=by rw[aj];rfl
 have Vf:decide (H.length<pl)=false:=df;refine Q8 ?_;simp(disch:=omega)only[Y2,ni,jN,nD,kM,AU,bS,br,fO,aI.eval,AS.cR,↓reduceIte,Nat.reduceEqDiff,Option.isSome,Option.isNone,cond_true,cond_false,Nat.reduceBEq,Nat.reduceAdd,Nat.reduceMul,ab,mr,eq_self,reduceCtorEq,yj,ny,j8,gX,bound,nO,AS.cN,cK,iK,dN,Nat.reduceLeDiff,mI,putAt,Int.reduceEq,Int.reduceLT,Int.reduceLE,Int.reduceBEq,Int.reduceBNe,Int.reduceAdd,Int.reduceNeg,Int.reduceSub,Int.reduceMul,zd,zc,zb,za,y9,y8,zg,zf,aW,gf,Int.toNat_natCast,axZ,Dz,hA.obj,pX,hA.bc,hA.hc,kj,hA.adr,hA.lv,uV,asm,Cz,ja,hn,B2,h88,dQ,B7,qz,Vf,(fun r=>hA.t (row:=r)),h7,mD,JM,X6,X4,OS,JD,X5]
 exact hQ _
def Ua{A:AP}{H:aa}{Q:bB->AS->Prop}
  (hQ:∀ T' b,(∀ t,t≠2->t≠3->T' t=T t)->T' 3=.bool b->Q .normal ⟨T',H,lo,gen+1⟩) :
  D A (.rD [⟨some 2,none,.allocL [.bool false]⟩,⟨none,none,.store 1 (.tmp 2) (.yn (.bool true))⟩,⟨none,none,.store 1 (.tmp 2) (.yn (.bool false))⟩,⟨some 3,none,.load false false 1 (.tmp 2)⟩] [[],[0],[0],[0,0,1,2]]) ⟨T,H,lo,gen⟩ Q:=by
 refine Ub (by conv=>lhs;cbv) ?_
 simp(disch:=omega)only[dJ,ab,simprocAttr,F1,AS.cN];refine⟨hQ _ _ (fun t h1 h2=>?_) rfl,hQ _ _ (fun t h1 h2=>?_) rfl⟩<;>simp only[kZ,h1,h2,azL]
end
end
section
section
variable {H:aa}{tl c z:Nat}{kc:AV}{m:Nat}{es:List AV}{Hd:aa}{cs:List AV}
def rA.tn(h:rA H tl c z kc m es Hd cs) : ((sU Hd es row).set tl o)[tl]?=some o:=by
 refine List.getElem?_set_self ?_;rw[H9,h.hd];have:=h.lt
 omega
def rA.fin(h:rA H tl c z kc m es Hd cs){base:Nat}(hf:fn.muts.elem 888887=true)(hr:fn.results=[])(yp:lo<=tl)(hb:tl<base)(yZ:base<=H.length) :
  finish base fn ⟨T,(sU Hd es row).set tl (.bR (cs.set c (.sref H.length 0 n' z))),lo,gen⟩=some (.tuple [],some ⟨(sU Hd es row).set tl (.bR (cs.set c (.sref H.length 0 n' z))),lo⟩) :=
 Pl hf hr (Qg (tl:=tl) yp hb h.tn (abz h.cl yZ))
end
def aag{n:Nat}{H:aa}(h:yt n args H x):args.length=p9.np/\D (PA 0 n) p9.body ⟨dO args,H,H.length,0⟩ (dn p9 H.length x):=by
 cases h with
 | @mk tk pl tl s H t s' H' h hn aP he ha =>
  refine⟨rfl,?_⟩;have kj:=Ph (k:=0) h hn he;obtain⟨kc,m,es,Hd,cs,hA,hH⟩:=ng ja ha;have oc:(aH tk pl s' H).length=H.length:=bA;rw[oc] at hH;have qO:=hA.lt;rw[oc] at qO;have key:∀ T,dn p9 H.length (.tuple [],some ⟨H',pl⟩) .normal ⟨T,(sU Hd es (aK t)).set tl (.bR (cs.set 6 (.sref H.length 0 (m+1) 8))),pl,2⟩:=fun T=>by
   show finish H.length p9 _=_
   have:=hA.fin (row:=aK t) (T:=T) (lo:=pl) (gen:=2) (base:=H.length) (n':=m+1) (fn:=p9) rfl rfl af qO af
   rw[oc] at this;rw[this,hH];rfl
  refine (show D (PA 0 n) (.seq (.region _) (.seq (.rD _ _) (.cond _ (p9.body.sub [true,true,false]) (p9.body.sub [true,true,true])))) _ _ from ?_)
  rw[dM,bY rfl];refine Ce ?_;rw[dM];refine Ua fun T' b hT hb=>?_
  have h1:T' 1=.lbox 0 [.ref pl 0,.ref tl 0]:=(hT 1 af af).trans rfl;rw[kH,iQ];refine⟨b,hb,fun e=>?_,fun e=>?_⟩
  ·exact aqN h aP kj hA h1 key
  ·exact aqO h aP kj hA h1 key
end
section
def aac{k n:Nat}(hk:1<=k){H:aa}(h:yt n args H x):ai (PA k n) 139 args H=some x:=by
 have ho:(PA k n).ov 139=some (mb (yt n)):=by
  have:Nat.ble 1 k=true:=by rw[axv];exact hk
  show (bif Nat.ble 1 k then _ else _)=_
  rw[this];rfl
 refine fC ho (qf (fun _ hy=>SC h hy) h) ?_
 cases h;rfl
section
variable {H:aa}{tl c z:Nat}{kc:AV}{m:Nat}{es:List AV}{Hd:aa}{cs:List AV}
def rA.agK(h:rA H tl c z kc m es Hd cs)(hj:j<tl):((sU Hd es row).set tl o)[j]?=H[j]?:=by
 rw[List.getElem?_set_ne af,sU,axd (by have:=h.lt;have:=h.hd;omega)]
 exact h.low j af
def rA.bx2(h:rA H tl c z kc m es Hd cs){ty:TypeId}{uS:List AV}(hj:H[j]?=some (.box ty uS))(ht:ty≠bz):((sU Hd es row).set tl o)[j]?=some (.box ty uS):=by
 have uY:j<H.length:=(aw5.1 hj).1;have da:tl≠j:=fun e=>by subst e;rw[h.obj] at hj;cases hj
 rw[List.getElem?_set_ne da,sU,axd (by have:=h.hd;omega)]
 exact h.bx j ty uS hj ht
def rA.ux(h:rA H tl c z kc m es Hd cs) : ((sU Hd es row).set tl o).length=H.length+1:=by
 rw[List.length_set,H9,h.hd]
def rA.pq(h:rA H tl c z kc m es Hd cs){pl:Nat}(hq:PQ pl H)(aP:pl<tl) : PQ pl ((sU Hd es row).set tl (.bR (cs.set c (.sref H.length 0 n' z)))):=by
 have gI:=hq.lt;refine⟨by rw[h.ux];omega,fun j cs' hj hc=>?_⟩
 rw[h.ux]
 by_cases e:tl=j
 ·subst e
  rw[h.tn] at hc;cases hc;have:=hq.ob tl cs hj h.obj
  rw[aw8] at this ⊢;intro x hx
  rcases ayM hx with hx|rfl
  ·exact Ii af x (this x hx)
  ·simp[AV.bp,axp]
 ·rw[List.getElem?_set_ne e,sU,axY] at hc
  split at hc
  ·have:=hq.ob j cs' hj (h.ob j cs' hc)
   rw[aw8] at this ⊢;exact fun x hx=>Ii af x (this x hx)
  ·cases uY:j-Hd.length with
   | zero=>rw[uY] at hc;simp at hc
   | succ q=>rw[uY] at hc;simp at hc
def rA.pat(h:rA H tl c z kc m es Hd cs){tk:List Tk}{pl:Nat}{s:PS}(hp:jk tk pl s H)(aP:pl<tl) : jk tk pl s ((sU Hd es row).set tl (.bR (cs.set c (.sref H.length 0 n' z)))) :=
 ⟨h.pq hp.q aP,by rw[h.agK aP];exact hp.at',hp.b,hp.le⟩
end
section
variable {n:Nat}{tk:List Tk}{pl pv tl:Nat}{s s' : PS}{H:aa}{t:Tm}
def aqP(aP:pl<tl)(hle:pl<H.length)(uu:pl<pv/\pv<tl)(hv:H[pv]?=some (.box 72 [.ref pl 0]))(kj:ai (PA 1 n) 63 [.ref pl 0] H=some (.agg (aK t),some ⟨aH tk pl s' H,pl⟩))
  {kc:AV} {m:Nat} {es:List AV} {Hd:aa} {cs:List AV} (hA:rA (aH tk pl s' H) tl 6 8 kc m es Hd cs) {T0:az} {g:Nat} (Dz:T0 1=.ref pv 0) (hT2:T0 2=.ref tl 0) {Q:bB->AS->Prop}
  (hQ:∀ T,Q .normal ⟨T,(sU Hd es (aK t)).set tl (.bR (cs.set 6 (.sref H.length 0 (m+1) 8))),pl,g⟩) :
  D (PA 1 n) (zj.body.sub [true,true,false]) ⟨T0,H,pl,g⟩ Q:=by
 have pX:H[tl]?=some (.bR cs):=by have:=hA.obj;rwa [dA af] at this
 have oc:(aH tk pl s' H).length=H.length:=bA;have Vs:H[pv]?=some (.box 72 [.ref pl 0]):=hv;have uV:=fun (T:az) (o:Bool) (os:List aQ) (K:AS->Prop)=>hA.ao (A:=PA 1 n) (row:=nK) (o:=o) (bytes:=136) (d:=18) (os:=os) (T:=T) (lo:=pl) (gen:=g) (K:=K) af af rfl rfl
 rw[oc] at uV;have h7:decide (7<=cs.length)=true:=by have:=hA.cl;simp;omega
 have mD:=fun v=>hA.tk (v:=v)
 have JM:decide (tl<pl)=false:=df;have Ny:decide (pl<pl)=false:=ae;have Vf:decide (H.length<pl)=false:=df;have asm:asNat (.int .i64 (m:Int))=some m:=by rw[gf af];rfl
 have Cz:decide (m<m+1)=true:=ae;have hn:=fun row o=>hA.n (row:=row) (o:=o)
 have hn0:=fun row=>hA.n0 (row:=row)
 have qz:=fun o=>hA.set (row:=nK) (row':=aK t) (o:=o)
 have K8:=hA.am0 (row:=nK) (row':=aK t);rw[oc] at hn hn0 qz K8;have K7:=hA.put (row:=nK) (row':=aK t) rfl ja;have B7:List.take (m*8) (es++nK)++aK t++List.drop (m*8+8) (es++nK)=es++aK t:=by
  have:=K7;unfold putAt at this;rwa [ja] at this
 have B2:(es++nK).length=(m+1)*8:=by rw[List.length_append,hA.el];simp[nK];omega
 have h88:decide (m*8+8<=(m+1)*8)=true:=df;have dQ:(aK t).all (aV H.length)=true:=by rw[aj];rfl
 unfold zj;simp only[aG.sub];refine acz 7 [] rfl (by conv=>lhs;cbv) rfl (by conv=>lhs;cbv) ?_
 simp(disch:=omega)only[Y2,ni,jN,nD,kM,AU,bS,br,fO,aI.eval,AS.cR,↓reduceIte,Nat.reduceEqDiff,Option.isSome,Option.isNone,cond_true,cond_false,Nat.reduceBEq,Nat.reduceAdd,Nat.reduceMul,ab,mr,eq_self,reduceCtorEq,yj,ny,j8,gX,bound,nO,AS.cN,cK,iK,dN,Nat.reduceLeDiff,mI,putAt,Int.reduceEq,Int.reduceLT,Int.reduceLE,Int.reduceBEq,Int.reduceBNe,Int.reduceAdd,Int.reduceNeg,Int.reduceSub,Int.reduceMul,zd,zc,zb,za,y9,y8,zg,zf,aW,gf,Int.toNat_natCast,axZ,F1,hT2,Dz,hA.obj,pX,hA.bc,hA.hc,Vs,kj,Ny,hA.adr,hA.lv,uV,asm,Cz,ja,hn,hn0,B2,h88,dQ,B7,qz,K8,Vf,(fun r=>hA.t (row:=r)),h7,mD,JM,X6,X4,OS,JD,X5]
 and_intros<;>exact hQ _
end
section
variable {k n:Nat}{tk:List Tk}{pl:Nat}{s:PS}{H:aa}
def zW(h:jk tk pl s H)(hw:w≠[]):ai (PA k n) 24 [.ref pl 0,.str w] H=some (.tuple [],some ⟨aH tk pl (aN (aq tk) w s) H,pl⟩):=by
 have:=FO h.q h.b (s:=s) (w:=w) hw h.le
 rw[<- h.eq] at this;exact cP rfl this
def IV(h:jk tk pl s H)(hw:w≠[])(e:(pk (aq tk) s==w)=true):ai (PA k n) 26 [.ref pl 0,.str w] H=some (.bool true,some ⟨aH tk pl s.up H,pl⟩):=by
 have:=Lf h.q h.b hw e
 rw[<- h.eq] at this;exact cP rfl this
def IU(h:jk tk pl s H)(e:(pk (aq tk) s==w)=false):ai (PA k n) 26 [.ref pl 0,.str w] H=some (.bool false,none):=by
 have:=Ld h.q h.b h.le e
 rw[<- h.eq] at this;exact cP rfl this
def Qi(h:jk tk pl s H):ai (PA k n) 56 [.ref pl 0] H=some (.str (pk (aq tk) s),none):=by
 have:=Fe h.q h.b s (by have:=h.le;have:=h.b.len;omega)
 rw[<- h.eq] at this;exact cP rfl this
def Wv(h:jk tk pl s H):ai (PA k n) 25 [.ref pl 0] H=some (.str (aE (aq tk) s).1,some ⟨aH tk pl (aE (aq tk) s).2 H,pl⟩):=by
 have:=vW h.q h.b h.le
 rw[<- h.eq] at this;exact cP rfl this
def WT(h:jk tk pl s H):ai (PA k n) 97 [.ref pl 0] H=some (.str (aJ (aq tk) s).1,some ⟨aH tk pl (aJ (aq tk) s).2 H,pl⟩):=by
 have:=LW h.q h.b h.le
 rw[<- h.eq] at this;exact cP rfl this
def ag7(h:jk tk pl s H)(h1:0<=least)(h2:least<=10):ai (PA k n) 62 [.ref pl 0,.int .i64 least] H=some (.int .i64 (iE (aq tk) least s).1,some ⟨aH tk pl (iE (aq tk) least s).2 H,pl⟩):=by
 have:=ag8 h.q h.b h.le h1 h2
 rw[<- h.eq] at this;exact cP rfl this
def ad7(h:jk tk pl s H){w:Wd}{s':PS}(he:mi (aq tk) q s=some (w,s')):ai (PA k n) 61 [.ref pl 0] H=some (.agg (fN w),some ⟨aH tk pl s' H,pl⟩):=by
 have:=(QI h.q h.b q s w s' h.le he).2
 rw[<- h.eq] at this;exact cP rfl this
def Uo(h:jk tk pl s H){w:Wd}{s':PS}(he:gS (aq tk) q s=some (w,s')):ai (PA k n) 96 [.ref pl 0] H=some (.agg (fN w),some ⟨aH tk pl s' H,pl⟩):=by
 have:=(M7 h.q h.b h.le he).2
 rw[<- h.eq] at this;exact cP rfl this
def WD(hw:w.length<=1000000):ai (PA k n) 98 [.str w] H=some (.int .i64 (dE w),none):=cP rfl (Hs w H hw)
end
def Ue{base:Nat}(hm:fn.muts.elem 777777=false):∀ e s,done base fn.results x e s->dn fn base x e s:=by
 intro e s h;have key:∀ s,fin base fn.results s=some x->finish base fn s=some x:=fun s h=>by
  have:=pU (fn:=fn) h
  rwa [vk hm] at this
 cases e with
 | exit i=>exact h.elim
 | normal=>exact key _ h
 | ret=>exact key _ h
section
variable {n:Nat}
def Ro{H:aa}(h:Am n args H x):args.length=zj.np/\D (PA 1 n) zj.body ⟨dO args,H,H.length,0⟩ (dn zj H.length x):=by
 cases h with
 | @no tk pl pv tl s H w h hn hv aP uu hw he =>
  refine⟨rfl,?_⟩;have DJ:=zW (k:=1) (n:=n) h hw;have hp:=h.to (s':=aN (aq tk) w s) (fT hw h.le);have ho:=h.q.open (tk:=tk) (s:=aN (aq tk) w s);have gI:=h.q.lt;have h0:=hp.at';unfold nS at h0;rw[he] at h0;have Yj:=(aw5.1 hv).1;have o9:(aH tk pl (aN (aq tk) w s) H)[pv]?=some (.box 72 [.ref pl 0]):=by rw[dA af];exact hv
  refine jM _ _ ?_ (Ue rfl);refine (show D (PA 1 n) (.seq (.region _) (.seq (.region _) (.cond _ (zj.body.sub [true,true,false]) .skip))) _ _ from ?_)
  rw[dM,bY rfl];refine qx hv DJ ?_;rw[dM,bY rfl];exact l8 o9 h0 @iQ @tf ho (j2 @dq (show zj.results=[] from rfl)) tv
  done
 | @mk tk pl pv tl s H w t s' H' h hn hv aP uu hw hg he ha =>
  refine⟨rfl,?_⟩;have DJ:=zW (k:=1) (n:=n) h hw;have hp:=h.to (s':=aN (aq tk) w s) (fT hw h.le);have gI:=h.q.lt;have h0:=hp.at';unfold nS at h0;rw[hg] at h0;have Yj:=(aw5.1 hv).1;have o9:(aH tk pl (aN (aq tk) w s) H)[pv]?=some (.box 72 [.ref pl 0]):=by rw[dA af];exact hv
  have kj:=Ph (k:=1) hp hn he;have ha' : uI (aH tk pl s' (aH tk pl (aN (aq tk) w s) H)) tl 6 8 (aK t)=some H':=by rw[fh];exact ha
  obtain⟨kc,m,es,Hd,cs,hA,hH⟩:=ng ja ha';have oc:(aH tk pl s' (aH tk pl (aN (aq tk) w s) H)).length=H.length:=by rw[bA,bA]
  have Nw:(aH tk pl (aN (aq tk) w s) H).length=H.length:=bA;rw[oc] at hH;have qO:=hA.lt;rw[oc] at qO;have key:∀ T,dn zj H.length (.tuple [],some ⟨H',pl⟩) .normal ⟨T,(sU Hd es (aK t)).set tl (.bR (cs.set 6 (.sref (aH tk pl (aN (aq tk) w s) H).length 0 (m+1) 8))),pl,0⟩:=fun T=>by
   show finish H.length zj _=_
   have:=hA.fin (row:=aK t) (T:=T) (lo:=pl) (gen:=0) (base:=H.length) (n':=m+1) (fn:=zj) rfl rfl af qO af
   rw[oc] at this;rw[Nw,this,hH];rfl
  refine (show D (PA 1 n) (.seq (.region _) (.seq (.region _) (.cond _ (zj.body.sub [true,true,false]) .skip))) _ _ from ?_)
  rw[dM,bY rfl];refine qx hv DJ ?_;rw[dM,bY rfl];refine wK o9 h0 @iQ @tf ?_;exact aqP (n:=n) (pv:=pv) af (by rw[Nw];exact gI) ⟨aP,uu⟩ o9 kj hA (sH) (sH) key
end
end
section
section
variable {n:Nat}{tk:List Tk}{pl pv tl:Nat}{s s' : PS}{H:aa}{nm:av}
def amb(aP:pl<tl)(hle:pl<H.length)(uu:pl<pv/\pv<tl)(hv:H[pv]?=some (.box 72 [.ref pl 0]))(kj:ai (PA 1 n) 25 [.ref pl 0] H=some (.str nm,some ⟨aH tk pl s' H,pl⟩))
  {kc:AV} {m:Nat} {es:List AV} {Hd:aa} {cs:List AV} (hA:rA (aH tk pl s' H) tl 7 1 kc m es Hd cs) {T0:az} (o8:T0 0=.ref tl 0) (Dz:T0 1=.ref pv 0) {Q:bB->AS->Prop}
  (hQ:∀ T,T 1=T0 1->T 2=T0 2->Q .normal ⟨T,(sU Hd es [.str nm]).set tl (.bR (cs.set 7 (.sref H.length 0 (m+1) 1))),pl,0⟩) :
  D (PA 1 n) (uj.body.sub [false]) ⟨T0,H,H.length,0⟩ Q:=by
 have pX:H[tl]?=some (.bR cs):=by have:=hA.obj;rwa [dA af] at this
 have oc:(aH tk pl s' H).length=H.length:=bA;have Vs:H[pv]?=some (.box 72 [.ref pl 0]):=hv;have uV:=fun (T:az) (o:Bool) (os:List aQ) (K:AS->Prop)=>hA.ao (A:=PA 1 n) (row:=[.str nm]) (o:=o) (bytes:=16) (d:=8) (os:=os) (T:=T) (lo:=pl) (gen:=0) (K:=K) af af rfl rfl
 rw[oc] at uV;have h7:decide (8<=cs.length)=true:=by have:=hA.cl;simp;omega
 have mD:=fun v=>hA.tk (v:=v)
 have JM:decide (tl<pl)=false:=df;unfold uj;simp only[aG.sub];refine Q8 ?_;refine nM (j3 (j5 o8 Dz hA.obj pX hA.bc) (j5 hA.hc Vs kj hA.adr hA.lv) (j5 uV (fun r=>hA.t (row:=r)) h7 mD JM)) ?_
 exact hQ _ rfl rfl
theorem N7{H:aa}(h:CV n args H x):args.length=uj.np/\D (PA 1 n) uj.body ⟨dO args,H,H.length,0⟩ (dn uj H.length x):=by
 cases h with
 | @mk tk pl pv cv tl s H t s' H1 H' h hn hv hc aP uu htc h1 he h2 =>
  refine⟨rfl,?_⟩;have gI:=h.q.lt;have rR:=Wv (k:=1) (n:=n) h;obtain⟨kc,m,es,Hd,cs,hA,hH⟩:=ng (z:=1) (row:=[.str (aE (aq tk) s).1]) rfl h1;have oc:(aH tk pl (aE (aq tk) s).2 H).length=H.length:=bA;have qO:=hA.lt;rw[oc] at hH qO
  replace hH:H1=(sU Hd es [.str (aE (aq tk) s).1]).set tl (.bR (cs.set 7 (.sref H.length 0 (m+1) 1))):=hH
  have FY:=h.to (s':=(aE (aq tk) s).2) (jS h.le);have hp2:=hA.pat FY af (row:=[.str (aE (aq tk) s).1]) (n':=m+1);rw[oc,<- hH] at hp2;have ZU:H1[pv]?=some (.box 72 [.ref pl 0]):=by rw[hH,hA.agK af,dA af];exact hv
  have hc1:H1[cv]?=some (.box 1 [.func (.func 139) [.agg [.ref pl 0,.ref tl 0]] []]):=by
   rw[hH];refine hA.bx2 ?_ aB
   grind [dA]
  have DJ:=zW (k:=1) (n:=n) hp2 (w:=[61]) ae;have hp3:=hp2.to (s':=aN (aq tk) [61] (aE (aq tk) s).2) (fT ae hp2.le);have PD:H1.length=H.length+1:=by rw[hH,hA.ux,oc]
  have Yj:=(aw5.1 hv).1;have gC:(aH tk pl (aN (aq tk) [61] (aE (aq tk) s).2) H1)[cv]?=some (.box 1 [.func (.func 139) [.agg [.ref pl 0,.ref tl 0]] []]):=by rw[dA af];exact hc1
  have apE:=aac (k:=1) af (yt.mk (tl:=tl) hp3 hn af he (by rw[fh];exact h2))
  obtain⟨kc2,m2,es2,Hd2,cs2,hA2,hH2⟩:=ng ja h2;have Nw:(aH tk pl s' H1).length=H1.length:=bA
  replace hH2:H'=(sU Hd2 es2 (aK t)).set tl (.bR (cs2.set 6 (.sref (aH tk pl s' H1).length 0 (m2+1) 8))):=hH2
  have key:∀ T,dn uj H.length (.tuple [],some ⟨H',pl⟩) .normal ⟨T,H',pl,0⟩:=fun T=>by
   show finish H.length uj _=_
   have:=hA2.fin (row:=aK t) (T:=T) (lo:=pl) (gen:=0) (base:=H.length) (n':=m2+1) (fn:=uj) rfl rfl af qO af
   grind
  refine (show D (PA 1 n) (.seq (uj.body.sub [false]) (.seq (.region _) (.region _))) _ _ from ?_)
  rw[dM];refine amb (n:=n) (pv:=pv) (T0:=dO [.ref tl 0,.ref pv 0,.ref cv 0]) af gI ⟨aP,uu⟩ hv rR hA rfl rfl fun T q1 q2=>?_
  have q1:T 1=.ref pv 0:=q1.trans rfl;have q2:T 2=.ref cv 0:=q2.trans rfl;rw[<- hH];rw[kH,dM,bY rfl];refine ry q1 ZU DJ ?_;rw[bY rfl];refine ry q2 gC apE ?_;exact key _
end
end
section
def C9{A:AP}{f:FuncId}(ho:A.ov f=none)(hf:A.fns f=some fn){H:aa}(hn:Nat.beq args.length fn.np=true)
  (h:W A fn.body { T:=dO args,H,lo:=H.length,gen:=0 } (dn fn H.length r)):ai A f args H=some r:=by
 obtain⟨n,e,s',h1,h2⟩:=h;refine rL ho hf (n:=n) ?_;unfold zL;rw[hn,cond_true,h1,aw7];cases e with
 | exit i=>exact h2.elim
 | _=>exact h2
def dnP(fn:aD)(base:Nat)(P:AV × Option fw->Prop):bB->AS->Prop
 | .exit _,_=>False
 | _,s=>∃ x,finish base fn s=some x/\P x
def Q1{A:AP}{f:FuncId}(ho:A.ov f=none)(hf:A.fns f=some fn){H:aa}{P:AV × Option fw->Prop}(hn:Nat.beq args.length fn.np=true)
  (h:W A fn.body { T:=dO args,H,lo:=H.length,gen:=0 } (dnP fn H.length P)):∃ r,ai A f args H=some r/\P r:=by
 obtain⟨n,e,s',h1,h2⟩:=h;have key:∀ r,finish H.length fn s'=some r->(e=.normal\/e=.ret)->ai A f args H=some r:=fun r hr he=>by
  refine rL ho hf (n:=n) ?_;unfold zL;rw[hn,cond_true,h1,aw7]
  rcases he with rfl|rfl<;>exact hr
 cases e with
 | exit i=>exact h2.elim
 | normal=>obtain⟨r,hr,hp⟩:=h2;exact⟨r,key r hr (.inl rfl),hp⟩
 | ret=>obtain⟨r,hr,hp⟩:=h2;exact⟨r,key r hr (.inr rfl),hp⟩
section
variable {α:Type}{kk n:Nat}{tk:List Tk}{pl base:Nat}{f:FuncId}{fs cs:List AV}{elem:α->PS->Option (α × PS)}{fin:av}{J:Bool->α->PS->aa->Prop}{sz:α->Nat}
structure HX (kk n:Nat) (tk:List Tk) (pl base:Nat) (f:FuncId) (fs cs:List AV) (elem:α->PS->Option (α × PS)) (J:Bool->α->PS->aa->Prop) (sz:α->Nat):Prop where
 at' : ∀ b a s K,J b a s K->jk tk pl s K
 set:∀ b a s s' K,J b a s K->s'.i<=tk.length->J b a s' (aH tk pl s' K)
 el:∀ b a s K r,J b a s K->sz a<=1000000->elem a s=some r->∃ K',ai (PA kk n) f (fs++cs) K=some (.tuple [],some ⟨K',pl⟩)/\J true r.1 r.2 K'
 sz:∀ a s r,elem a s=some r->sz r.1=sz a+1
 fin:∀ a s K T gen,J true a s K->finish base Gm ⟨T,K,pl,gen⟩=some (.tuple [],some ⟨K,pl⟩)
 fc:aO (.func (.func f) fs cs)=true
def jk.ajR{s s':PS}{H:aa}(h:jk tk pl s H) : finish H.length Gm ⟨T,aH tk pl s' H,pl,gen⟩=some (.tuple [],some ⟨aH tk pl s' H,pl⟩):=by
 refine Ue (fn:=Gm) (x:=(.tuple [],some ⟨aH tk pl s' H,pl⟩)) rfl .normal _ ?_;have ho:=h.q.open (tk:=tk) (s:=s');have gI:=h.q.lt;exact ry ho @dq (show Gm.results=[] from rfl) tv
def I4(hE:HX kk n tk pl base f fs cs elem J sz){k:Nat}{a:α}{s:PS}{H:aa}{r:α × PS}(hb:H.length=base)(hf:fin≠[])(hJ:J false a s H)(j7:sz a+k<=1000001)
  (hr:nP (aq tk) elem fin k a s=some r):∃ K',ai (PA kk n) 59 [.ref pl 0,.str fin,.func (.func f) fs cs] H=some (.tuple [],some ⟨K',pl⟩)/\((∃ b,J b r.1 r.2 K')):=by
 subst hb;have h:=hE.at' _ _ _ _ hJ;have gI:=h.q.lt;have hfc:=hE.fc;unfold nP at hr;cases e:(pk (aq tk) s==fin) with
 | true =>
  rw[e,cond_true] at hr;injection hr with hr
  subst hr;have hi:=IV (k:=kk) (n:=n) h hf e;have hle:=lp (tk:=tk) (s:=s) hf e;refine⟨aH tk pl s.up H,C9 (fn:=Gm) rfl rfl rfl ?_,⟨false,hE.set _ _ _ _ _ hJ hle⟩⟩;have nN:=fun T gen=>h.ajR (s':=s.up) (T:=T) (gen:=gen)
  unfold Gm;refine qx hi @Bool.and_self ?_;exact nN _ _
 | false =>
  rw[e,cond_false] at hr;have hi:=IU (k:=kk) (n:=n) h e;cases k with
  | zero=>cases hr
  | succ k =>
  simp only[oB,aw1] at hr;obtain⟨r1,h1,hr⟩:=hr;obtain⟨K1,hc1,B1⟩:=hE.el _ _ _ _ _ hJ af h1;have pH:=hE.sz _ _ _ h1;have key:∃ R,ai (PA kk n) 59 [.ref pl 0,.str fin,.func (.func f) fs cs] H=some R/\∃ K',R=(.tuple [],some ⟨K',pl⟩)/\J true r.1 r.2 K':=by
   refine Q1 (fn:=Gm) rfl rfl rfl ?_;have FY:=hE.at' _ _ _ _ B1;unfold Gm;refine ry hi hc1 @Bool.and_self ?_;refine o6 0 (fun k' s=>∃ T a1 s1 K1,s=⟨T,K1,pl,0⟩/\T 0=.ref pl 0/\T 1=.str fin/\T 2=.func (.func f) fs cs/\J true a1 s1 K1/\sz a1+k'<=1000001 /\
     (bif !s1.bad&&(pk (aq tk) s1==[44]) then oB (aq tk) elem fin k' a1 s1.up else some (a1,bif s1.bad then s1 else aN (aq tk) fin s1))=some r)
    (fun s=>∃ T a1 s1 K1,s=⟨T,K1,pl,0⟩/\T 0=.ref pl 0/\T 1=.str fin/\J true a1 s1 K1/\(a1,bif s1.bad then s1 else aN (aq tk) fin s1)=r) (fun _=>False) ?_ ?_ (fun _ h=>h.elim) k _ ?_
   ·rintro k' s ⟨T,a1,s1,K1,rfl,q0,q1,q2,B1,hz,B8⟩
    have FY:=hE.at' _ _ _ _ B1;have h0:=FY.at';have ap5:=FY.q.lt;unfold nS at h0;obtain⟨i1,b1⟩:=s1;simp only at h0;cases b1 with
    | true =>
     rw[ax7,axt,cond_false] at B8;injection B8 with B8
     refine qx q0 h0 ?_;exact⟨_,a1,⟨i1,true⟩,K1,rfl,n8 q0,n8 q1,B1,B8⟩
    | false =>
     rw[ayb,axF] at B8;cases e1:(pk (aq tk) ⟨i1,false⟩==[44]) with
     | false =>
      rw[e1,cond_false] at B8;injection B8 with B8
      have S6:=IU (k:=kk) (n:=n) FY e1;refine ry q0 h0 S6 ?_;exact⟨_,a1,⟨i1,false⟩,K1,rfl,n8 q0,n8 q1,B1,B8⟩
     | true =>
      rw[e1,cond_true] at B8;have S6:=IV (k:=kk) (n:=n) FY ae e1;have hle:=lp (tk:=tk) (s:=⟨i1,false⟩) (w:=[44]) ae e1;have Mr:=hE.set _ _ _ _ _ B1 hle;cases k' with
      | zero=>cases B8
      | succ k' =>
       simp only[oB,aw1] at B8;obtain⟨r2,h2,ND⟩:=B8;obtain⟨K2,gC,UW⟩:=hE.el _ _ _ _ _ Mr af h2;have xP:=hE.sz _ _ _ h2;refine l8 q0 q2 h0 S6 gC @Bool.and_self ?_;exact⟨k',af,_,r2.1,r2.2,K2,rfl,n8 q0,n8 q1,n8 q2,UW,af,ND⟩
   ·rintro s ⟨T,a1,s1,K1,rfl,q0,q1,B1,rfl⟩
    have FY:=hE.at' _ _ _ _ B1;have h0:=FY.at';unfold nS at h0;have DJ:=zW (k:=kk) (n:=n) FY hf;have hwl:=fT (tk:=tk) hf FY.le;have ap5:=FY.q.lt;obtain⟨i1,b1⟩:=s1;simp only at h0;cases b1 with
    | true =>
     refine qx q0 h0 ?_;exact⟨_,hE.fin _ _ _ _ _ B1,K1,rfl,B1⟩
    | false =>
     have Mr:=hE.set _ _ _ _ _ B1 hwl;refine wK q0 q1 h0 DJ ?_;exact⟨_,hE.fin _ _ _ _ _ Mr,_,rfl,Mr⟩
   ·exact⟨_,r1.1,r1.2,K1,rfl,sH,sH,sH,B1,af,hr⟩
  obtain⟨R,hR,K',rfl,hJ'⟩:=key;exact⟨K',hR,true,hJ'⟩
end
end
section
structure Lq (tk:List Tk) (s s' : PS):Prop where
 le:s.i<=tk.length->s'.i<=tk.length
 bad:s.bad=true->s'.bad=true
 i:s.i<=s'.i
section
variable {tk:List Tk}
theorem Lq.abr{s:PS} : Lq tk s s:=⟨id,id,Nat.le_refl _⟩
def Lq.tr{a b c:PS}(h:Lq tk a b)(k:Lq tk b c):Lq tk a c:=⟨fun x=>k.le (h.le x),fun x=>k.bad (h.bad x),axx h.i k.i⟩
def kA{s:PS}(hw:w≠[])(e:(pk (aq tk) s==w)=true):Lq tk s s.up:=⟨fun _=>lp hw e,id,Nat.le_succ _⟩
theorem CF{s:PS} : Lq tk s s.xI:=⟨id,fun _=>rfl,Nat.le_refl _⟩
def bH{s:PS}(hw:w≠[]):Lq tk s (aN (aq tk) w s):=by
 unfold aN;cases e:(pk (aq tk) s==w) with
 | true=>exact kA hw e
 | false=>exact CF
def dv{s:PS} : Lq tk s (aE (aq tk) s).2:=by
 unfold aE;cases e:isWord (pk (aq tk) s) with
 | true=>exact⟨fun _=>um (fun h=>by rw[h] at e;cases e),id,Nat.le_succ _⟩
 | false=>exact CF
def AO{s:PS}(h1:0<=least):Lq tk s (iE (aq tk) least s).2:=by
 refine⟨ag9 h1,?_,?_⟩
 ·unfold iE
  cases decide (dE (pk (aq tk) s)<least)<;>intro h<;>first|exact h|rfl
 ·unfold iE
  cases decide (dE (pk (aq tk) s)<least)
  ·exact Nat.le_succ _
  ·exact Nat.le_refl _
theorem jW{s:PS} : Lq tk s (aJ (aq tk) s).2:=by
 unfold aJ;cases e:(!(aE (aq tk) s).2.bad&&(pk (aq tk) (aE (aq tk) s).2==[46])) with
 | true =>
  simp only[aw4] at e;exact dv.tr ((kA ae e.2).tr dv)
 | false=>exact dv
theorem iY:∀ (n:Nat) (s:PS) (r:Wd × PS),mi (aq tk) n s=some r->Lq tk s r.2
 | 0,_,_,h=>by cases h
 | n+1,s,r,h=>by
  unfold mi at h;cases e1:(pk (aq tk) s==tZ) with
  | true=>rw[e1,cond_true] at h;cases h;exact kA aB e1
  | false =>
  cases e2:(pk (aq tk) s==oJ) with
  | true=>rw[e1,e2,cond_false,cond_true] at h;cases h;exact kA aB e2
  | false =>
  cases e3:(pk (aq tk) s==jr) with
  | true =>
   rw[e1,e2,e3,cond_false,cond_false,cond_true] at h;simp only[aw0] at h;obtain⟨q,hq,rfl⟩:=h;exact (kA aB e3).tr ((bH ae).tr ((iY n _ q hq).tr (bH ae)))
  | false =>
   grind [jW]
def xX{n:Nat}{s:PS}{r:Wd × PS}(h:gS (aq tk) n s=some r):Lq tk s r.2:=by
 unfold gS at h;simp only[aw0] at h;obtain⟨q,hq,rfl⟩:=h;exact (bH ae).tr ((iY n _ q hq).tr (bH ae))
def D1{α:Type}{elem:α->PS->Option (α × PS)}{fin:av}(hf:fin≠[])(hE:∀ a s r,elem a s=some r->Lq tk s r.2):∀ (k:Nat) (a:α) (s:PS) (r:α × PS),oB (aq tk) elem fin k a s=some r->Lq tk s r.2
 | 0,_,_,_,h=>by cases h
 | k+1,a,s,r,h=>by
  simp only[oB,aw1] at h;obtain⟨q,hq,h⟩:=h;have h1:=hE _ _ _ hq;cases e:(!q.2.bad&&(pk (aq tk) q.2==[44])) with
  | true =>
   rw[e,cond_true] at h;simp only[aw4] at e;exact h1.tr ((kA ae e.2).tr (D1 hf hE k _ _ r h))
  | false =>
   rw[e,cond_false] at h;cases h;cases hb:q.2.bad with
   | true=>simp only[cond_true];exact h1
   | false=>simp only[cond_false];exact h1.tr (bH hf)
def nz{α:Type}{elem:α->PS->Option (α × PS)}{fin:av}(hf:fin≠[])(hE:∀ a s r,elem a s=some r->Lq tk s r.2){k:Nat}{a:α}{s:PS}{r:α × PS}(h:nP (aq tk) elem fin k a s=some r):Lq tk s r.2:=by
 unfold nP at h;cases e:(pk (aq tk) s==fin) with
 | true=>rw[e,cond_true] at h;cases h;exact kA hf e
 | false=>rw[e,cond_false] at h;exact D1 hf hE k a s r h
def gR(tk:List Tk)(E:EP):Prop:=∀ s r,E s=some r->Lq tk s r.2
variable {E B:EP}
def iH(hE:gR tk E){s:PS}{r:List Tm × PS}(h:qB E ks s=some r):Lq tk s r.2:=by
 unfold qB at h;simp only[aw0] at h;obtain⟨q,hq,rfl⟩:=h;exact hE _ _ hq
def ga(hE:gR tk E)(hw:w≠[]){s:PS}{r:List Tm × PS}(h:mY (aq tk) E w ks s=some r):Lq tk s r.2:=by
 unfold mY at h;cases e:(aN (aq tk) w s).bad with
 | true=>rw[e,cond_true] at h;cases h;exact bH hw
 | false=>rw[e,cond_false] at h;exact (bH hw).tr (iH hE h)
def vR(hE:gR tk E){a:List av × List Tm}{s:PS}{r:(List av × List Tm) × PS}(h:wH (aq tk) E a s=some r):Lq tk s r.2:=by
 unfold wH at h;simp only[aw0] at h;obtain⟨q,hq,rfl⟩:=h;exact dv.tr ((bH ae).tr (iH hE hq))
def Lp{s:PS} : Lq tk s (nu (aq tk) s).2:=by
 unfold nu;cases e:(aN (aq tk) [44] (aE (aq tk) s).2).bad with
 | true=>exact dv.tr (bH ae)
 | false=>exact dv.tr ((bH ae).tr dv)
def P8(hE:gR tk E)(hB:gR tk B):gR tk (ow (aq tk) E B):=by
 intro s r h;unfold ow at h;cases e1:(pk (aq tk) s==JZ) with
 | true =>
  rw[e1,cond_true] at h;simp only[aw1,aw0] at h;obtain⟨a,ha,b,hb,c,hc,rfl⟩:=h;exact (kA aB e1).tr ((iH hE ha).tr ((ga hE aB hb).tr (ga hE aB hc)))
 | false =>
 cases e2:(pk (aq tk) s==Bk) with
 | true =>
  rw[e1,e2,cond_false,cond_true] at h;simp only[aw1,aw0] at h;obtain⟨a,ha,c,hc,rfl⟩:=h;exact (kA aB e2).tr (dv.tr ((ga hE aB ha).tr (ga hE aB hc)))
 | false =>
 cases e3:(pk (aq tk) s==uG) with
 | true =>
  rw[e1,e2,e3,cond_false,cond_false,cond_true] at h;simp only[aw1,aw0] at h;obtain⟨a,ha,b,hb,c,hc,rfl⟩:=h;exact (kA aB e3).tr (Lp.tr ((ga hE aB ha).tr ((ga hE aB hb).tr (ga hE aB hc))))
 | false =>
  rw[e1,e2,e3,cond_false,cond_false,cond_false] at h;exact hB _ _ h
def rY(hE:gR tk E):∀ (k:Nat) (a:List av × List Tm) (s:PS) (r:(List av × List Tm) × PS),lR (aq tk) E k a s=some r->Lq tk s r.2
 | 0,_,_,_,h=>by cases h
 | k+1,a,s,r,h=>by
  simp only[lR,aw1] at h;obtain⟨q,hq,h⟩:=h;have h1:=(dv (tk:=tk) (s:=s)).tr (dv.tr ((bH ae).tr (hE _ _ hq)));cases e:(!q.2.bad&&(pk (aq tk) q.2==[44])) with
  | true =>
   rw[e,cond_true] at h;simp only[aw4] at e;exact h1.tr ((kA ae e.2).tr (rY hE k _ _ r h))
  | false=>rw[e,cond_false] at h;cases h;exact h1
def Wh(hE:gR tk E){n:Nat} : gR tk (mG (aq tk) n E):=by
 intro s r h;unfold mG at h;simp only[aw1,aw0] at h;obtain⟨a,ha,q,hq,rfl⟩:=h;exact jW.tr ((bH ae).tr ((hE _ _ ha).tr ((bH ae).tr ((bH ae).tr ((rY hE _ _ _ _ hq).tr (bH ae))))))
def Hh(hE:gR tk E){nm:av} : gR tk (oP (aq tk) E nm):=by
 intro s r h;unfold oP at h;cases e:(pk (aq tk) (aE (aq tk) s).2==[91]) with
 | true =>
  rw[e,cond_true] at h;simp only[aw0] at h;obtain⟨q,hq,rfl⟩:=h;exact dv.tr ((kA ae e).tr ((hE _ _ hq).tr (bH ae)))
 | false =>
  rw[e,cond_false] at h;simp only[aw0] at h;obtain⟨q,hq,rfl⟩:=h;exact dv.tr ((bH ae).tr ((hE _ _ hq).tr (bH ae)))
def Wi(hE:gR tk E){n:Nat} : gR tk (kW (aq tk) n E):=by
 intro s r h;unfold kW at h;simp only at h;cases e1:(pk (aq tk) (aJ (aq tk) s).2==[40]) with
 | true =>
  rw[e1,cond_true] at h;simp only[aw0] at h;obtain⟨q,hq,rfl⟩:=h;exact jW.tr ((kA ae e1).tr (nz ae (fun a s r h=>iH hE h) hq))
 | false =>
 cases e2:(pk (aq tk) (aJ (aq tk) s).2==[123]) with
 | true =>
  rw[e1,e2,cond_false,cond_true] at h;simp only[aw0] at h;obtain⟨q,hq,rfl⟩:=h;exact jW.tr ((kA ae e2).tr (nz ae (fun a s r h=>vR hE h) hq))
 | false =>
 cases e3:(pk (aq tk) (aJ (aq tk) s).2==[58]) with
 | true =>
  rw[e1,e2,e3,cond_false,cond_false,cond_true] at h;exact jW.tr ((kA ae e3).tr (Hh hE _ _ h))
 | false =>
  rw[e1,e2,e3,cond_false,cond_false,cond_false] at h;cases e4:decide (0<=cw 46 0 (aJ (aq tk) s).1) with
  | true=>rw[e4,cond_true] at h;cases h;exact jW.tr CF
  | false=>rw[e4,cond_false] at h;cases h;exact jW
def P7(hE:gR tk E){n:Nat} : gR tk (lN (aq tk) n E):=by
 intro s r h;unfold lN at h;cases e1:decide (0<=dE (pk (aq tk) s)) with
 | true=>rw[e1,cond_true] at h;cases h;exact AO af
 | false =>
 cases e2:(pk (aq tk) s==[45]) with
 | true=>rw[e1,e2,cond_false,cond_true] at h;cases h;exact (kA ae e2).tr (AO af)
 | false =>
 cases e3:(pk (aq tk) s==xt) with
 | true=>rw[e1,e2,e3,cond_false,cond_false,cond_true] at h;cases h;exact kA aB e3
 | false =>
 cases e4:(pk (aq tk) s==sQ) with
 | true=>rw[e1,e2,e3,e4,cond_false,cond_false,cond_false,cond_true] at h;cases h;exact kA aB e4
 | false =>
 cases e5:(pk (aq tk) s==[40]) with
 | true =>
  rw[e1,e2,e3,e4,e5,cond_false,cond_false,cond_false,cond_false,cond_true] at h;simp only[aw0] at h;obtain⟨q,hq,rfl⟩:=h;exact (kA ae e5).tr ((hE _ _ hq).tr (bH ae))
 | false =>
 cases e6:(pk (aq tk) s==jr) with
 | true =>
  rw[e1,e2,e3,e4,e5,e6,cond_false,cond_false,cond_false,cond_false,cond_false,cond_true] at h;simp only[aw1,aw0] at h;obtain⟨w,hw,q,hq,rfl⟩:=h;exact (kA aB e6).tr ((xX hw).tr ((bH ae).tr (nz ae (fun a s r h=>iH hE h) hq)))
 | false =>
 cases e7:(pk (aq tk) s==qF) with
 | true =>
  rw[e1,e2,e3,e4,e5,e6,e7,cond_false,cond_false,cond_false,cond_false,cond_false,cond_false,cond_true] at h;exact (kA aB e7).tr (Wh hE _ _ h)
 | false =>
  rw[e1,e2,e3,e4,e5,e6,e7,cond_false,cond_false,cond_false,cond_false,cond_false,cond_false,cond_false] at h;exact Wi hE _ _ h
def LG:wL []=none:=aB
def tI(hB:gR tk B){lv:Int} : ∀ (k:Nat) (t:Tm) (s:PS) (r:Tm × PS),rJ (aq tk) B lv k t s=some r->Lq tk s r.2
 | 0,_,_,_,h=>by cases h
 | k+1,t,s,r,h=>by
  unfold rJ at h;cases hb:s.bad with
  | true=>rw[hb,cond_true] at h;cases h;exact .abr
  | false =>
   rw[hb,cond_false] at h;cases ho:wL (pk (aq tk) s) with
   | none=>rw[ho] at h;cases h;exact .abr
   | some x =>
    obtain⟨o,l⟩:=x;rw[ho] at h;simp only at h;cases hl:decide (l=lv) with
    | false=>rw[hl,cond_false] at h;cases h;exact .abr
    | true =>
     rw[hl,cond_true] at h;simp only[aw1] at h;obtain⟨q,hq,h⟩:=h;have hu:Lq tk s s.up:=⟨fun _=>um (fun h=>by rw[h,LG] at ho;cases ho),id,Nat.le_succ _⟩
     cases h3:decide (lv=3) with
     | true=>rw[h3,cond_true] at h;cases h;exact hu.tr (hB _ q hq)
     | false=>rw[h3,cond_false] at h;exact hu.tr ((hB _ _ hq).tr (tI hB k _ _ r h))
def iN:∀ (n l:Nat),gR tk (pE (aq tk) n l)
 | 0,_,_,_,h=>by cases h
 | n+1,l,s,r,h=>by
  unfold pE at h;split at h
  ·exact P8 (iN n 0) (iN n 1) _ _ h
  ·cases e1:(pk (aq tk) s==rC) with
   | true =>
    rw[e1,cond_true] at h;simp only[aw0] at h;obtain⟨q,hq,rfl⟩:=h;exact (kA aB e1).tr (iN n 7 _ q hq)
   | false =>
   cases e2:(pk (aq tk) s==ua) with
   | true =>
    rw[e1,e2,cond_false,cond_true] at h;simp only[aw0] at h;obtain⟨q,hq,rfl⟩:=h;exact (kA aB e2).tr (iN n 7 _ q hq)
   | false =>
    rw[e1,e2,cond_false,cond_false] at h;exact P7 (iN n 0) _ _ h
  ·simp only[aw1] at h
   obtain⟨q,hq,h⟩:=h;exact (iN n _ _ q hq).tr (tI (iN n _) _ _ _ _ h)
end
end
def lM(K:aa)(base tl z:Nat)(v:AV)(rows:List (List AV)):Prop :=
 (v=.al/\rows=[])\/∃ l,v=.sref l 0 rows.length z/\tl<l/\base<=l/\K[l]?=some (.box bz rows.flatten)/\rows≠[]
theorem kO{z:Nat} : ∀ {rows:List (List AV)},(∀ r∈rows,r.length=z)->rows.flatten.length=rows.length*z
 | [],_=>ae
 | r :: q,h=>by
  grind [kO]
theorem lM.add{K:aa}{base tl z c:Nat}{cs:List AV}(h:lM K base tl z v rows)(pX:K[tl]?=some (.bR cs))(hc:cs[c]?=some v)(hz:row.length=z)(hn:rows.length<=2000000)(hw:∀ r∈rows,r.length=z)(hb:base<=K.length) :
  ∃ K',uI K tl c z row=some K'/\K'[tl]?=some (.bR (cs.set c (.sref K.length 0 (rows.length+1) z)))/\lM K' base tl z (.sref K.length 0 (rows.length+1) z) (rows++[row])/\K'.length=K.length+1 /\
   ∀ j,j<K.length->j≠tl->(∀ n',v≠.sref j 0 n' z)->K'[j]?=K[j]?:=by
 have aP:tl<K.length:=(aw5.1 pX).1
 rcases h with ⟨rfl,rfl⟩|⟨l,rfl,h1,h2,h3,h4⟩
 ·refine⟨K.set tl (.bR (cs.set c (.sref K.length 0 1 z)))++[.box bz row],?_,?_,?_,ae,?_⟩
  ·unfold uI;simp only[pX,hc]
  ·grind
  ·exact .inr ⟨K.length,rfl,aP,hb,ae,ae⟩
  ·grind
 ·have oc:l<K.length:=(aw5.1 h3).1
  refine⟨(K.set l .dead).set tl (.bR (cs.set c (.sref K.length 0 (rows.length+1) z)))++[.box bz (rows.flatten++row)],?_,?_,?_,ae,?_⟩
  ·unfold uI
   have e:(Nat.beq bz bz&&Nat.beq z z&&Nat.beq rows.flatten.length (rows.length*z)&&Nat.ble rows.length 2000000&&Nat.blt tl l&&Nat.beq row.length z)=true:=by
    simp only[aw4,aza,axv,axp,kO hw,hz,ax',ayV];exact⟨hn,h1⟩
   grind
  ·grind
  ·refine .inr ⟨K.length,by rw[List.length_append];rfl,aP,hb,?_,ae⟩
   grind
  ·grind
def lM.AK{K:aa}{base tl z:Nat}(h:lM K base tl z v rows)(hk:∀ l n,v=.sref l 0 n z->K'[l]?=K[l]?):lM K' base tl z v rows:=by
 rcases h with h|⟨l,rfl,h1,h2,h3,h4⟩
 ·exact .inl h
 ·exact .inr ⟨l,rfl,h1,h2,by rw[hk l _ rfl];exact h3,h4⟩
def lM.base{K:aa}{base acu tl z:Nat}(h:lM K base tl z v rows)(hb:acu<=base):lM K acu tl z v rows:=by
 rcases h with h|⟨l,rfl,h1,h2,h3,h4⟩
 ·exact .inl h
 ·exact .inr ⟨l,rfl,h1,af,h3,h4⟩
structure TB (K:aa) (base tl:Nat) (c0:List AV) (ks:List Tm) (ns:List av):Prop where
 ex:∃ kc nc,K[tl]?=some (.bR (c0++[kc,nc]))/\lM K base tl 8 kc (aF ks)/\lM K base tl 1 nc (strs ns)
 six:c0.length=6
def MM{K:aa}{base tl:Nat}{m n:Nat}(h1:lM K base tl 8 (.sref l 0 m 8) (aF ks))(h2:lM K base tl 1 (.sref l 0 n 1) (strs ns)):False:=by
 rcases h1 with ⟨h,_⟩|⟨l1,h,_,_,h3,h4⟩
 ·cases h
 ·injection h with h;subst h
  rcases h2 with ⟨h,_⟩|⟨l2,h,_,_,k3,k4⟩
  ·cases h
  ·injection h with h;subst h
   rw[h3] at k3;injection k3 with k3
   injection k3 with _ k3
   cases ks with
   | nil=>exact h4 rfl
   | cons t r =>
    cases ns with
    | nil=>exact k4 rfl
    | cons x y =>
     simp only[aF,aj,strs,axe,axw,axN] at k3;cases k3
theorem TB.kid{K:aa}{base tl:Nat}(h:TB K base tl c0 ks ns)(t:Tm)(hn:ks.length<=2000000)(hb:base<=K.length) :
  ∃ K',uI K tl 6 8 (aK t)=some K'/\TB K' base tl c0 (ks++[t]) ns/\K'.length=K.length+1/\∀ j,j<base->j≠tl->K'[j]?=K[j]?:=by
 obtain⟨⟨kc,nc,h1,h2,h3⟩,h6⟩:=h;have hk:(c0++[kc,nc])[6]?=some kc:=by rw[List.getElem?_append_right af,h6];rfl
 obtain⟨K',e1,e2,e3,e4,e5⟩:=h2.add h1 hk ja (by rw[cx];exact hn) (fun r hr=>by rw[jZ] at hr;obtain⟨u,_,rfl⟩:=List.mem_map.1 hr;exact ja) hb
 have hs:(c0++[kc,nc]).set 6 (.sref K.length 0 ((aF ks).length+1) 8)=c0++[.sref K.length 0 ((aF ks).length+1) 8,nc]:=by
  grind
 rw[hs] at e2;have qO:tl<K.length:=(aw5.1 h1).1;refine⟨K',e1,⟨⟨_,nc,e2,?_,h3.AK fun l n hv=>?_⟩,h6⟩,e4,fun j hj da=>?_⟩
 ·grind [jZ]
 ·subst hv
  rcases h3 with ⟨h,_⟩|⟨l',h,q1,q2,q3,q4⟩
  ·cases h
  ·injection h with h;subst h
   refine e5 l (aw5.1 q3).1 af fun n' hv=>?_
   subst hv;exact MM h2 (n:=(strs ns).length) (.inr ⟨l,rfl,q1,q2,q3,q4⟩)
 ·refine e5 j af da fun n' hv=>?_
  subst hv
  rcases h2 with ⟨h,_⟩|⟨l',h,q1,q2,q3,q4⟩
  ·cases h
  ·injection h with h;omega
theorem TB.nam{K:aa}{base tl:Nat}(h:TB K base tl c0 ks ns)(w:av)(hn:ns.length<=2000000)(hb:base<=K.length) :
  ∃ K',uI K tl 7 1 [.str w]=some K'/\TB K' base tl c0 ks (ns++[w])/\K'.length=K.length+1/\∀ j,j<base->j≠tl->K'[j]?=K[j]?:=by
 obtain⟨⟨kc,nc,h1,h2,h3⟩,h6⟩:=h;have hk:(c0++[kc,nc])[7]?=some nc:=by rw[List.getElem?_append_right af,h6];rfl
 obtain⟨K',e1,e2,e3,e4,e5⟩:=h3.add (row:=[.str w]) h1 hk rfl (by rw[bu];exact hn) (fun r hr=>by unfold strs at hr;obtain⟨u,_,rfl⟩:=List.mem_map.1 hr;rfl) hb
 have hs:(c0++[kc,nc]).set 7 (.sref K.length 0 ((strs ns).length+1) 1)=c0++[kc,.sref K.length 0 ((strs ns).length+1) 1]:=by
  grind
 rw[hs] at e2;have qO:tl<K.length:=(aw5.1 h1).1;refine⟨K',e1,⟨⟨kc,_,e2,h2.AK fun l n hv=>?_,?_⟩,h6⟩,e4,fun j hj da=>?_⟩
 ·subst hv
  rcases h2 with ⟨h,_⟩|⟨l',h,q1,q2,q3,q4⟩
  ·cases h
  ·injection h with h;subst h
   refine e5 l (aw5.1 q3).1 af fun n' hv=>?_
   subst hv;exact MM (m:=(aF ks).length) (.inr ⟨l,rfl,q1,q2,q3,q4⟩) h3
 ·have:strs (ns++[w])=strs ns++[[.str w]]:=by unfold strs;rw[List.map_append];rfl
  rw[this];exact e3
 ·refine e5 j af da fun n' hv=>?_
  subst hv
  rcases h3 with ⟨h,_⟩|⟨l',h,q1,q2,q3,q4⟩
  ·cases h
  ·injection h with h;omega
theorem TB.AK{K:aa}{base tl:Nat}(h:TB K base tl c0 ks ns)(hk:∀ j,tl<=j->K'[j]?=K[j]?):TB K' base tl c0 ks ns:=by
 obtain⟨⟨kc,nc,h1,h2,h3⟩,h6⟩:=h;refine⟨⟨kc,nc,by rw[hk tl (Nat.le_refl _)];exact h1,h2.AK fun l n hv=>?_,h3.AK fun l n hv=>?_⟩,h6⟩
 ·subst hv
  rcases h2 with ⟨h,_⟩|⟨l',h,q1,q2,q3,q4⟩
  ·cases h
  ·grind
 ·subst hv
  rcases h3 with ⟨h,_⟩|⟨l',h,q1,q2,q3,q4⟩
  ·cases h
  ·grind
structure JT (tk:List Tk) (pl base tl:Nat) (c0:List AV) (K0:aa) (b:Bool) (ns:List av) (ks:List Tm) (s:PS) (K:aa):Prop where
 p:jk tk pl s K
 t:TB K base tl c0 ks ns
 lt:pl<tl
 tb:tl<base
 bk:base<=K.length
 b:b=true->ks≠[]
 old:∀ j,j<base->j≠tl->j≠pl->K[j]?=K0[j]?
def JT.set{tk:List Tk}{pl base tl:Nat}{s s':PS}{K:aa}(h:JT tk pl base tl c0 K0 b ns ks s K)(hl:s'.i<=tk.length):JT tk pl base tl c0 K0 b ns ks s' (aH tk pl s' K) :=
 ⟨h.p.to hl,h.t.AK fun j hj=>dA (by have:=h.lt;omega),h.lt,h.tb,by rw[bA];exact h.bk,h.b,fun j h1 h2 h3=>by rw[dA (fun e=>h3 e.symm)];exact h.old j h1 h2 h3⟩
def JT.fin{tk:List Tk}{pl base tl:Nat}{s:PS}{K:aa}(hJ:JT tk pl base tl c0 K0 true ns ks s K) : finish base Gm ⟨T,K,pl,gen⟩=some (.tuple [],some ⟨K,pl⟩):=by
 obtain⟨⟨kc,nc,h1,h2,h3⟩,h6⟩:=hJ.t;refine Pl rfl rfl (Qg (tl:=tl) (ayD hJ.lt) hJ.tb h1 ?_)
 rcases h2 with ⟨_,h⟩|⟨l,rfl,q1,q2,q3,q4⟩
 ·have:=hJ.b rfl
  cases ks with
  | nil=>exact absurd rfl this
  | cons a r=>rw[aF] at h;cases h
 ·cases hb:(c0++[.sref l 0 (aF ks).length 8,nc]).all (AV.bp base) with
  | false=>rfl
  | true =>
   rw[aw8] at hb;have:=hb (.sref l 0 (aF ks).length 8) ae
   simp only[AV.bp,axp] at this;omega
def JT.kid{n:Nat}{tk:List Tk}{pl base tl:Nat}{s s':PS}{K:aa}{t:Tm}(h:JT tk pl base tl c0 K0 b ns ks s K)(hn:n<=1000000)(fU:ks.length<=1000000)(he:pE (aq tk) n 0 s=some (t,s')) :
  ∃ K',uI (aH tk pl s' K) tl 6 8 (aK t)=some K'/\JT tk pl base tl c0 K0 true ns (ks++[t]) s' K':=by
 have hle:=(iN n 0 _ _ he).le h.p.le;have h1:=h.set hle;obtain⟨K',e1,e2,e3,e4⟩:=h1.t.kid t af h1.bk;obtain⟨kc,m,es,Hd,cs,hA,hH⟩:=ng ja e1;have hp:=hA.pat h1.p h.lt (row:=aK t) (n':=m+1);refine⟨K',e1,⟨by rw[hH];exact hp,e2,h.lt,h.tb,by rw[e3];have:=h1.bk;omega,fun _=>ae,fun j a1 a2 a3=>by rw[e4 j a1 a2];exact h1.old j a1 a2 a3⟩⟩
def JT.nam{tk:List Tk}{pl base tl:Nat}{s:PS}{K:aa}(h:JT tk pl base tl c0 K0 b ns ks s K)(w:av)(BC:ns.length<=1000000) :
  ∃ K',uI K tl 7 1 [.str w]=some K'/\JT tk pl base tl c0 K0 b (ns++[w]) ks s K':=by
 obtain⟨K',e1,e2,e3,e4⟩:=h.t.nam w af h.bk;obtain⟨kc,m,es,Hd,cs,hA,hH⟩:=ng (z:=1) (row:=[.str w]) rfl e1;have hp:=hA.pat h.p h.lt (row:=[.str w]) (n':=m+1);refine⟨K',e1,⟨by rw[hH];exact hp,e2,h.lt,h.tb,by rw[e3];have:=h.bk;omega,h.b,fun j a1 a2 a3=>by rw[e4 j a1 a2];exact h.old j a1 a2 a3⟩⟩
def aaD{k n:Nat}(hk:2<=k){H:aa}(h:CV n args H x):ai (PA k n) 154 args H=some x:=by
 have ho:(PA k n).ov 154=some (mb (CV n)):=by
  have:Nat.ble 2 k=true:=by rw[axv];exact hk
  show (bif Nat.ble 2 k then _ else _)=_
  rw[this];rfl
 refine fC ho (qf (fun _ hy=>SD h hy) h) ?_
 cases h;rfl
def UB{k n:Nat}(hk:2<=k){H:aa}(h:Am n args H x):ai (PA k n) 99 args H=some x:=by
 have ho:(PA k n).ov 99=some (mb (Am n)):=by
  have:Nat.ble 2 k=true:=by rw[axv];exact hk
  show (bif Nat.ble 2 k then _ else _)=_
  rw[this];rfl
 refine fC ho (qf (fun _ hy=>SF h hy) h) ?_
 cases h<;>rfl
theorem V7{n:Nat}(hn:n<=1000000){tk:List Tk}{pl base tl:Nat} :
  HX 2 n tk pl base 139 [.agg [.ref pl 0,.ref tl 0]] [] (qB (pE (aq tk) n 0)) (fun b ks s K=>JT tk pl base tl c0 K0 b [] ks s K) List.length where
 at':=fun _ _ _ _ h=>h.p
 set:=fun _ _ _ _ _ h hl=>h.set hl
 el:=fun b ks s K r h hz he=>by
  unfold qB at he;simp only[aw0] at he;obtain⟨⟨t,s'⟩,hq,rfl⟩:=he;obtain⟨K',e1,e2⟩:=h.kid hn hz hq;exact⟨K',aac (k:=2) af (yt.mk (tl:=tl) h.p hn h.lt hq e1),e2⟩
 sz:=fun ks s r he=>by
  unfold qB at he;simp only[aw0] at he
  grind
 fin:=fun _ _ _ _ _ h=>h.fin
 fc:=rfl
theorem aad{n:Nat}(hn:n<=1000000){tk:List Tk}{pl base tl pv cv:Nat}(hv:K0[pv]?=some (.box 72 [.ref pl 0]))(hc:K0[cv]?=some (.box 1 [.func (.func 139) [.agg [.ref pl 0,.ref tl 0]] []]))(h1:pl<pv)(h2:pv<tl)(h3:tl<cv)(h4:cv<base) :
  HX 2 n tk pl base 154 [] [.ref tl 0,.ref pv 0,.ref cv 0] (wH (aq tk) (pE (aq tk) n 0)) (fun b a s K=>JT tk pl base tl c0 K0 b a.1 a.2 s K/\a.1.length=a.2.length) (fun a=>a.2.length) where
 at':=fun _ _ _ _ h=>h.1.p
 set:=fun _ _ _ _ _ h hl=>⟨h.1.set hl,h.2⟩
 el:=fun b a s K r h hz he=>by
  obtain⟨h,hlen⟩:=h;unfold wH qB at he;simp only[aw0] at he;obtain⟨q,⟨⟨t,s'⟩,hq,rfl⟩,rfl⟩:=he;have akI:=jS (tk:=tk) h.p.le;obtain⟨K1,e1,e2⟩:=(h.set (s':=(aE (aq tk) s).2) akI).nam (aE (aq tk) s).1 af;have Nx:=fT (tk:=tk) (w:=[61]) ae akI;have e3:=e2.set (s':=aN (aq tk) [61] (aE (aq tk) s).2) Nx;obtain⟨K',e4,e5⟩:=e3.kid hn hz hq;rw[fh] at e4;refine⟨K',aaD (k:=2) af (CV.mk (tl:=tl) h.p hn ?_ ?_ h1 h2 h3 e1 hq e4),e5,?_⟩
  ·rw[h.old pv af af af];exact hv
  ·rw[h.old cv af af af];exact hc
  ·simp[hlen]
 sz:=fun a s r he=>by
  unfold wH qB at he;simp only[aw0] at he
  grind
 fin:=fun _ _ _ _ _ h=>h.1.fin
 fc:=rfl
def Tf(K:aa)(base tl z:Nat)(v:AV)(rows:List (List AV)):Prop:=lM K base tl z v rows\/v=.slice rows false
def Bq{z:Nat} : ∀ {rows:List (List AV)},(∀ r∈rows,r.length=z)->chunks z rows.length rows.flatten=rows
 | [],_=>rfl
 | r :: q,h=>by
  have hr:=h r ae;rw[List.length_cons,axw,chunks,ayv hr,ayu hr,Bq fun x hx=>h x (yd hx)]
def V2(x:AV):Prop:=(∃ n,x=.int .i64 n)\/(∃ s,x=.str s)\/∃ e,x=.slice e false
def Ps{K:aa}{base tl z:Nat}(hz:0<z)(hw:∀ r∈rows,r.length=z)(hk:∀ r∈rows,∀ x∈r,V2 x)(h:Tf K base tl z v rows) :
  (v=.al/\rows=[]\/v=.slice rows false\/∃ l n,v=.sref l 0 n z/\base<=l)/\(fP K base Gd v.drop=.slice rows false\/fP K base Gd v.drop=.al/\rows=[]):=by
 rcases h with (⟨rfl,rfl⟩|⟨l,rfl,h1,h2,h3,h4⟩)|rfl
 ·exact⟨.inl ⟨rfl,rfl⟩,.inr ⟨rfl,rfl⟩⟩
 ·refine⟨.inr (.inr ⟨l,_,rfl,h2⟩),.inl ?_⟩
  have hb:Nat.ble base l=true:=by rw[axv];exact h2
  have dQ:∀ x∈rows.flatten,fP K base 2 x.drop=x/\((fP K base 2 x.drop).plain&&kD x)=true:=by
   intro x hx;obtain⟨r,hr,hx⟩:=ay2.1 hx
   rcases hk r hr x hx with ⟨n,rfl⟩|⟨s,rfl⟩|⟨e,rfl⟩<;>exact⟨rfl,rfl⟩
  have apO:(rows.flatten.map fun x=>fP K base 2 x.drop)=rows.flatten:=by
   conv=>rhs;rw[<- azU rows.flatten]
   exact List.map_congr_left fun x hx=>(dQ x hx).1
  have S3:(rows.flatten.all fun x=>(fP K base 2 x.drop).plain&&kD x)=true:=aw8.2 fun x hx=>(dQ x hx).2
  have hc:(Nat.blt 0 z&&Nat.ble (0+rows.length*z) rows.flatten.length&&(rows.flatten.all fun x=>(fP K base 2 x.drop).plain&&kD x))=true:=by
   rw[S3,kO hw]
   simp_all
  show fP K base 3 (.sref l 0 rows.length z)=_
  rw[fP];simp only[hb,cond_true,h3,aw7,qe,hc,apO,List.drop_zero,Bq hw]
 ·exact⟨.inr (.inl rfl),.inl rfl⟩
def agD : ∀ r∈aF ks,∀ x∈r,V2 x:=by
 intro r hr x hx;rw[jZ] at hr;obtain⟨t,_,rfl⟩:=List.mem_map.1 hr;rw[aj] at hx;simp only[axs,axR,ays] at hx
 rcases hx with rfl|rfl|rfl|rfl|rfl|rfl|rfl|rfl
 ·exact .inl ⟨_,rfl⟩
 ·exact .inl ⟨_,rfl⟩
 ·exact .inr (.inl ⟨_,rfl⟩)
 ·exact .inr (.inl ⟨_,rfl⟩)
 ·exact .inr (.inl ⟨_,rfl⟩)
 all_goals exact .inr (.inr ⟨_,rfl⟩)
def agC : ∀ r∈strs ns,∀ x∈r,V2 x:=by
 intro r hr x hx;unfold strs at hr;obtain⟨t,_,rfl⟩:=List.mem_map.1 hr;simp only[axs,axR,ays] at hx;subst hx;exact .inr (.inl ⟨_,rfl⟩)
def UM{ra:Nat}(hr:fn.results=[.cell ra true 8])(h7:fn.muts.elem 777777=true)(h8:fn.muts.elem 888888=false){s:AS}{base tl g:Nat}{kd nn:Int}{a f wn:av}{wc kc nc:AV}{wk:List Wd}
  (hT:s.T ra=.lbox g [.int .i64 kd,.int .i64 nn,.str a,.str f,.str wn,wc,kc,nc]) (hwc:wc=.al/\wk=[]\/wc=.slice (aM wk) false) (hk:Tf s.H base tl 8 kc (aF ks)) (hn:Tf s.H base tl 1 nc (strs ns))
  (ho:kg base s=true) (yp:s.lo<base):finish base fn s=some (.agg (aK (.mk kd nn a f wn wk ks ns)),some ⟨s.H.take base,s.lo⟩):=by
 obtain⟨k1,k2⟩:=Ps af (fun r hr=>by rw[jZ] at hr;obtain⟨u,_,rfl⟩:=List.mem_map.1 hr;exact ja) agD hk
 obtain⟨n1',n2'⟩:=Ps af (fun r hr=>by unfold strs at hr;obtain⟨u,_,rfl⟩:=List.mem_map.1 hr;rfl) agC hn
 have Yg:Nat.beq s.lo base=false:=ag6 af;have bQ:oR s (.cell ra true 8)=none:=rfl;have rj:iP s (.cell ra true 8)=some (.agg [.int .i64 kd,.int .i64 nn,.str a,.str f,.str wn,wc.drop,kc.drop,nc.drop]):=by
  simp only[iP,hT];rfl
 have CB:wc.drop=wc/\wc.plain=true/\fP s.H base Gd wc=wc/\n2 wc=.slice (aM wk) false:=by
  rcases hwc with ⟨rfl,rfl⟩|rfl
  ·exact⟨rfl,rfl,rfl,rfl⟩
  ·refine⟨rfl,rfl,rfl,?_⟩
   rw[dR,aaG]
 obtain⟨w1,w2,w3,w4⟩:=CB;have hnk:∀ v,(v=.slice (aF ks) false\/v=.al/\aF ks=[])->n2 v=.slice (aF ks) false/\v.plain=true/\v.drop=v:=fun v hv=>by
  rcases hv with rfl|⟨rfl,h⟩
  ·exact⟨by rw[dR,LC],rfl,rfl⟩
  ·rw[h];exact⟨rfl,rfl,rfl⟩
 have hnn:∀ v,(v=.slice (strs ns) false\/v=.al/\strs ns=[])->n2 v=.slice (strs ns) false/\v.plain=true/\v.drop=v:=fun v hv=>by
  rcases hv with rfl|⟨rfl,h⟩
  ·exact⟨by rw[dR,D6],rfl,rfl⟩
  ·rw[h];exact⟨rfl,rfl,rfl⟩
 have IJ:∀ v:AV,v.plain=true->v.bp base=true:=fun v hv=>by
  cases v<;>first|exact hv|(simp only[AV.plain] at hv;cases hv)
 have ac5:∀ kv nv:AV,n2 kv=.slice (aF ks) false->n2 nv=.slice (strs ns) false->nC (.agg [.int .i64 kd,.int .i64 nn,.str a,.str f,.str wn,wc,kv,nv])=.agg (aK (.mk kd nn a f wn wk ks ns)):=fun kv nv e1 e2=>by
  rw[cr,aK];simp only[axe,axB,dp,cq,w4,e1,e2]
 have hf1:∃ r,qM base fn s=some r/\sf fn r=(.agg (aK (.mk kd nn a f wn wk ks ns)),some ⟨s.H.take base,s.lo⟩):=by
  unfold qM o7;rw[h8,cond_false];simp only
  by_cases RR:AV.bp base kc.drop=true/\AV.bp base nc.drop=true
  ·have e0:iF base fn.results s=some (.agg [.int .i64 kd,.int .i64 nn,.str a,.str f,.str wn,wc,kc.drop,nc.drop],some ⟨s.H.take base,s.lo⟩):=by
    unfold iF;rw[hr];simp only[mJ,bQ,rj,aw7,w1];have:AV.leaves base (.agg [.int .i64 kd,.int .i64 nn,.str a,.str f,.str wn,wc,kc.drop,nc.drop])=true:=by
     simp only[AV.leaves,AV.dU,List.all_cons,List.all_nil,RR.1,RR.2,IJ wc w2,axX,Bool.and_self];rfl
    rw[this,cond_true,Yg,cond_false]
   rw[e0];refine⟨_,rfl,?_⟩;unfold sf;rw[h7,cond_true];have kk:n2 kc.drop=.slice (aF ks) false:=by
    rcases k1 with ⟨rfl,h⟩|rfl|⟨l,n,rfl,h⟩
    ·exact (hnk .al (.inr ⟨rfl,h⟩)).1
    ·exact (hnk (.slice (aF ks) false) (.inl rfl)).1
    ·have:=RR.1;simp only[AV.drop,AV.bp,axp] at this;omega
   have nn' : n2 nc.drop=.slice (strs ns) false:=by
    rcases n1' with ⟨rfl,h⟩|rfl|⟨l,n,rfl,h⟩
    ·exact (hnn .al (.inr ⟨rfl,h⟩)).1
    ·exact (hnn (.slice (strs ns) false) (.inl rfl)).1
    ·have:=RR.2;simp only[AV.drop,AV.bp,axp] at this;omega
   rw[ac5 _ _ kk nn']
  ·have e0:iF base fn.results s=none:=by
    unfold iF;rw[hr];simp only[mJ,bQ,rj,aw7,w1];have:AV.leaves base (.agg [.int .i64 kd,.int .i64 nn,.str a,.str f,.str wn,wc,kc.drop,nc.drop])=false:=by
     cases hb:AV.leaves base (.agg [.int .i64 kd,.int .i64 nn,.str a,.str f,.str wn,wc,kc.drop,nc.drop]) with
     | false=>rfl
     | true =>
      simp only[AV.leaves,AV.dU,List.all_cons,List.all_nil,axX,aw4] at hb;exact absurd ⟨hb.2.2.2.2.2.2.1,hb.2.2.2.2.2.2.2⟩ RR
    rw[this,cond_false]
   have e1:qZ base fn.results s=none:=by unfold qZ;rw[hr];rfl
   rw[e0,e1];simp only;unfold tA;rw[hr];simp only[wq,rj,axa,aw7];have e2:Nj s.H base (AV.cU (.agg [.int .i64 kd,.int .i64 nn,.str a,.str f,.str wn,wc.drop,kc.drop,nc.drop]))=.agg [.int .i64 kd,.int .i64 nn,.str a,.str f,.str wn,wc,fP s.H base Gd kc.drop,fP s.H base Gd nc.drop]:=by
    have dd:∀ v:AV,v.drop.drop=v.drop:=fun v=>by cases v<;>rfl
    rw[w1];simp only[Bv,axe,axB,Nj,dd,w1,w3];rfl
   rw[e2];obtain⟨p1,p2,p3⟩:=hnk _ k2;obtain⟨q1,q2,q3⟩:=hnn _ n2';have:AV.leaves base (.agg [.int .i64 kd,.int .i64 nn,.str a,.str f,.str wn,wc,fP s.H base Gd kc.drop,fP s.H base Gd nc.drop])=true:=by
    simp only[AV.leaves,AV.dU,List.all_cons,List.all_nil,IJ _ p2,IJ _ q2,IJ wc w2,axX,Bool.and_self];rfl
   rw[this,cond_true,Yg,cond_false];refine⟨_,rfl,?_⟩;unfold sf;rw[h7,cond_true,ac5 _ _ p1 q1]
 obtain⟨r,e1,e2⟩:=hf1;unfold finish mj;rw[ho,cond_true,e1];simp only[axa,e2]
section
section
variable {k n:Nat}{tk:List Tk}{pl:Nat}{s0 s:PS}{H:aa}
def BU(h:jk tk pl s0 H)(hs:s.i<=tk.length)(hw:w≠[]):ai (PA k n) 24 [.ref pl 0,.str w] (aH tk pl s H)=some (.tuple [],some ⟨aH tk pl (aN (aq tk) w s) H,pl⟩):=cP rfl (FO h.q h.b hw hs)
def Lc(h:jk tk pl s0 H)(hw:w≠[])(e:(pk (aq tk) s==w)=true):ai (PA k n) 26 [.ref pl 0,.str w] (aH tk pl s H)=some (.bool true,some ⟨aH tk pl s.up H,pl⟩):=cP rfl (Lf h.q h.b hw e)
def Lb(h:jk tk pl s0 H)(hs:s.i<=tk.length)(e:(pk (aq tk) s==w)=false):ai (PA k n) 26 [.ref pl 0,.str w] (aH tk pl s H)=some (.bool false,none):=cP rfl (Ld h.q h.b hs e)
def Hm(h:jk tk pl s0 H)(hs:s.i<=tk.length):ai (PA k n) 25 [.ref pl 0] (aH tk pl s H)=some (.str (aE (aq tk) s).1,some ⟨aH tk pl (aE (aq tk) s).2 H,pl⟩):=cP rfl (vW h.q h.b hs)
def Pg(h:jk tk pl s0 H)(hn:n<=1000000)(hs:s.i<=tk.length){t:Tm}{s':PS}(he:pE (aq tk) n 0 s=some (t,s')):ai (PA k n) 63 [.ref pl 0] (aH tk pl s H)=some (.agg (aK t),some ⟨aH tk pl s' H,pl⟩):=by
 have:=Ph (k:=k) (h.to hs) hn he
 rwa [fh] at this
def YE(h:jk tk pl s0 H):(aH tk pl s H)[pl]?=some (.box 74 [.slice (tk.map gp) false,.int .i64 s.i,.bool s.bad]):=nI h.q
end
def uk:List av->AV
 | []=>.al
 | a :: r=>.slice (strs (a :: r)) true
def O0{xs:List av}{o:Bool}(h:xs.length<=1000):aC false 1 16 (.slice [] true) (.slice (strs xs) o)=some (.slice (strs xs) true):=ca (l:=[]) df
theorem aas{n:Nat}{tk:List Tk}{pl:Nat}{s s':PS}{H:aa}{t:Tm}(h:jk tk pl s H)(hn:n<=1000000)(he:mG (aq tk) n (pE (aq tk) n 0) s=some (t,s')) :
  ai (PA 2 n) 140 [.ref pl 0] H=some (.agg (aK t),some ⟨aH tk pl s' H,pl⟩):=by
 unfold mG at he;simp only[aw1,aw0] at he;obtain⟨⟨t1,s3⟩,h1,⟨⟨ns,ks⟩,s6⟩,h2,he⟩:=he;injection he with e1 e2
 subst e1 e2;simp only at h2 ⊢;have gI:=h.q.lt;have hq:=WT (k:=2) (n:=n) h;have l1:=(jW (tk:=tk) (s:=s)).le h.le;generalize aJ (aq tk) s=q at *;obtain⟨nm,s1⟩:=q;simp only at h1 hq l1;have CB:=BU (k:=2) (n:=n) h l1 (w:=[40]) ae;have l2:=fT (tk:=tk) (w:=[40]) ae l1;have hx:=Pg (k:=2) h hn l2 h1;have l3:=(iN n 0 _ _ h1).le l2;simp only at l3;have RU:=BU (k:=2) (n:=n) h l3 (w:=[41]) ae;have l4:=fT (tk:=tk) (w:=[41]) ae l3;have hw3:=BU (k:=2) (n:=n) h l4 (w:=[123]) ae;have l5:=fT (tk:=tk) (w:=[123]) ae l4;generalize aN (aq tk) [40] s1=s2 at *;generalize aN (aq tk) [41] s3=s4 at *;generalize aN (aq tk) [123] s4=s5 at *;have key:∃ R,ai (PA 2 n) 140 [.ref pl 0] H=some R/\R=(.agg (aK (.mk 10 0 nm [] [] [] ks ns)),some ⟨aH tk pl (aN (aq tk) [125] s6) H,pl⟩):=by
  refine nQ (fn:=VP) rfl rfl rfl rfl ?_;unfold VP;have et1:=aj t1;rw[et1] at hx;refine l8 hq CB hx RU hw3 @aW.eq_1 ?_;refine o6 0 (fun k' st=>∃ T Mx P5 s1,st=⟨T,aH tk pl s1 H,pl,2⟩/\T 0=.ref pl 0/\T 2=.lbox 0 [.int .i64 0,.int .i64 0,.str [],.str [],.str [],.al,.al,.al]/\T 3=.lbox 1 [.int .i64 10,.int .i64 0,.str nm,.str [],.str [],.al,.slice (aF P5) true,uk Mx] /\
     s1.i<=tk.length/\P5.length+k'<=1000001/\Mx.length+2*k'<=2000002/\lR (aq tk) (pE (aq tk) n 0) k' (Mx,P5) s1=some ((ns,ks),s6))
    (fun st=>∃ T,st=⟨T,aH tk pl s6 H,pl,2⟩/\T 0=.ref pl 0/\T 2=.lbox 0 [.int .i64 0,.int .i64 0,.str [],.str [],.str [],.al,.al,.al]/\T 3=.lbox 1 [.int .i64 10,.int .i64 0,.str nm,.str [],.str [],.al,.slice (aF ks) true,uk ns]/\ns≠[]/\s6.i<=tk.length) (fun _=>False) ?_ ?_ (fun _ h=>h.elim) n _ ?_
  ·rintro k' st ⟨T,Mx,P5,p0,rfl,q0,q2,q3,l0,z1,z2,hm⟩
   cases k' with
   | zero=>cases hm
   | succ k' =>
   simp only[lR,aw1] at hm;obtain⟨⟨t2,p4⟩,F0,hm⟩:=hm;have ha:=Hm (k:=2) (n:=n) h l0;have la:=jS (tk:=tk) l0;have hb:=Hm (k:=2) (n:=n) h la;have lb:=jS (tk:=tk) la;have hc:=BU (k:=2) (n:=n) h lb (w:=[45,62]) ae;have lc:=fT (tk:=tk) (w:=[45,62]) ae lb;have hd:=Pg (k:=2) h hn lc F0;have ld:=(iN n 0 _ _ F0).le lc;simp only at hm ld;generalize hA:aE (aq tk) p0=A0 at *;obtain⟨a,p1⟩:=A0;simp only at *;generalize hB:aE (aq tk) p1=B0 at *;obtain⟨b,p2⟩:=B0;simp only at *;generalize aN (aq tk) [45,62] p2=p3 at *;have h0:=YE (s:=p4) h;have et2:=aj t2;rw[et2] at hd;have ak:aC false 8 136 (.slice (aF P5) true) (.slice [[.int .i64 t2.kind,.int .i64 t2.n,.str t2.name,.str t2.field,.str t2.wn,.slice (aM t2.wk) false,.slice (aF t2.kids) false,.slice (strs t2.names) false]] true)=some (.slice (aF (P5++[t2])) true):=aco af;have an:∀ x y,aC false 1 16 (.slice (strs (x :: y)) true) (.slice [[.str a],[.str b]] true)=some (.slice (strs ((x :: y)++[a,b])) true)\/¬ (Mx=x :: y):=fun x y=>by
    by_cases e:Mx=x :: y
    ·left;rw[<- e];exact ca (m:=[a,b]) df
    ·exact .inr e
   have an0:aC false 1 16 (.slice [] true) (.slice [[.str a],[.str b]] true)=some (.slice (strs [a,b]) true):=O0 (xs:=[a,b]) ae;have atw:∀ (T' : az),T' 0=.ref pl 0->T' 2=.lbox 0 [.int .i64 0,.int .i64 0,.str [],.str [],.str [],.al,.al,.al]->T' 3=.lbox 1 [.int .i64 10,.int .i64 0,.str nm,.str [],.str [],.al,.slice (aF (P5++[t2])) true,uk (Mx++[a,b])]->True:=fun _ _ _ _=>trivial
   have Vk:Mx++[a,b]≠[]:=ae;have nc2:uk (Mx++[a,b])=.slice (strs (Mx++[a,b])) true:=by
    cases Mx with
    | nil=>rfl
    | cons x y=>rfl
   obtain⟨i4,b4⟩:=p4;simp only at h0 hm ld;have zk:(P5++[t2]).length=P5.length+1:=ae;have zn:(Mx++[a,b]).length=Mx.length+2:=ae;cases b4 with
   | true =>
    rw[ax7,axt,cond_false] at hm;injection hm with hm
    injection hm with Cz Mv
    injection Cz with Cz hm3
    subst Cz Mv hm3;cases Mx with
    | nil =>
     simp(disch:=omega)only[dJ,ab,simprocAttr,q0,q3,uk,ha,hb,hc,hd,h0,an0,ak,fY,aW,cH,cA,axA,axr,ah];exact⟨_,rfl,n8 q0,n8 q2,sH,Vk,ld⟩
    | cons x y =>
     have an1:=(an x y).resolve_right (fun h=>h rfl)
     simp(disch:=omega)only[dJ,ab,simprocAttr,q0,q3,uk,ha,hb,hc,hd,h0,an1,ak,fY,aW,cH,cA,axA,axr,ah];exact⟨_,rfl,n8 q0,n8 q2,sH,Vk,ld⟩
   | false =>
    rw[ayb,axF] at hm;cases e:(pk (aq tk) ⟨i4,false⟩==[44]) with
    | false =>
     have hi:=Lb (k:=2) (n:=n) (s:=⟨i4,false⟩) h ld e;rw[e,cond_false] at hm;injection hm with hm
     injection hm with Cz Mv
     injection Cz with Cz hm3
     subst Cz Mv hm3;cases Mx with
     | nil =>
      simp(disch:=omega)only[dJ,ab,simprocAttr,q0,q3,uk,ha,hb,hc,hd,h0,hi,an0,ak,fY,aW,cH,cA,axA,axr,ah];exact⟨_,rfl,n8 q0,n8 q2,sH,Vk,ld⟩
     | cons x y =>
      have an1:=(an x y).resolve_right (fun h=>h rfl)
      simp(disch:=omega)only[dJ,ab,simprocAttr,q0,q3,uk,ha,hb,hc,hd,h0,hi,an1,ak,fY,aW,cH,cA,axA,axr,ah];exact⟨_,rfl,n8 q0,n8 q2,sH,Vk,ld⟩
    | true =>
     have hi:=Lc (k:=2) (n:=n) (s:=⟨i4,false⟩) h ae e;have le:=lp (tk:=tk) (s:=⟨i4,false⟩) (w:=[44]) ae e;rw[e,cond_true] at hm;cases Mx with
     | nil =>
      simp(disch:=omega)only[dJ,ab,simprocAttr,q0,q3,uk,ha,hb,hc,hd,h0,hi,an0,ak,fY,aW,cH,cA,axA,axr,ah];exact⟨k',af,_,_,_,_,rfl,n8 q0,n8 q2,sH,le,af,af,hm⟩
     | cons x y =>
      have an1:=(an x y).resolve_right (fun h=>h rfl)
      simp(disch:=omega)only[dJ,ab,simprocAttr,q0,q3,uk,ha,hb,hc,hd,h0,hi,an1,ak,fY,aW,cH,cA,axA,axr,ah];exact⟨k',af,_,_,_,_,rfl,n8 q0,n8 q2,sH,le,af,af,hm⟩
  ·rintro st ⟨T,rfl,q0,q2,q3,da,l6⟩
   have hw:=BU (k:=2) (n:=n) h l6 (w:=[125]) ae;have ho:=h.q.open (tk:=tk) (s:=aN (aq tk) [125] s6);generalize aN (aq tk) [125] s6=s7 at *;have en:uk ns=.slice (strs ns) true:=by cases ns with|nil=>exact absurd rfl da|cons a r=>rfl
   rw[en] at q3;exact l9 q0 q2 q3 (j3 hw ho @dq) (j5 @cr @dp @cq @cI @dR) (j5 @LC @D6 @aK.eq_1 @aM.eq_1 @aW.eq_1) tv
  ·refine⟨_,[],[t1],s5,rfl,sH,sH,by simp(disch:=omega)only[dJ,ab,simprocAttr,aF,aj,uk],l5,df,df,h2⟩
 grind
end
def FC{l:List av}{K:aa}(h:PW mm K) : (ct mm l b (K++[o]))[K.length]?=some o:=by
 rw[Jn (by have:=h.lt;omega)];simp
theorem LX{K:aa}(h:PW mm K)(s:av)(hs:s.length<=2000000):rB mm K 102 [.ref mm 0,.str s] (gK s) (aL s) 3:=by
 intro l b hl;have aP:=h.lt;have hc:=fun K=>ajF s K af
 have xN:=pV s;obtain⟨l1,e1,t1,n1⟩:=tJ h (aU s).1 af l b (by first|exact hl|omega|(simp only[List.length_cons,List.length_nil];omega))
 unfold gK aL;cases hf:(aU s).2.2 with
 | false =>
  rw[hf] at hc;have eo:(b || !(isWord (aU s).1&&(!false || isWord (aU s).2.1)))=(b || !isWord (aU s).1):=by cases b<;>cases isWord (aU s).1<;>rfl
  rw[eo,if_neg aB];refine⟨l1,?_,t1,af⟩;refine cW VG.eq_1 ?_;have ho:=h.open l1 (b || !isWord (aU s).1);generalize (b || !isWord (aU s).1)=b1 at *;exact Hk hc e1 @fF ho @bf tv
 | true =>
  rw[hf] at hc;obtain⟨l2,e2,t2,n2⟩:=BN h [[46]] ae l1 (b || !isWord (aU s).1) iA;have es:strs [[46]]=[[.str [46]]]:=rfl;have eo:((b || !isWord (aU s).1) || !true)=(b || !isWord (aU s).1):=ae;rw[eo,es] at e2;rw[eo] at t2;simp only[List.length_cons,List.length_nil] at n2;obtain⟨l3,e3,t3,n3⟩:=tJ h (aU s).2.1 af l2 (b || !isWord (aU s).1) af;have eo:(b || !(isWord (aU s).1&&(!true || isWord (aU s).2.1)))=((b || !isWord (aU s).1) || !isWord (aU s).2.1):=by cases b<;>cases isWord (aU s).1<;>cases isWord (aU s).2.1<;>rfl
  rw[eo,if_pos rfl];refine⟨l3,?_,fun hk=>?_,af⟩
  ·refine cW VG.eq_1 ?_
   have ho:=h.open l3 ((b || !isWord (aU s).1) || !isWord (aU s).2.1);generalize ((b || !isWord (aU s).1) || !isWord (aU s).2.1)=b2 at *;generalize (b || !isWord (aU s).1)=b1 at *;exact l8 hc e1 e2 e3 @fF (j3 ho @Nat.lt_irrefl @bf) tv
  ·grind
def Sn:List Wd->Bool
 | [k]=>bD k
 | _=>false
def SQ:List Wd->List av
 | [k]=>[[40]]++bM k++[[41]]
 | _=>[]
def Y0{K:aa}(h:PW mm K){ks:List Wd}{n:Nat}(hn:n<=1000)(hk:∀ k,ks=[k]->rB mm K 66 [.ref mm 0,.agg (fN k)] (bD k) (bM k) n):rB mm K 101 [.ref mm 0,.slice (aM ks) false] (Sn ks) (SQ ks) (n+2):=by
 intro l b hl;have aP:=h.lt;have hlen:∀ c:Bool,((ks.length:Int)==1)=c->((((aM ks).length:Nat):Int)==1)=c:=fun c hc=>by rw[gF];exact hc
 have skip:∀ (c:Bool),((ks.length:Int)==1)=c->(b || !c)=true->(b || !Sn ks)=true->∃ l',ai A 101 [.ref mm 0,.slice (aM ks) false] (ct mm l b K)=some (.undef,some ⟨ct mm l' (b || !Sn ks) K,mm⟩)/\((b || !Sn ks)=false->l'=l++SQ ks)/\l'.length<=l.length+(n+2):=by
  intro c hc h1 h2;obtain⟨l1,e1,t1,n1⟩:=Cm h c l b (by first|exact hl|omega|(simp only[List.length_cons,List.length_nil];omega))
  rw[h1] at e1;rw[h2];refine⟨l1,?_,(fun hk=>by cases hk),af⟩
  refine cW PV.eq_1 ?_;have h0:=fu (l:=l1) (b:=true) h;unfold nJ at h0;have ho:=h.open l1 true;exact l9 hc @gF e1 h0 @fF (j2 ho @bf) tv
 match ks,hk,hlen,skip with
 | [],hk,hlen,skip=>exact skip false rfl (by cases b<;>rfl) (by cases b<;>rfl)
 | x :: y :: r,hk,hlen,skip=>exact skip false df (by cases b<;>rfl) (by cases b<;>rfl)
 | [k],hk,hlen,skip =>
  cases b with
  | true=>exact skip true rfl rfl rfl
  | false =>
   obtain⟨l1,e1,t1,n1⟩:=Cm h true l false af;obtain⟨l2,e2,t2,n2⟩:=BN h [[40]] ae l1 false iA;simp only[List.length_cons,List.length_nil] at n2;obtain⟨l3,e3,t3,n3⟩:=hk k rfl l2 false af;obtain⟨l4,e4,t4,n4⟩:=BN h [[41]] ae l3 (!bD k) iA;simp only[List.length_cons,List.length_nil] at n4;have es:∀ s:av,strs [s]=[[.str s]]:=fun _=>rfl
   simp only[ax7,ayw,ax2,es] at e1 e2 e3 e4 t1 t2 t3 t4 ⊢;unfold Sn SQ;refine⟨l4,?_,fun hp=>by rw[t4 hp,t3 hp,t2 trivial,t1 trivial];simp,af⟩
   refine cW PV.eq_1 ?_;have h0:=fu (l:=l1) (b:=false) h;unfold nJ at h0;have ho:=h.open l4 (!bD k);rw[fI] at e3;have ft:(aM [k])[0]?=some [.str k.name,.slice (aM k.kids) false]:=by rw[X0 (l:=[k]) (i:=0) rfl,fI]
   generalize (!bD k)=pb at *;exact l9 @gF ft e1 e2 (j2 e3 e4) (j5 h0 @fF ho @Nat.lt_irrefl @bf) tv
theorem FT{n:av}{ks:List Wd}(da:n≠cz):bM (.mk n ks)=if (n==Fz || n==vt)=true then [n] else aL n:=by
 cases ks with
 | nil=>rw[bM]<;>simp[]
 | cons a r=>cases r<;>rw[bM]<;>simp[da]
theorem x6{n:av}{ks:List Wd}(da:n≠cz):bD (.mk n ks)=(decide (ks.length=0)&&(n==Fz || n==vt || gK n)):=by
 cases ks with
 | nil=>rw[bD];simp[da]
 | cons a r=>cases r<;>rw[bD]<;>simp[da]
def HC{ks:List Wd} : bD (.mk cz ks)=Sn ks:=by
 match ks with
 | []=>rw[bD];simp[Sn]
 | [k]=>rw[bD];simp[Sn]
 | a :: b :: r=>rw[bD]<;>simp[Sn]
theorem QL{k:Wd} : bM (.mk cz [k])=[cz]++SQ [k]:=by rw[bM];simp[SQ]
theorem ab8:∀ (h:Nat) (w:Wd),h<=100->F4 h w->∀ (mm:Nat) (K:aa),PW mm K->rB mm K 66 [.ref mm 0,.agg (fN w)] (bD w) (bM w) (3*h+3):=by
 have main:∀ (h:Nat) (w:Wd),h<=100->w.name.length<=1100000->∀ (mm:Nat) (K:aa),PW mm K->(w.kids.length<=1/\(0<w.kids.length->0<h))->(∀ k∈w.kids,∀ (mm:Nat) (K:aa),PW mm K->rB mm K 66 [.ref mm 0,.agg (fN k)] (bD k) (bM k) (3*h))->rB mm K 66 [.ref mm 0,.agg (fN w)] (bD w) (bM w) (3*h+3):=by
  intro h w hh u9 mm K hP fU hk l b hl;obtain⟨n,ks⟩:=w;simp only[Wd.name,Wd.kids] at u9 fU hk;rw[fN];have fj:PW mm (K++[.box 80 [.str n,.slice (aM ks) false]]):=hP.push (fun cs e=>by cases e)
  have cY:=sw (l:=l) (b:=b) hP (L:=[.box 80 [.str n,.slice (aM ks) false]]);have fm:=fun l b=>FC (l:=l) (b:=b) hP (o:=.box 80 [.str n,.slice (aM ks) false])
  have hT:=fun l b=>ql (l:=l) (b:=b) hP (L:=[.box 80 [.str n,.slice (aM ks) false]])
  have hO:=fun l b=>hP.Qf (L:=[.box 80 [.str n,.slice (aM ks) false]]) l b
  have aP:=hP.lt;have yp:decide (K.length<K.length)=false:=ae;have es:∀ s:av,strs [s]=[[.str s]]:=fun _=>rfl
  generalize K++[.box 80 [.str n,.slice (aM ks) false]]=K1 at fj cY fm hT hO;have U2:((ks.length:Int)==0)=decide (ks.length=0):=by
   grind
  by_cases hn:n=cz
  ·subst hn
   obtain⟨l1,e1,t1,n1⟩:=BN fj [cz] ae l b (by first|exact hl|omega|(simp only[List.length_cons,List.length_nil];omega))
   simp only[List.length_cons,List.length_nil] at n1;rw[show (b || !true)=b by cases b<;>rfl,es] at e1
   rw[show (b || !true)=b by cases b<;>rfl] at t1
   obtain⟨l2,e2,t2,n2⟩:=Y0 fj (ks:=ks) (n:=3*h) af (fun k ui=>hk k (by rw[ui];simp) mm K1 fj) l1 b af
   rw[HC];refine⟨l2,?_,fun hp=>?_,af⟩
   ·refine cW VY.eq_1 ?_
    have n1e:(cz==([73,110,116]:av))=false:=aB;have n2e:(cz==([66,111,111,108]:av))=false:=aB;have n3e:(cz==([76,105,115,116]:av))=true:=aB;have ho:=hO l2 (b || !Sn ks);generalize (b || !Sn ks)=b2 at *;exact nM (j2 (j5 cY fm e1 e2 n1e) (j5 n2e hT ho @Nat.lt_irrefl @bf)) tv
   ·have hb:b=false:=by cases b<;>simp_all
    have hko:Sn ks=true:=by cases h:Sn ks<;>simp_all
    obtain⟨k,rfl⟩:∃ k,ks=[k]:=by
     match ks,hko with
     | [k],_=>exact⟨k,rfl⟩
     | [],h=>cases h
     | _ :: _ :: _,h=>cases h
    grind [QL]
  ·have apV:(n==([76,105,115,116]:av))=false:=cJ hn
   obtain⟨l1,e1,t1,n1⟩:=Cm fj (decide (ks.length=0)) l b (by first|exact hl|omega|(simp only[List.length_cons,List.length_nil];omega))
   by_cases hi:n=Fz\/n=vt
   ·obtain⟨l2,e2,t2,n2⟩:=BN fj [n] ae l1 (b || !decide (ks.length=0)) iA
    simp only[List.length_cons,List.length_nil] at n2;have eo:∀ c:Bool,(c || !true)=c:=fun c=>by cases c<;>rfl
    rw[eo,es] at e2;rw[eo] at t2;have JO:bD (.mk n ks)=decide (ks.length=0):=by
     grind [x6]
    have mD:bM (.mk n ks)=[n]:=by rw[FT hn,if_pos (by rcases hi with e|e<;>simp[e])]
    rw[JO,mD];refine⟨l2,?_,fun hp=>by rw[t2 hp,t1 hp];simp,af⟩
    refine cW VY.eq_1 ?_;have ho:=hO l2 (b || !decide (ks.length=0));generalize (b || !decide (ks.length=0))=b2 at *;cases q1:(n==([73,110,116]:av)) with
    | true=>exact nM (j3 (j5 cY fm @gF U2 e1) (j5 e2 q1 hT ho @Nat.lt_irrefl) @bf) tv
    | false =>
     have q2:(n==([66,111,111,108]:av))=true:=by
      grind
     exact nM (j3 (j5 cY fm @gF U2 e1) (j5 e2 q1 q2 hT ho) (j2 @Nat.lt_irrefl @bf)) tv
   ·have q1:(n==([73,110,116]:av))=false:=by simpa using fun e=>hi (.inl e)
    have q2:(n==([66,111,111,108]:av))=false:=by simpa using fun e=>hi (.inr e)
    obtain⟨l2,e2,t2,n2⟩:=LX fj n af l1 (b || !decide (ks.length=0)) af;have JO:bD (.mk n ks)=(decide (ks.length=0)&&gK n):=by rw[x6 hn,show (n==Fz)=false from q1,show (n==vt)=false from q2];rfl
    have mD:bM (.mk n ks)=aL n:=by rw[FT hn,if_neg (by rw[show (n==Fz)=false from q1,show (n==vt)=false from q2];decide)]
    have eo:(b || !(decide (ks.length=0)&&gK n))=((b || !decide (ks.length=0)) || !gK n):=by cases b<;>cases decide (ks.length=0)<;>cases gK n<;>rfl
    rw[JO,mD,eo];refine⟨l2,?_,fun hp=>?_,af⟩
    ·refine cW VY.eq_1 ?_
     have ho:=hO l2 ((b || !decide (ks.length=0)) || !gK n);generalize ((b || !decide (ks.length=0)) || !gK n)=b3 at *;generalize (b || !decide (ks.length=0))=b2 at *;exact nM (j3 (j5 cY fm @gF U2 e1) (j5 e2 q1 q2 apV hT) (j3 ho @Nat.lt_irrefl @bf)) tv
    ·grind
 intro h
 induction h with
 | zero =>
  intro w hh hb mm K hP;obtain⟨n,ks⟩:=w;obtain⟨h1,h2⟩:=hb;simp only[Wd.kids] at h2;subst h2;exact main 0 _ hh h1 mm K hP ⟨by simp[Wd.kids],by simp[Wd.kids]⟩ (by simp[Wd.kids])
 | succ h ih =>
  intro w hh hb mm K hP;obtain⟨n,ks⟩:=w;obtain⟨h1,h2,h3⟩:=hb;exact main (h+1) _ hh h1 mm K hP ⟨h2,af⟩ (fun k hk=>by
   have:=ih k af (h3 k hk)
   exact this)
def oZ{K:aa}(hP:PW mm K)(t:Tm):∃ K1,PW mm K1/\(∀ l b,ct mm l b K++[.box 83 [.int .i64 t.kind,.int .i64 t.n,.str t.name,.str t.field,.str t.wn,.slice (aM t.wk) false,.slice (aF t.kids) false,.slice (strs t.names) false]]=ct mm l b K1)/\(∀ l b,(ct mm l b K1)[K.length]?=some (.box 83 [.int .i64 t.kind,.int .i64 t.n,.str t.name,.str t.field,.str t.wn,.slice (aM t.wk) false,.slice (aF t.kids) false,.slice (strs t.names) false]))/\(∀ l b,(ct mm l b K1).take K.length=ct mm l b K)/\∀ l b,mc K.length mm (ct mm l b K1)=true :=
 ⟨K++[.box 83 [.int .i64 t.kind,.int .i64 t.n,.str t.name,.str t.field,.str t.wn,.slice (aM t.wk) false,.slice (aF t.kids) false,.slice (strs t.names) false]],hP.push (fun cs e=>by cases e),fun _ _=>sw hP,fun _ _=>FC hP,fun _ _=>ql hP,fun l b=>hP.Qf l b⟩
end Go.Proofs.YtkoebdjmmgckdaaGreatDoor
end
