/-
  A part of the proof of SyntaxErrors: UQ4, UQ5, UQ6, UQ7, UQ8, UQ9, UQ10, UQ11, UQ12, UQ13, UQ14, UQ15, U46.
-/
import Derived.Test.YtbadnagdfefbnaaGreatDoorQ09
set_option linter.unusedSimpArgs false
set_option linter.unusedVariables false
set_option linter.defProp false
set_option maxHeartbeats 1000000
set_option maxRecDepth 100000
noncomputable section
namespace Go.Proofs.YtbadnagdfefbnaaGreatDoor
open Go Go.Abs Go.Proofs
variable {v:AV}{x y:AV × Option fP}{b:Bool}{least:Int}{rows:List (List AV)}{args c0 row row':List AV}{qA:List Tk}{ks:List Tm}{ns:List ay}{gen j lo mm n' q:Nat}{fn:aB}{T:aD}{K' K0:ae}{w:ay}{o:bS}
section
abbrev Rel:=List AV->ae->AV × Option fP->Prop
open Classical in
def mg(R:Rel)(args:List AV)(H:ae):Option (AV × Option fP):=if h:∃ x,R args H x then some (Classical.choose h) else none
theorem tD{R:Rel}{H:ae}(h:mg R args H=some x):R args H x:=by
 unfold mg at h;split at h
 ·grind
 ·cases h
theorem pZ{R:Rel}{H:ae}(hu:∀ y,R args H y->y=x)(h:R args H x):mg R args H=some x:=by
 have hx:∃ x,R args H x:=⟨x,h⟩;unfold mg
 grind
structure jx (tk:List Tk) (pl:Nat) (s:PS) (H:ae):Prop where
 q:PQ pl H
 at' : H[pl]?=some (nK tk s)
 b:BF tk
 le:s.i<=tk.length
theorem Vo{tk:List Tk}{s s':PS}(h:nK tk s=nK qA s'):tk=qA/\s=s':=by
 unfold nK at h;simp only[bS.box.injEq,awe,AV.slice.injEq,AV.int.injEq,AV.bool.injEq,awX,av'] at h;obtain⟨h1,h2,h3⟩:=h;refine⟨?_,?_⟩
 ·have key:∀ a b:List Tk,a.map gN=b.map gN->a=b:=by
   intro a
   induction a with
   | nil=>intro b hb;cases b with|nil=>rfl|cons x r=>simp at hb
   | cons x r ih =>
    intro b hb;cases b with
    | nil=>simp at hb
    | cons y q =>
     simp only[avm,awe] at hb;obtain⟨h1,h2⟩:=hb;unfold gN at h1
     grind
  exact key _ _ h1
 ·obtain⟨i,b⟩:=s
  obtain⟨j,c⟩:=s'
  grind
theorem jx.uniq{tk:List Tk}{pl:Nat}{s s':PS}{H:ae}(h:jx tk pl s H)(h' : jx qA pl s' H):tk=qA/\s=s':=by
 have:=h.at'
 rw[h'.at'] at this
 grind [Vo]
def jx.eq{tk:List Tk}{pl:Nat}{s:PS}{H:ae}(h:jx tk pl s H):H=aJ tk pl s H:=by
 unfold aJ;refine awH fun i=>?_
 rw[av2];split
 ·rename_i e;subst e;rw[if_pos h.q.lt];exact h.at'
 ·rfl
def jx.to{tk:List Tk}{pl:Nat}{s s':PS}{H:ae}(h:jx tk pl s H)(hl:s'.i<=tk.length):jx tk pl s' (aJ tk pl s' H):=⟨h.q.aJ,nu h.q,h.b,hl⟩
def uw(H:ae)(tl c z:Nat)(row:List AV):Option ae :=
 match H[tl]? with
 | some (.bZ cs)=>match cs[c]? with
  | some .ar=>some (H.set tl (.bZ (cs.set c (.sref H.length 0 1 z)))++[.box bD row])
  | some (.sref l 0 n z')=>match H[l]? with
   | some (.box ty es)=>cond (Nat.beq ty bD&&Nat.beq z' z&&Nat.beq es.length (n*z)&&Nat.ble n 2000000&&Nat.blt tl l&&Nat.beq row.length z) (some ((H.set l .dead).set tl (.bZ (cs.set c (.sref H.length 0 (n+1) z)))++[.box bD (es++row)])) none
   | _=>none
  | _=>none
 | _=>none
inductive zK (n:Nat):Rel where
 | mk {tk pl s H t s'} (h:jx tk pl s H) (hn:n<=1000000) (he:pE (aq tk) n 0 s=some (t,s')):zK n [.ref pl 0] H (.agg (aM t),some ⟨aJ tk pl s' H,pl⟩)
inductive zJ (n:Nat):Rel where
 | mk {tk pl s H t s'} {lv:Nat} (h:jx tk pl s H) (hn:n<=1000000) (h1:1<=lv) (h7:lv<=7) (he:pE (aq tk) n lv s=some (t,s')):zJ n [.ref pl 0,.int .i64 lv] H (.agg (aM t),some ⟨aJ tk pl s' H,pl⟩)
inductive xW (n:Nat):Rel where
 | mk {tk pl tl s H t s' H'} (h:jx tk pl s H) (hn:n<=1000000) (aZ:pl<tl) (he:pE (aq tk) n 0 s=some (t,s')) (ha:uw (aJ tk pl s' H) tl 6 8 (aM t)=some H'):xW n [.agg [.ref pl 0,.ref tl 0]] H (.tuple [],some ⟨H',pl⟩)
inductive zL (n:Nat):Rel where
 | no {tk pl pv tl s H w} (h:jx tk pl s H) (hn:n<=1000000) (hv:H[pv]?=some (.box 97 [.ref pl 0])) (aZ:pl<pv) (uc:pv<tl) (hw:w≠[]) (he:(aQ (aq tk) w s).bad=true):zL n [.str w,.ref pv 0,.ref tl 0] H (.tuple [],some ⟨aJ tk pl (aQ (aq tk) w s) H,pl⟩)
 | mk {tk pl pv tl s H w t s' H'} (h:jx tk pl s H) (hn:n<=1000000) (hv:H[pv]?=some (.box 97 [.ref pl 0])) (aZ:pl<pv) (uc:pv<tl) (hw:w≠[]) (hg:(aQ (aq tk) w s).bad=false) (he:pE (aq tk) n 0 (aQ (aq tk) w s)=some (t,s'))
   (ha:uw (aJ tk pl s' H) tl 6 8 (aM t)=some H'):zL n [.str w,.ref pv 0,.ref tl 0] H (.tuple [],some ⟨H',pl⟩)
inductive Ca (n:Nat):Rel where
 | mk {tk pl pv cv tl s H t s' H1 H'} (h:jx tk pl s H) (hn:n<=1000000) (hv:H[pv]?=some (.box 97 [.ref pl 0])) (hc:H[cv]?=some (.box 1 [.func (.func 173) [.agg [.ref pl 0,.ref tl 0]] []])) (aZ:pl<pv) (uc:pv<tl) (htc:tl<cv)
   (h1:uw (aJ tk pl (aF (aq tk) s).2 H) tl 7 1 [.str (aF (aq tk) s).1]=some H1) (he:pE (aq tk) n 0 (aQ (aq tk) [61] (aF (aq tk) s).2)=some (t,s'))
   (h2:uw (aJ tk pl s' H1) tl 6 8 (aM t)=some H'):Ca n [.ref tl 0,.ref pv 0,.ref cv 0] H (.tuple [],some ⟨H',pl⟩)
def Np:List (List AV)->AV
 | []=>.ar
 | r=>.slice r true
inductive Cd (n:Nat):Rel where
 | mk {tk pl pv fl s H fd s' kd cs} {rows:List (List AV)} (h:jx tk pl s H) (hn:n<=1000000) (hv:H[pv]?=some (.box 97 [.ref pl 0])) (hf:H[fl]?=some (.box 58 (.int .i64 kd :: cs))) (hc:cs[1]?=some (Np rows)) (aZ:pl<pv) (hlf:pv<fl) (hr:rows.length<=1000000) (hw:wm 4 rows)
   (he:oP (aq tk) n kd [] s=some ([fd],s')):Cd n [.ref pv 0,.ref fl 0] H (.tuple [],some ⟨(aJ tk pl s' H).set fl (.box 58 (.int .i64 kd :: cs.set 1 (.slice (rows++[fE fd]) true))),pl⟩)
inductive Fc (n:Nat):Rel where
 | mk {tk pl s H f s'} (h:jx tk pl s H) (hn:n<=1000000) (he:pL (aq tk) n (pE (aq tk) n 0) s=some (f,s')):Fc n [.ref pl 0] H (.agg (cm f),some ⟨aJ tk pl s' H,pl⟩)
theorem Q5{n:Nat}{H:ae}(hx:zK n args H x)(hy:zK n args H y):y=x:=by
 cases hx with
 | mk h hn he=>cases hy with
  | mk h' IS yI =>
   obtain⟨rfl,rfl⟩:=h.uniq h'
   grind
theorem Q4{n:Nat}{H:ae}(hx:zJ n args H x)(hy:zJ n args H y):y=x:=by
 cases hx with
 | @mk tk pl s H t s' lv h hn h1 h7 he =>
  generalize ha:([.ref pl 0,.int .i64 lv]:List AV)=args at hy;cases hy with
  | @mk tk2 pl2 s2 _ t2 s2' lv2 h' IS WV h7' yI =>
   simp only[awe,AV.ref.injEq,av',AV.int.injEq,awX] at ha;obtain⟨rfl,uc⟩:=ha;obtain rfl:lv=lv2:=by omega
   obtain⟨rfl,rfl⟩:=h.uniq h'
   grind
theorem Q7{n:Nat}{H:ae}(hx:xW n args H x)(hy:xW n args H y):y=x:=by
 cases hx with
 | mk h hn aZ he ha=>cases hy with
  | mk h' IS uP yI ha' =>
   obtain⟨rfl,rfl⟩:=h.uniq h'
   grind
def GP{H:ae}{pv pl pl':Nat}(h:H[pv]?=some (.box 97 [.ref pl 0]))(h' : H[pv]?=some (.box 97 [.ref pl' 0])):pl=pl':=by
 rw[h] at h';cases h';rfl
theorem Ra{n:Nat}{H:ae}(hx:zL n args H x)(hy:zL n args H y):y=x:=by
 cases hx with
 | no h hn hv aZ uc hw he=>cases hy with
  | no h' IS oT uP Ya hw' yI =>
   obtain rfl:=GP hv oT;obtain⟨rfl,rfl⟩:=h.uniq h';rfl
  | mk h' IS oT uP Ya hw' hg' yI ha' =>
   obtain rfl:=GP hv oT;obtain⟨rfl,rfl⟩:=h.uniq h';rw[he] at hg';cases hg'
 | mk h hn hv aZ uc hw hg he ha=>cases hy with
  | no h' IS oT uP Ya hw' yI =>
   obtain rfl:=GP hv oT;obtain⟨rfl,rfl⟩:=h.uniq h';rw[yI] at hg;cases hg
  | mk h' IS oT uP Ya hw' hg' yI ha' =>
   obtain rfl:=GP hv oT;obtain⟨rfl,rfl⟩:=h.uniq h'
   grind
theorem Q8{n:Nat}{H:ae}(hx:Ca n args H x)(hy:Ca n args H y):y=x:=by
 cases hx with
 | mk h hn hv hc aZ uc htc h1 he h2=>cases hy with
  | mk h' IS oT BT uP Ya asc WV yI h2' =>
   obtain rfl:=GP hv oT;obtain⟨rfl,rfl⟩:=h.uniq h'
   grind
theorem ZX{a b:List (List AV)}(h:Np a=Np b):a=b:=by
 cases a<;>cases b<;>simp only[Np] at h<;>first|rfl|(cases h;rfl)|cases h
theorem Q9{n:Nat}{H:ae}(hx:Cd n args H x)(hy:Cd n args H y):y=x:=by
 cases hx with
 | mk h hn hv hf hc aZ hlf hr hw he=>cases hy with
  | mk h' IS oT hf' BT uP arF IU hw' yI =>
   obtain rfl:=GP hv oT;obtain⟨rfl,rfl⟩:=h.uniq h'
   grind [ZX]
theorem Q6{n:Nat}{H:ae}(hx:Fc n args H x)(hy:Fc n args H y):y=x:=by
 cases hx with
 | mk h hn he=>cases hy with
  | mk h' IS yI =>
   obtain⟨rfl,rfl⟩:=h.uniq h'
   grind
def ovP(k n:Nat):FuncId->Option (List AV->ae->Option (AV × Option fP))
 | 91=>some (mg (zK n))
 | 135=>some (mg (zJ n))
 | 173=>bif Nat.ble 1 k then some (mg (xW n)) else none
 | 134=>bif Nat.ble 2 k then some (mg (zL n)) else none
 | 191=>bif Nat.ble 2 k then some (mg (Ca n)) else none
 | 87=>none
 | 158=>none
 | 174=>none
 | 175=>none
 | 88=>bif Nat.ble 3 k then some (mg (Cd n)) else none
 | 41=>bif Nat.ble 4 k then some (mg (Fc n)) else none
 | 11=>none
 | 12=>none
 | f=>some (aj A f)
def ac9:FuncId->Option aB
 | 91=>some mN
 | 135=>some jG
 | f=>fns f
def PA(k n:Nat):AP:={ fns:=ac9,ov:=ovP k n,aY:=Bg }
def cP{k n:Nat}{f:FuncId}(h:(PA k n).ov f=some (aj A f)){H:ae}{r:AV × Option fP}(hr:aj A f args H=some r)(hn:args.all vG=true:=by rfl):aj (PA k n) f args H=some r:=gU (g:=aj A f) h hr hn
def N2{k n:Nat}{tk:List Tk}{pl:Nat}{s s':PS}{H:ae}{t:Tm}(h:jx tk pl s H)(hn:n<=1000000)(he:pE (aq tk) n 0 s=some (t,s')):aj (PA k n) 91 [.ref pl 0] H=some (.agg (aM t),some ⟨aJ tk pl s' H,pl⟩) :=
 gU (g:=mg (zK n)) rfl (pZ (fun _ hy=>Q5 (.mk h hn he) hy) (.mk h hn he))
def Xm{k n:Nat}{tk:List Tk}{pl:Nat}{s s':PS}{H:ae}{t:Tm}{lv:Nat}(h:jx tk pl s H)(hn:n<=1000000)(h1:1<=lv)(h7:lv<=7)(he:pE (aq tk) n lv s=some (t,s')):aj (PA k n) 135 [.ref pl 0,.int .i64 lv] H=some (.agg (aM t),some ⟨aJ tk pl s' H,pl⟩) :=
 gU (g:=mg (zJ n)) rfl (pZ (fun _ hy=>Q4 (.mk h hn h1 h7 he) hy) (.mk h hn h1 h7 he))
end
section
section
variable {tk:List Tk}{pl:Nat}{K:ae}
theorem CB(h:PQ pl K)(hb:BF tk){s:PS}(hs:s.i<=tk.length){w:Wd}{s':PS}(hle:s'.i<=tk.length)
  (hw:aj A 89 [.ref pl 0] (aJ tk pl (aQ (aq tk) [40] s) K)=some (.agg (gX w),some ⟨aJ tk pl s' K,pl⟩)) :
  aj A 131 [.ref pl 0] (aJ tk pl s K)=some (.agg (gX w),some ⟨aJ tk pl (aQ (aq tk) [41] s') K,pl⟩):=by
 have h1:=DY h hb (s:=s) (w:=[40]) ag hs;have h2:=DY h hb (s:=s') (w:=[41]) ag hle;generalize aQ (aq tk) [40] s=s1 at *;generalize aQ (aq tk) [41] s'=s2 at *;have ho:=h.open (tk:=tk) (s:=s2);have gW:=h.lt;rw[iA] at hw ⊢;refine bO (fn:=Up) rfl rfl rfl rfl ?_;unfold Up;exact nL6 h1 h2 hw ho (j2 @bF @dE) (j5 @cH @cG @fp @Y3 @ax.eq_1) tv
theorem O'(h:PQ pl K)(hb:BF tk):∀ (n:Nat) (s:PS) (w:Wd) (s' : PS),s.i<=tk.length->nE (aq tk) n s=some (w,s')->s'.i<=tk.length/\aj A 89 [.ref pl 0] (aJ tk pl s K)=some (.agg (gX w),some ⟨aJ tk pl s' K,pl⟩):=by
 intro n;have gW:=h.lt
 induction n with
 | zero=>intro s w s' _ he;cases he
 | succ n ih =>
  intro s w s' hs he;unfold nE at he;cases e1:(pk (aq tk) s==xX) with
  | true =>
   rw[e1,cond_true] at he;injection he with he
   injection he with lZ iZ
   subst lZ iZ;refine⟨lG aI e1,bO (fn:=HU) rfl rfl rfl rfl ?_⟩;have hi:=J9 h hb aI e1;have ho:=h.open (tk:=tk) (s:=s.up);unfold xX at hi ⊢;generalize s.up=s1 at *;unfold HU;exact nO5 hi ho @bF (j2 @dE @cH) (j5 @cG @cT @gX.eq_1 @aH.eq_1 @ax.eq_1) tv
  | false =>
  have i1:=J8 h hb hs e1;unfold xX at i1;cases e2:(pk (aq tk) s==sH) with
  | true =>
   rw[e1,e2,cond_false,cond_true] at he;injection he with he
   injection he with lZ iZ
   subst lZ iZ;refine⟨lG aI e2,bO (fn:=HU) rfl rfl rfl rfl ?_⟩;have hi:=J9 h hb aI e2;have ho:=h.open (tk:=tk) (s:=s.up);unfold sH at hi ⊢;generalize s.up=s1 at *;unfold HU;exact nO5 i1 hi ho (j3 @bF @dE @cH) (j5 @cG @cT @gX.eq_1 @aH.eq_1 @ax.eq_1) tv
  | false =>
  have i2:=J8 h hb hs e2;unfold sH at i2;cases e3:(pk (aq tk) s==iN) with
  | true =>
   rw[e1,e2,e3,cond_false,cond_false,cond_true] at he;simp only[au2] at he;obtain⟨⟨v,s2⟩,hv,he⟩:=he;injection he with lZ iZ
   subst lZ iZ;have hi:=J9 h hb aI e3;have hu:=lG (tk:=tk) (s:=s) (w:=iN) aI e3;obtain⟨hle,hc⟩:=ih _ v s2 (gy ag hu) hv;have Gg:=CB h hb hu hle hc;refine⟨gy ag hle,bO (fn:=HU) rfl rfl rfl rfl ?_⟩;have ho:=h.open (tk:=tk) (s:=aQ (aq tk) [41] s2);unfold iN at hi ⊢;generalize aQ (aq tk) [41] s2=s3 at *;generalize s.up=s1 at *;rw[iA] at Gg;unfold HU;simp(disch:=omega)only[dm,aa,simprocAttr,i1,i2,hi,Gg,ho,ax,bF,dE,cH,cG,fp,jX,mY,gX,aH,iA]
  | false =>
   have i3:=J8 h hb hs e3;unfold iN at i3;rw[e1,e2,e3,cond_false,cond_false,cond_false] at he;injection he with he
   injection he with lZ iZ
   subst lZ iZ;have hq:=KF h hb hs;have hqn:(aU (aq tk) s).1=(aU (aq tk) s).1:=rfl;refine⟨Vz hs,bO (fn:=HU) rfl rfl rfl rfl ?_⟩;generalize aU (aq tk) s=q at *;obtain⟨a,s1⟩:=q;have ho:=h.open (tk:=tk) (s:=s1);simp only at hq ⊢;unfold HU;exact nO5 i1 i2 i3 (j5 hq ho @bF @dE @cH) (j5 @cG @cT @gX.eq_1 @aH.eq_1 @ax.eq_1) tv
theorem LZ(h:PQ pl K)(hb:BF tk){n:Nat}{s:PS}{w:Wd}{s':PS}(hs:s.i<=tk.length)(he:jD (aq tk) n s=some (w,s')):s'.i<=tk.length/\aj A 131 [.ref pl 0] (aJ tk pl s K)=some (.agg (gX w),some ⟨aJ tk pl s' K,pl⟩):=by
 unfold jD at he;simp only[au2] at he
 grind [O',gy,CB]
end
end
section
structure rA (H:ae) (tl c z:Nat) (kc:AV) (m:Nat) (es:List AV) (Hd:ae) (cs:List AV):Prop where
 obj:H[tl]?=some (.bZ cs)
 cell:cs[c]?=some kc
 drop:kc.drop=kc
 adr:∀ s,mE s kc=kc
 fr:aN kc=true
 hc:gr .heap kc=true
 cells:kc.cells=some [kc]
 len:de .sl kc=some (.int .i64 m)
 lv:∀ T,MF T .sl kc=some (.int .i64 m)
 le:m<=2000000
 el:es.length=m*z
 hd:Hd.length=H.length
 hdt:Hd[tl]?=some (.bZ cs)
 low:∀ j,j<=tl->Hd[j]?=H[j]?
 app:∀ T lo gen row o bytes,lo<=tl->bytes<=1000->row.length=z->row.all AV.plain=true->jE ⟨T,H,lo,gen⟩ z bytes kc (.slice [row] o)=some (.sref H.length 0 (m+1) z,some ⟨T,Hd++[.box bD (es++row)],lo,gen⟩)
 lt:tl<H.length
 ob:∀ (j:Nat) (cs' : List AV),Hd[j]?=some (bS.bZ cs')->H[j]?=some (bS.bZ cs')
 bx:∀ (j:Nat) (ty:TypeId) (uI:List AV),H[j]?=some (bS.box ty uI)->ty≠bD->Hd[j]?=some (bS.box ty uI)
def mQ{H H':ae}{tl c z:Nat}(hz:row.length=z)(h:uw H tl c z row=some H') :
  ∃ kc m es Hd cs,rA H tl c z kc m es Hd cs/\H'=(Hd++[bS.box bD (es++row)]).set tl (.bZ (cs.set c (.sref H.length 0 (m+1) z))):=by
 unfold uw at h;split at h
 ·rename_i cs pM
  have aZ:tl<H.length:=(au7.1 pM).1;split at h
  ·rename_i hc
   injection h with h
   refine⟨.ar,0,[],H,cs,⟨pM,hc,rfl,fun _=>rfl,rfl,rfl,rfl,rfl,fun _=>rfl,ah,ag,rfl,pM,fun _ _=>rfl,?_,aZ,fun _ _ h=>h,fun _ _ _ h _=>h⟩,?_⟩
   ·intro T lo gen row o bytes xT hb hr hp
    have f1:cK z bytes [] [row]=true:=by
     unfold cK;simp only[List.length_nil,List.length_cons,au6,avv,gC,List.head?_nil,axD,awf,ave,Option.getD_none,av0,axe,hr,av'];omega
    have f2:dM [row]=true:=by unfold dM;simp only[List.all_cons,List.all_nil,hp,Bool.and_self]
    have f3:GD .ar (.slice [row] o)=none:=rfl;unfold jE;rw[f3];simp only[jU,bz,au9,axu,awd,f1,f2,Bool.and_self,cond_true,List.length_cons,List.length_nil,avy,awl,List.append_nil,AS.iK,avO];have:Nat.blt H.length lo=false:=by
     cases hb:Nat.blt H.length lo with
     | true=>have:=av6 hb;omega
     | false=>rfl
    rw[this];rfl
   ·rw[<- h,List.set_append_left _ _ aZ,avO]
  ·rename_i l n z' hc
   split at h
   ·rename_i ty es IM
    obtain⟨aa6,h⟩:=al h;simp only[au6,axe,avv,avn] at aa6;obtain⟨⟨⟨⟨⟨h0,h1⟩,h2⟩,h3⟩,h4⟩,h5⟩:=aa6;subst h1;injection h with h
    refine⟨.sref l 0 n z',n,es,H.set l .dead,cs,⟨pM,hc,rfl,fun _=>rfl,rfl,rfl,rfl,rfl,fun _=>rfl,h3,h2,ag,?_,?_,?_,aZ,?_,?_⟩,?_⟩
    ·rw[List.getElem?_set_ne ah];exact pM
    ·intro j hj;exact List.getElem?_set_ne ah
    ·intro T lo gen row o bytes xT hb hr hp
     have hmul:(n+1)*bytes<=2000001*1000:=Nat.mul_le_mul ah hb;have f3:GD (.sref l 0 n z') (.slice [row] o)=none:=rfl;have f2:dM [row]=true:=by unfold dM;simp only[List.all_cons,List.all_nil,hp,Bool.and_self]
     have f1:(Nat.beq 0 0&&Nat.beq z' z'&&Nat.beq es.length (n*z')&&Nat.ble ((n+1)*bytes) 70368744177664&&Nat.ble (n+1) 70368744177664&&gC z' [row]&&dM [row])=true:=by
      have q:(n+1)*bytes<=70368744177664:=ah;have q2:n+1<=70368744177664:=ah;simp only[au6,avv,gC,axD,ave,av0,axe,hr,f2,h2,q,q2,and_self]
     unfold jE;rw[f3];simp only[jU,bz,au9,IM,List.length_cons,List.length_nil,avA,f1,cond_true,avy,awl,List.append_nil,AS.iK];have:Nat.blt l lo=false:=by
      cases hb:Nat.blt l lo with
      | true=>have:=av6 hb;omega
      | false=>rfl
     rw[this];rfl
    ·intro j cs' hj
     by_cases e:l=j
     ·subst e;rw[List.getElem?_set_self (au7.1 IM).1] at hj;cases hj
     ·rwa [List.getElem?_set_ne e] at hj
    ·intro j ox uI hj dk
     by_cases e:l=j
     ·subst e;rw[IM] at hj;cases hj;exact absurd h0 dk
     ·rwa [List.getElem?_set_ne e]
    ·rw[<- h,List.set_append_left _ _ (cY aZ)]
   ·cases h
  ·cases h
 ·cases h
section
variable {H:ae}{tl c z:Nat}{kc:AV}{m:Nat}{es:List AV}{Hd:ae}{cs:List AV}
def sO(Hd:ae)(es row:List AV):ae:=Hd++[.box bD (es++row)]
def Hh : (sO Hd es row).length=Hd.length+1:=by simp[sO]
def rA.t(h:rA H tl c z kc m es Hd cs) : (sO Hd es row)[tl]?=some (.bZ cs):=by
 unfold sO;rw[avd (by have:=h.lt;have:=h.hd;omega)]
 exact h.hdt
def rA.n(h:rA H tl c z kc m es Hd cs) : ((sO Hd es row).set tl o)[H.length]?=some (.box bD (es++row)):=by
 have:=h.lt
 rw[List.getElem?_set_ne ah,sO,<- h.hd];simp
def rA.n0(h:rA H tl c z kc m es Hd cs) : (sO Hd es row)[H.length]?=some (.box bD (es++row)):=by
 rw[sO,<- h.hd];simp
def rA.put(h:rA H tl c z kc m es Hd cs)(hr:row.length=z)(IU:row'.length=z):putAt (es++row) (m*z) row'=es++row':=by
 unfold putAt;rw[<- h.el,awy rfl,List.drop_eq_nil_of_le dq,List.append_nil]
def rA.set(h:rA H tl c z kc m es Hd cs) : ((sO Hd es row).set tl o).set H.length (.box bD (es++row'))=(sO Hd es row').set tl o:=by
 have:=h.lt
 have hd:=h.hd;rw[List.set_comm _ _ ah]
 congr 1
 unfold sO;rw[<- hd,List.set_append_right _ _ (Nat.le_refl _),awR];rfl
def rA.akh(h:rA H tl c z kc m es Hd cs) : (sO Hd es row).set H.length (.box bD (es++row'))=sO Hd es row':=by
 have hd:=h.hd;unfold sO;rw[<- hd,List.set_append_right _ _ (Nat.le_refl _),awR];rfl
end
def dn(fn:aB)(base:Nat)(x:AV × Option fP):bH->AS->Prop
 | .exit _,_=>False
 | _,s=>finish base fn s=some x
def OO{base:Nat}{s:AS}{tl:Nat}{cs:List AV}(h1:s.lo<=tl)(h2:tl<base)(h3:s.H[tl]?=some (.bZ cs))(h4:cs.all (AV.bw base)=false):kB base s=false:=by
 unfold kB;have:Nat.beq s.lo base=false:=ae1 ah
 rw[this,cond_false];cases hb:((s.H.take base).drop s.lo).all fun o=>match o with|.bZ cs=>cs.all (AV.bw base)|_=>true with
 | false=>rfl
 | true =>
  rw[ava] at hb;have hm:bS.bZ cs∈(s.H.take base).drop s.lo:=by
   refine avb (i:=tl-s.lo) ?_;rw[av9,avw,if_pos ah,show s.lo+(tl-s.lo)=tl by omega]
   exact h3
  have:=hb _ hm
  simp only at this;rw[h4] at this;cases this
def N5{base:Nat}{s:AS}(hf:fn.muts.elem 888887=true)(hr:fn.results=[])(ho:kB base s=false):finish base fn s=some (.tuple [],some ⟨s.H,s.lo⟩):=by
 unfold finish ml;rw[ho,cond_false];simp only[awf,BM,hf,cond_true,xf,hr,lY,List.length_nil];rfl
def ZV{cs:List AV}{c base l n z:Nat}(hc:c<cs.length)(hl:base<=l):(cs.set c (.sref l 0 n z)).all (AV.bw base)=false:=by
 cases hb:(cs.set c (.sref l 0 n z)).all (AV.bw base) with
 | false=>rfl
 | true =>
  rw[ava] at hb;have:=hb _ (List.mem_set hc _)
  simp only[AV.bw,avn] at this;omega
def O4{t:Tm} : (aM t).all AV.plain=true:=by rw[ai];rfl
end
section
section
variable {H:ae}{tl c z:Nat}{kc:AV}{m:Nat}{es:List AV}{Hd:ae}{cs:List AV}
def rA.ao{A:AP}(h:rA H tl c z kc m es Hd cs){o:Bool}{bytes d:Nat}{os:List aV}{K:AS->Prop}(xT:lo<=tl)(hb:bytes<=1000)(hr:row.length=z)(hp:row.all AV.plain=true) :
  WT A z bytes kc (.slice [row] o) d os T H lo gen K=WO A os ⟨T.put d (.sref H.length 0 (m+1) z),sO Hd es row,lo,gen⟩ K:=by
 unfold WT;rw[h.app T lo gen row o bytes xT hb hr hp,aW];rfl
def rA.cl(h:rA H tl c z kc m es Hd cs):c<cs.length:=(au7.1 h.cell).1
def rA.tk(h:rA H tl c z kc m es Hd cs) : List.take c cs++[v]++List.drop (c+1) cs=cs.set c v:=by
 rw[List.set_eq_take_append_cons_drop,if_pos h.cl];simp
def rA.bc(h:rA H tl c z kc m es Hd cs):bU (some (.bZ cs)) false 1 c=some kc:=by
 simp only[bU,ab,cond_false,h.cell,ave,h.drop]
end
def af4{t:Tm} : (aM t).map AV.drop=aM t:=by rw[ai];rfl
def aks{t:Tm} : RH (aM t)=true:=by rw[ai];rfl
def nz:List AV:=[.int .i64 0,.int .i64 0,.str [],.str [],.str [],.ar,.ar,.ar]
def WM:[AV.int .i64 0,.int .i64 0,.str [],.str [],.str [],.ar,.ar,.ar]=nz:=rfl
def WK:nz.length=8:=rfl
def Ny:nz.map AV.drop=nz:=rfl
def IH:nz.all AV.plain=true:=rfl
def WL:RH nz=true:=rfl
section
variable {k n:Nat}{tk:List Tk}{pl tl:Nat}{s s' : PS}{H:ae}{t:Tm}
def an9(h:jx tk pl s H)(aZ:pl<tl)(kD:aj (PA k n) 91 [.ref pl 0] H=some (.agg (aM t),some ⟨aJ tk pl s' H,pl⟩))
  {kc:AV} {m:Nat} {es:List AV} {Hd:ae} {cs:List AV} (hA:rA (aJ tk pl s' H) tl 6 8 kc m es Hd cs) {T0:aD} (CT:T0 1=.lbox 0 [.ref pl 0,.ref tl 0]) {Q:bH->AS->Prop}
  (hQ:∀ T,Q .normal ⟨T,(sO Hd es (aM t)).set tl (.bZ (cs.set 6 (.sref H.length 0 (m+1) 8))),pl,2⟩) :
  D (PA k n) (pU.body.sub [true,true,true]) ⟨T0,H,H.length,2⟩ Q:=by
 have hlen:=h.q.lt;have pM:H[tl]?=some (.bZ cs):=by have:=hA.obj;rwa [dH ah] at this
 have ru:(aJ tk pl s' H).length=H.length:=bF;have uK:=fun (T:aD) (o:Bool) (os:List aV) (K:AS->Prop)=>hA.ao (A:=PA k n) (row:=aM t) (o:=o) (bytes:=136) (d:=29) (os:=os) (T:=T) (lo:=pl) (gen:=2) (K:=K) ah ah jk O4
 rw[ru] at uK;have h7:decide (7<=cs.length)=true:=by have:=hA.cl;simp;omega
 have nA:=fun v=>hA.tk (v:=v)
 have IQ:decide (tl<pl)=false:=dq;unfold pU;simp only[aK.sub];refine PB ?_;simp(disch:=omega)only[oy,da,cj,cE,cr,gK,aS,aR,bt,aE.eval,AS.ca,↓reduceIte,Nat.reduceEqDiff,Option.isSome,Option.isNone,cond_true,cond_false,Nat.reduceBEq,Nat.reduceAdd,Nat.reduceMul,aa,cz,eq_self,reduceCtorEq,gF,de,cn,bL,bound,dj,AS.bG,aP,bN,bz,Nat.reduceLeDiff,cA,putAt,Int.reduceEq,Int.reduceLT,Int.reduceLE,Int.reduceBEq,Int.reduceBNe,Int.reduceAdd,Int.reduceNeg,Int.reduceSub,Int.reduceMul,dX,dW,dV,dU,dS,dR,dZ,dY,ax,bA,avH,avG,CT,hA.obj,pM,hA.bc,hA.hc,kD,hA.adr,hA.lv,uK,hA.t,h7,nA,IQ,jk,af4,O4,aks];exact hQ _
def an8(h:jx tk pl s H)(aZ:pl<tl)(kD:aj (PA k n) 91 [.ref pl 0] H=some (.agg (aM t),some ⟨aJ tk pl s' H,pl⟩))
  {kc:AV} {m:Nat} {es:List AV} {Hd:ae} {cs:List AV} (hA:rA (aJ tk pl s' H) tl 6 8 kc m es Hd cs) {T0:aD} (CT:T0 1=.lbox 0 [.ref pl 0,.ref tl 0]) {Q:bH->AS->Prop}
  (hQ:∀ T,Q .normal ⟨T,(sO Hd es (aM t)).set tl (.bZ (cs.set 6 (.sref H.length 0 (m+1) 8))),pl,2⟩) :
  D (PA k n) (pU.body.sub [true,true,false]) ⟨T0,H,H.length,2⟩ Q:=by
 have hlen:=h.q.lt;have pM:H[tl]?=some (.bZ cs):=by have:=hA.obj;rwa [dH ah] at this
 have ru:(aJ tk pl s' H).length=H.length:=bF;have uK:=fun (T:aD) (o:Bool) (os:List aV) (K:AS->Prop)=>hA.ao (A:=PA k n) (row:=nz) (o:=o) (bytes:=136) (d:=14) (os:=os) (T:=T) (lo:=pl) (gen:=2) (K:=K) ah ah rfl rfl
 rw[ru] at uK;have h7:decide (7<=cs.length)=true:=by have:=hA.cl;simp;omega
 have nA:=fun v=>hA.tk (v:=v)
 have IQ:decide (tl<pl)=false:=dq;unfold pU;simp only[aK.sub];have asm:asNat (.int .i64 (m:Int))=some m:=by rw[bA ah];rfl
 have BV:decide (m<m+1)=true:=ag;have hn:=fun row o=>hA.n (row:=row) (o:=o)
 have qu:=fun o=>hA.set (row:=nz) (row':=aM t) (o:=o)
 rw[ru] at hn qu;have J2:=hA.put (row:=nz) (row':=aM t) rfl jk;have Bu:List.take (m*8) (es++nz)++aM t++List.drop (m*8+8) (es++nz)=es++aM t:=by
  have:=J2;unfold putAt at this;rwa [jk] at this
 have Gg:(es++nz).length=(m+1)*8:=by rw[List.length_append,hA.el];simp[nz];omega
 have h88:decide (m*8+8<=(m+1)*8)=true:=dq;have ft:(aM t).all (bf H.length)=true:=by rw[ai];rfl
 have TO:decide (H.length<pl)=false:=dq;refine PB ?_;simp(disch:=omega)only[oy,da,cj,cE,cr,gK,aS,aR,bt,aE.eval,AS.ca,↓reduceIte,Nat.reduceEqDiff,Option.isSome,Option.isNone,cond_true,cond_false,Nat.reduceBEq,Nat.reduceAdd,Nat.reduceMul,aa,cz,eq_self,reduceCtorEq,gF,de,cn,bL,bound,dj,AS.bG,aP,bN,bz,Nat.reduceLeDiff,cA,putAt,Int.reduceEq,Int.reduceLT,Int.reduceLE,Int.reduceBEq,Int.reduceBNe,Int.reduceAdd,Int.reduceNeg,Int.reduceSub,Int.reduceMul,dX,dW,dV,dU,dS,dR,dZ,dY,ax,bA,avH,avG,CT,hA.obj,pM,hA.bc,hA.hc,kD,hA.adr,hA.lv,uK,asm,BV,jk,hn,Gg,h88,ft,Bu,qu,TO,hA.t,h7,nA,IQ,WM,WK,Ny,IH,WL];exact hQ _
def SC{A:AP}{H:ae}{Q:bH->AS->Prop}
  (hQ:∀ T' b,(∀ t,t≠2->t≠3->T' t=T t)->T' 3=.bool b->Q .normal ⟨T',H,lo,gen+1⟩) :
  D A (.rD [⟨some 2,none,.allocL [.bool false]⟩,⟨none,none,.store 1 (.tmp 2) (.xQ (.bool true))⟩,⟨none,none,.store 1 (.tmp 2) (.xQ (.bool false))⟩,⟨some 3,none,.load false false 1 (.tmp 2)⟩] [[],[0],[0],[0,0,1,2]]) ⟨T,H,lo,gen⟩ Q:=by
 refine SD (by conv=>lhs;cbv) ?_
 simp(disch:=omega)only[aO,aa,simprocAttr,Fa,AS.bG];refine⟨hQ _ _ (fun t h1 h2=>?_) rfl,hQ _ _ (fun t h1 h2=>?_) rfl⟩<;>simp only[lr,h1,h2,axN]
end
end
section
section
variable {H:ae}{tl c z:Nat}{kc:AV}{m:Nat}{es:List AV}{Hd:ae}{cs:List AV}
def rA.tn(h:rA H tl c z kc m es Hd cs) : ((sO Hd es row).set tl o)[tl]?=some o:=by
 refine List.getElem?_set_self ?_;rw[Hh,h.hd];have:=h.lt
 omega
def rA.fin(h:rA H tl c z kc m es Hd cs){base:Nat}(hf:fn.muts.elem 888887=true)(hr:fn.results=[])(xT:lo<=tl)(hb:tl<base)(yH:base<=H.length) :
  finish base fn ⟨T,(sO Hd es row).set tl (.bZ (cs.set c (.sref H.length 0 n' z))),lo,gen⟩=some (.tuple [],some ⟨(sO Hd es row).set tl (.bZ (cs.set c (.sref H.length 0 n' z))),lo⟩) :=
 N5 hf hr (OO (tl:=tl) xT hb h.tn (ZV h.cl yH))
end
def YF{n:Nat}{H:ae}(h:xW n args H x):args.length=pU.np/\D (PA 0 n) pU.body ⟨fi args,H,H.length,0⟩ (dn pU H.length x):=by
 cases h with
 | @mk tk pl tl s H t s' H' h hn aZ he ha =>
  refine⟨rfl,?_⟩;have kD:=N2 (k:=0) h hn he;obtain⟨kc,m,es,Hd,cs,hA,hH⟩:=mQ jk ha;have ru:(aJ tk pl s' H).length=H.length:=bF;rw[ru] at hH;have ql:=hA.lt;rw[ru] at ql;have key:∀ T,dn pU H.length (.tuple [],some ⟨H',pl⟩) .normal ⟨T,(sO Hd es (aM t)).set tl (.bZ (cs.set 6 (.sref H.length 0 (m+1) 8))),pl,2⟩:=fun T=>by
   show finish H.length pU _=_
   have:=hA.fin (row:=aM t) (T:=T) (lo:=pl) (gen:=2) (base:=H.length) (n':=m+1) (fn:=pU) rfl rfl ah ql ah
   rw[ru] at this;rw[this,hH];rfl
  refine (show D (PA 0 n) (.seq (.region _) (.seq (.rD _ _) (.cond _ (pU.body.sub [true,true,false]) (pU.body.sub [true,true,true])))) _ _ from ?_)
  rw[fh,cq rfl];refine nK0 ?_;rw[fh];refine SC fun T' b hT hb=>?_
  have h1:T' 1=.lbox 0 [.ref pl 0,.ref tl 0]:=(hT 1 ah ah).trans rfl;rw[kQ,iY];refine⟨b,hb,fun e=>?_,fun e=>?_⟩
  ·exact an8 h aZ kD hA h1 key
  ·exact an9 h aZ kD hA h1 key
end
section
def YC{k n:Nat}(hk:1<=k){H:ae}(h:xW n args H x):aj (PA k n) 173 args H=some x:=by
 have ho:(PA k n).ov 173=some (mg (xW n)):=by
  have:Nat.ble 1 k=true:=by rw[avv];exact hk
  show (bif Nat.ble 1 k then _ else _)=_
  rw[this];rfl
 refine gU ho (pZ (fun _ hy=>Q7 h hy) h) ?_
 cases h;rfl
section
variable {H:ae}{tl c z:Nat}{kc:AV}{m:Nat}{es:List AV}{Hd:ae}{cs:List AV}
def rA.aeN(h:rA H tl c z kc m es Hd cs)(hj:j<tl):((sO Hd es row).set tl o)[j]?=H[j]?:=by
 rw[List.getElem?_set_ne ah,sO,avd (by have:=h.lt;have:=h.hd;omega)]
 exact h.low j ah
def rA.bx2(h:rA H tl c z kc m es Hd cs){ty:TypeId}{uI:List AV}(hj:H[j]?=some (.box ty uI))(ht:ty≠bD):((sO Hd es row).set tl o)[j]?=some (.box ty uI):=by
 have wz:j<H.length:=(au7.1 hj).1;have dk:tl≠j:=fun e=>by subst e;rw[h.obj] at hj;cases hj
 rw[List.getElem?_set_ne dk,sO,avd (by have:=h.hd;omega)]
 exact h.bx j ty uI hj ht
def rA.xz(h:rA H tl c z kc m es Hd cs) : ((sO Hd es row).set tl o).length=H.length+1:=by
 rw[List.length_set,Hh,h.hd]
def rA.pq(h:rA H tl c z kc m es Hd cs){pl:Nat}(hq:PQ pl H)(aZ:pl<tl) : PQ pl ((sO Hd es row).set tl (.bZ (cs.set c (.sref H.length 0 n' z)))):=by
 have gW:=hq.lt;refine⟨by rw[h.xz];omega,fun j cs' hj hc=>?_⟩
 rw[h.xz]
 by_cases e:tl=j
 ·subst e
  rw[h.tn] at hc;cases hc;have:=hq.ob tl cs hj h.obj
  rw[ava] at this ⊢;intro x hx
  rcases awO hx with hx|rfl
  ·exact Ho ah x (this x hx)
  ·simp[AV.bw,avn]
 ·rw[List.getElem?_set_ne e,sO,avZ] at hc
  split at hc
  ·have:=hq.ob j cs' hj (h.ob j cs' hc)
   rw[ava] at this ⊢;exact fun x hx=>Ho ah x (this x hx)
  ·cases wz:j-Hd.length with
   | zero=>rw[wz] at hc;simp at hc
   | succ q=>rw[wz] at hc;simp at hc
def rA.pat(h:rA H tl c z kc m es Hd cs){tk:List Tk}{pl:Nat}{s:PS}(hp:jx tk pl s H)(aZ:pl<tl) : jx tk pl s ((sO Hd es row).set tl (.bZ (cs.set c (.sref H.length 0 n' z)))) :=
 ⟨h.pq hp.q aZ,by rw[h.aeN aZ];exact hp.at',hp.b,hp.le⟩
end
section
variable {n:Nat}{tk:List Tk}{pl pv tl:Nat}{s s' : PS}{H:ae}{t:Tm}
def an'(aZ:pl<tl)(hle:pl<H.length)(uc:pl<pv/\pv<tl)(hv:H[pv]?=some (.box 97 [.ref pl 0]))(kD:aj (PA 1 n) 91 [.ref pl 0] H=some (.agg (aM t),some ⟨aJ tk pl s' H,pl⟩))
  {kc:AV} {m:Nat} {es:List AV} {Hd:ae} {cs:List AV} (hA:rA (aJ tk pl s' H) tl 6 8 kc m es Hd cs) {T0:aD} {g:Nat} (CT:T0 1=.ref pv 0) (hT2:T0 2=.ref tl 0) {Q:bH->AS->Prop}
  (hQ:∀ T,Q .normal ⟨T,(sO Hd es (aM t)).set tl (.bZ (cs.set 6 (.sref H.length 0 (m+1) 8))),pl,g⟩) :
  D (PA 1 n) (qL.body.sub [true,true,false]) ⟨T0,H,pl,g⟩ Q:=by
 have pM:H[tl]?=some (.bZ cs):=by have:=hA.obj;rwa [dH ah] at this
 have ru:(aJ tk pl s' H).length=H.length:=bF;have T1:H[pv]?=some (.box 97 [.ref pl 0]):=hv;have uK:=fun (T:aD) (o:Bool) (os:List aV) (K:AS->Prop)=>hA.ao (A:=PA 1 n) (row:=nz) (o:=o) (bytes:=136) (d:=18) (os:=os) (T:=T) (lo:=pl) (gen:=g) (K:=K) ah ah rfl rfl
 rw[ru] at uK;have h7:decide (7<=cs.length)=true:=by have:=hA.cl;simp;omega
 have nA:=fun v=>hA.tk (v:=v)
 have IQ:decide (tl<pl)=false:=dq;have Mm:decide (pl<pl)=false:=ag;have TO:decide (H.length<pl)=false:=dq;have asm:asNat (.int .i64 (m:Int))=some m:=by rw[bA ah];rfl
 have BV:decide (m<m+1)=true:=ag;have hn:=fun row o=>hA.n (row:=row) (o:=o)
 have hn0:=fun row=>hA.n0 (row:=row)
 have qu:=fun o=>hA.set (row:=nz) (row':=aM t) (o:=o)
 have J3:=hA.akh (row:=nz) (row':=aM t);rw[ru] at hn hn0 qu J3;have J2:=hA.put (row:=nz) (row':=aM t) rfl jk;have Bu:List.take (m*8) (es++nz)++aM t++List.drop (m*8+8) (es++nz)=es++aM t:=by
  have:=J2;unfold putAt at this;rwa [jk] at this
 have Gg:(es++nz).length=(m+1)*8:=by rw[List.length_append,hA.el];simp[nz];omega
 have h88:decide (m*8+8<=(m+1)*8)=true:=dq;have ft:(aM t).all (bf H.length)=true:=by rw[ai];rfl
 unfold qL;simp only[aK.sub];refine aaS 7 [] rfl (by conv=>lhs;cbv) rfl (by conv=>lhs;cbv) ?_
 simp(disch:=omega)only[oy,da,cj,cE,cr,gK,aS,aR,bt,aE.eval,AS.ca,↓reduceIte,Nat.reduceEqDiff,Option.isSome,Option.isNone,cond_true,cond_false,Nat.reduceBEq,Nat.reduceAdd,Nat.reduceMul,aa,cz,eq_self,reduceCtorEq,gF,de,cn,bL,bound,dj,AS.bG,aP,bN,bz,Nat.reduceLeDiff,cA,putAt,Int.reduceEq,Int.reduceLT,Int.reduceLE,Int.reduceBEq,Int.reduceBNe,Int.reduceAdd,Int.reduceNeg,Int.reduceSub,Int.reduceMul,dX,dW,dV,dU,dS,dR,dZ,dY,ax,bA,avH,avG,Fa,hT2,CT,hA.obj,pM,hA.bc,hA.hc,T1,kD,Mm,hA.adr,hA.lv,uK,asm,BV,jk,hn,hn0,Gg,h88,ft,Bu,qu,J3,TO,hA.t,h7,nA,IQ,WM,WK,Ny,IH,WL]
 and_intros<;>exact hQ _
end
section
variable {k n:Nat}{tk:List Tk}{pl:Nat}{s:PS}{H:ae}
def zx(h:jx tk pl s H)(hw:w≠[]):aj (PA k n) 38 [.ref pl 0,.str w] H=some (.tuple [],some ⟨aJ tk pl (aQ (aq tk) w s) H,pl⟩):=by
 have:=DY h.q h.b (s:=s) (w:=w) hw h.le
 rw[<- h.eq] at this;exact cP rfl this
def HX(h:jx tk pl s H)(hw:w≠[])(e:(pk (aq tk) s==w)=true):aj (PA k n) 40 [.ref pl 0,.str w] H=some (.bool true,some ⟨aJ tk pl s.up H,pl⟩):=by
 have:=J9 h.q h.b hw e
 rw[<- h.eq] at this;exact cP rfl this
def HW(h:jx tk pl s H)(e:(pk (aq tk) s==w)=false):aj (PA k n) 40 [.ref pl 0,.str w] H=some (.bool false,none):=by
 have:=J8 h.q h.b h.le e
 rw[<- h.eq] at this;exact cP rfl this
def OQ(h:jx tk pl s H):aj (PA k n) 84 [.ref pl 0] H=some (.str (pk (aq tk) s),none):=by
 have:=Dv h.q h.b s (by have:=h.le;have:=h.b.len;omega)
 rw[<- h.eq] at this;exact cP rfl this
def Va(h:jx tk pl s H):aj (PA k n) 39 [.ref pl 0] H=some (.str (aF (aq tk) s).1,some ⟨aJ tk pl (aF (aq tk) s).2 H,pl⟩):=by
 have:=vF h.q h.b h.le
 rw[<- h.eq] at this;exact cP rfl this
def Vy(h:jx tk pl s H):aj (PA k n) 132 [.ref pl 0] H=some (.str (aU (aq tk) s).1,some ⟨aJ tk pl (aU (aq tk) s).2 H,pl⟩):=by
 have:=KF h.q h.b h.le
 rw[<- h.eq] at this;exact cP rfl this
def ae2(h:jx tk pl s H)(h1:0<=least)(h2:least<=10):aj (PA k n) 90 [.ref pl 0,.int .i64 least] H=some (.int .i64 (gR (aq tk) least s).1,some ⟨aJ tk pl (gR (aq tk) least s).2 H,pl⟩):=by
 have:=ae3 h.q h.b h.le h1 h2
 rw[<- h.eq] at this;exact cP rfl this
def aci(h:jx tk pl s H){w:Wd}{s':PS}(he:nE (aq tk) q s=some (w,s')):aj (PA k n) 89 [.ref pl 0] H=some (.agg (gX w),some ⟨aJ tk pl s' H,pl⟩):=by
 have:=(O' h.q h.b q s w s' h.le he).2
 rw[<- h.eq] at this;exact cP rfl this
def SS(h:jx tk pl s H){w:Wd}{s':PS}(he:jD (aq tk) q s=some (w,s')):aj (PA k n) 131 [.ref pl 0] H=some (.agg (gX w),some ⟨aJ tk pl s' H,pl⟩):=by
 have:=(LZ h.q h.b h.le he).2
 rw[<- h.eq] at this;exact cP rfl this
def Vi(hw:w.length<=1000000):aj (PA k n) 133 [.str w] H=some (.int .i64 (dD w),none):=cP rfl (GH w H hw)
end
def SH{base:Nat}(hm:fn.muts.elem 777777=false):∀ e s,done base fn.results x e s->dn fn base x e s:=by
 intro e s h;have key:∀ s,fin base fn.results s=some x->finish base fn s=some x:=fun s h=>by
  have:=pI (fn:=fn) h
  rwa [uX hm] at this
 cases e with
 | exit i=>exact h.elim
 | normal=>exact key _ h
 | ret=>exact key _ h
section
variable {n:Nat}
def PY{H:ae}(h:zL n args H x):args.length=qL.np/\D (PA 1 n) qL.body ⟨fi args,H,H.length,0⟩ (dn qL H.length x):=by
 cases h with
 | @no tk pl pv tl s H w h hn hv aZ uc hw he =>
  refine⟨rfl,?_⟩;have C1:=zx (k:=1) (n:=n) h hw;have hp:=h.to (s':=aQ (aq tk) w s) (gy hw h.le);have ho:=h.q.open (tk:=tk) (s:=aQ (aq tk) w s);have gW:=h.q.lt;have h0:=hp.at';unfold nK at h0;rw[he] at h0;have W3:=(au7.1 hv).1;have oT:(aJ tk pl (aQ (aq tk) w s) H)[pv]?=some (.box 97 [.ref pl 0]):=by rw[dH ah];exact hv
  refine jR _ _ ?_ (SH rfl);refine (show D (PA 1 n) (.seq (.region _) (.seq (.region _) (.cond _ (qL.body.sub [true,true,false]) .skip))) _ _ from ?_)
  rw[fh,cq rfl];refine nK2 hv C1 ?_;rw[fh,cq rfl];simp(disch:=omega)only[aO,aa,simprocAttr,oT,h0,iY,sZ,ho,dE,show qL.results=[] from rfl]
  done
 | @mk tk pl pv tl s H w t s' H' h hn hv aZ uc hw hg he ha =>
  refine⟨rfl,?_⟩;have C1:=zx (k:=1) (n:=n) h hw;have hp:=h.to (s':=aQ (aq tk) w s) (gy hw h.le);have gW:=h.q.lt;have h0:=hp.at';unfold nK at h0;rw[hg] at h0;have W3:=(au7.1 hv).1;have oT:(aJ tk pl (aQ (aq tk) w s) H)[pv]?=some (.box 97 [.ref pl 0]):=by rw[dH ah];exact hv
  have kD:=N2 (k:=1) hp hn he;have ha' : uw (aJ tk pl s' (aJ tk pl (aQ (aq tk) w s) H)) tl 6 8 (aM t)=some H':=by rw[fG];exact ha
  obtain⟨kc,m,es,Hd,cs,hA,hH⟩:=mQ jk ha';have ru:(aJ tk pl s' (aJ tk pl (aQ (aq tk) w s) H)).length=H.length:=by rw[bF,bF]
  have Mk:(aJ tk pl (aQ (aq tk) w s) H).length=H.length:=bF;rw[ru] at hH;have ql:=hA.lt;rw[ru] at ql;have key:∀ T,dn qL H.length (.tuple [],some ⟨H',pl⟩) .normal ⟨T,(sO Hd es (aM t)).set tl (.bZ (cs.set 6 (.sref (aJ tk pl (aQ (aq tk) w s) H).length 0 (m+1) 8))),pl,0⟩:=fun T=>by
   show finish H.length qL _=_
   have:=hA.fin (row:=aM t) (T:=T) (lo:=pl) (gen:=0) (base:=H.length) (n':=m+1) (fn:=qL) rfl rfl ah ql ah
   rw[ru] at this;rw[Mk,this,hH];rfl
  refine (show D (PA 1 n) (.seq (.region _) (.seq (.region _) (.cond _ (qL.body.sub [true,true,false]) .skip))) _ _ from ?_)
  rw[fh,cq rfl];refine nK2 hv C1 ?_;rw[fh,cq rfl];refine nK4 oT h0 @iY @sZ ?_;exact an' (n:=n) (pv:=pv) ah (by rw[Mk];exact gW) ⟨aZ,uc⟩ oT kD hA (uj) (uj) key
end
end
section
section
variable {n:Nat}{tk:List Tk}{pl pv tl:Nat}{s s' : PS}{H:ae}{nm:ay}
def ajs(aZ:pl<tl)(hle:pl<H.length)(uc:pl<pv/\pv<tl)(hv:H[pv]?=some (.box 97 [.ref pl 0]))(kD:aj (PA 1 n) 39 [.ref pl 0] H=some (.str nm,some ⟨aJ tk pl s' H,pl⟩))
  {kc:AV} {m:Nat} {es:List AV} {Hd:ae} {cs:List AV} (hA:rA (aJ tk pl s' H) tl 7 1 kc m es Hd cs) {T0:aD} (oS:T0 0=.ref tl 0) (CT:T0 1=.ref pv 0) {Q:bH->AS->Prop}
  (hQ:∀ T,T 1=T0 1->T 2=T0 2->Q .normal ⟨T,(sO Hd es [.str nm]).set tl (.bZ (cs.set 7 (.sref H.length 0 (m+1) 1))),pl,0⟩) :
  D (PA 1 n) (tW.body.sub [false]) ⟨T0,H,H.length,0⟩ Q:=by
 have pM:H[tl]?=some (.bZ cs):=by have:=hA.obj;rwa [dH ah] at this
 have ru:(aJ tk pl s' H).length=H.length:=bF;have T1:H[pv]?=some (.box 97 [.ref pl 0]):=hv;have uK:=fun (T:aD) (o:Bool) (os:List aV) (K:AS->Prop)=>hA.ao (A:=PA 1 n) (row:=[.str nm]) (o:=o) (bytes:=16) (d:=8) (os:=os) (T:=T) (lo:=pl) (gen:=0) (K:=K) ah ah rfl rfl
 rw[ru] at uK;have h7:decide (8<=cs.length)=true:=by have:=hA.cl;simp;omega
 have nA:=fun v=>hA.tk (v:=v)
 have IQ:decide (tl<pl)=false:=dq;unfold tW;simp only[aK.sub];refine PB ?_;simp(disch:=omega)only[oy,da,cj,cE,cr,gK,aS,aR,bt,aE.eval,AS.ca,↓reduceIte,Nat.reduceEqDiff,Option.isSome,Option.isNone,cond_true,cond_false,Nat.reduceBEq,Nat.reduceAdd,Nat.reduceMul,aa,cz,eq_self,reduceCtorEq,gF,de,cn,bL,bound,dj,AS.bG,aP,bN,bz,Nat.reduceLeDiff,cA,putAt,Int.reduceEq,Int.reduceLT,Int.reduceLE,Int.reduceBEq,Int.reduceBNe,Int.reduceAdd,Int.reduceNeg,Int.reduceSub,Int.reduceMul,dX,dW,dV,dU,dS,dR,dZ,dY,ax,bA,avH,avG,oS,CT,hA.obj,pM,hA.bc,hA.hc,T1,kD,hA.adr,hA.lv,uK,hA.t,h7,nA,IQ];exact hQ _ rfl rfl
theorem MO{H:ae}(h:Ca n args H x):args.length=tW.np/\D (PA 1 n) tW.body ⟨fi args,H,H.length,0⟩ (dn tW H.length x):=by
 cases h with
 | @mk tk pl pv cv tl s H t s' H1 H' h hn hv hc aZ uc htc h1 he h2 =>
  refine⟨rfl,?_⟩;have gW:=h.q.lt;have rQ:=Va (k:=1) (n:=n) h;obtain⟨kc,m,es,Hd,cs,hA,hH⟩:=mQ (z:=1) (row:=[.str (aF (aq tk) s).1]) rfl h1;have ru:(aJ tk pl (aF (aq tk) s).2 H).length=H.length:=bF;have ql:=hA.lt;rw[ru] at hH ql
  replace hH:H1=(sO Hd es [.str (aF (aq tk) s).1]).set tl (.bZ (cs.set 7 (.sref H.length 0 (m+1) 1))):=hH
  have D6:=h.to (s':=(aF (aq tk) s).2) (jY h.le);have hp2:=hA.pat D6 ah (row:=[.str (aF (aq tk) s).1]) (n':=m+1);rw[ru,<- hH] at hp2;have Ym:H1[pv]?=some (.box 97 [.ref pl 0]):=by rw[hH,hA.aeN ah,dH ah];exact hv
  have hc1:H1[cv]?=some (.box 1 [.func (.func 173) [.agg [.ref pl 0,.ref tl 0]] []]):=by
   rw[hH];refine hA.bx2 ?_ aI
   grind [dH]
  have C1:=zx (k:=1) (n:=n) hp2 (w:=[61]) ag;have hp3:=hp2.to (s':=aQ (aq tk) [61] (aF (aq tk) s).2) (gy ag hp2.le);have hl1:H1.length=H.length+1:=by rw[hH,hA.xz,ru]
  have W3:=(au7.1 hv).1;have gV:(aJ tk pl (aQ (aq tk) [61] (aF (aq tk) s).2) H1)[cv]?=some (.box 1 [.func (.func 173) [.agg [.ref pl 0,.ref tl 0]] []]):=by rw[dH ah];exact hc1
  have amV:=YC (k:=1) ah (xW.mk (tl:=tl) hp3 hn ah he (by rw[fG];exact h2))
  obtain⟨kc2,m2,es2,Hd2,cs2,hA2,hH2⟩:=mQ jk h2;have Mk:(aJ tk pl s' H1).length=H1.length:=bF
  replace hH2:H'=(sO Hd2 es2 (aM t)).set tl (.bZ (cs2.set 6 (.sref (aJ tk pl s' H1).length 0 (m2+1) 8))):=hH2
  have key:∀ T,dn tW H.length (.tuple [],some ⟨H',pl⟩) .normal ⟨T,H',pl,0⟩:=fun T=>by
   show finish H.length tW _=_
   have:=hA2.fin (row:=aM t) (T:=T) (lo:=pl) (gen:=0) (base:=H.length) (n':=m2+1) (fn:=tW) rfl rfl ah ql ah
   grind
  refine (show D (PA 1 n) (.seq (tW.body.sub [false]) (.seq (.region _) (.region _))) _ _ from ?_)
  rw[fh];refine ajs (n:=n) (pv:=pv) (T0:=fi [.ref tl 0,.ref pv 0,.ref cv 0]) ah gW ⟨aZ,uc⟩ hv rQ hA rfl rfl fun T q1 q2=>?_
  have q1:T 1=.ref pv 0:=q1.trans rfl;have q2:T 2=.ref cv 0:=q2.trans rfl;rw[<- hH];rw[kQ,fh,cq rfl];refine nK3 q1 Ym C1 ?_;rw[cq rfl];refine nK3 q2 gV amV ?_;exact key _
end
end
section
def Cr{A:AP}{f:FuncId}(ho:A.ov f=none)(hf:A.fns f=some fn){H:ae}{r:AV × Option fP}(hn:Nat.beq args.length fn.np=true)
  (h:W A fn.body { T:=fi args,H,lo:=H.length,gen:=0 } (dn fn H.length r)):aj A f args H=some r:=by
 obtain⟨n,e,s',h1,h2⟩:=h;refine rK ho hf (n:=n) ?_;unfold zj;rw[hn,cond_true,h1,au9];cases e with
 | exit i=>exact h2.elim
 | _=>exact h2
def dnP(fn:aB)(base:Nat)(P:AV × Option fP->Prop):bH->AS->Prop
 | .exit _,_=>False
 | _,s=>∃ x,finish base fn s=some x/\P x
def Pt{A:AP}{f:FuncId}(ho:A.ov f=none)(hf:A.fns f=some fn){H:ae}{P:AV × Option fP->Prop}(hn:Nat.beq args.length fn.np=true)
  (h:W A fn.body { T:=fi args,H,lo:=H.length,gen:=0 } (dnP fn H.length P)):∃ r,aj A f args H=some r/\P r:=by
 obtain⟨n,e,s',h1,h2⟩:=h;have key:∀ r,finish H.length fn s'=some r->(e=.normal\/e=.ret)->aj A f args H=some r:=fun r hr he=>by
  refine rK ho hf (n:=n) ?_;unfold zj;rw[hn,cond_true,h1,au9]
  rcases he with rfl|rfl<;>exact hr
 cases e with
 | exit i=>exact h2.elim
 | normal=>obtain⟨r,hr,hp⟩:=h2;exact⟨r,key r hr (.inl rfl),hp⟩
 | ret=>obtain⟨r,hr,hp⟩:=h2;exact⟨r,key r hr (.inr rfl),hp⟩
section
variable {α:Type}{kk n:Nat}{tk:List Tk}{pl base:Nat}{f:FuncId}{fs cs:List AV}{elem:α->PS->Option (α × PS)}{fin:ay}{J:Bool->α->PS->ae->Prop}{sz:α->Nat}
structure G9 (kk n:Nat) (tk:List Tk) (pl base:Nat) (f:FuncId) (fs cs:List AV) (elem:α->PS->Option (α × PS)) (J:Bool->α->PS->ae->Prop) (sz:α->Nat):Prop where
 at' : ∀ b a s K,J b a s K->jx tk pl s K
 set:∀ b a s s' K,J b a s K->s'.i<=tk.length->J b a s' (aJ tk pl s' K)
 el:∀ b a s K r,J b a s K->sz a<=1000000->elem a s=some r->∃ K',aj (PA kk n) f (fs++cs) K=some (.tuple [],some ⟨K',pl⟩)/\J true r.1 r.2 K'
 sz:∀ a s r,elem a s=some r->sz r.1=sz a+1
 fin:∀ a s K T gen,J true a s K->finish base FB ⟨T,K,pl,gen⟩=some (.tuple [],some ⟨K,pl⟩)
 fc:aN (.func (.func f) fs cs)=true
def jx.ahv{s s':PS}{H:ae}(h:jx tk pl s H) : finish H.length FB ⟨T,aJ tk pl s' H,pl,gen⟩=some (.tuple [],some ⟨aJ tk pl s' H,pl⟩):=by
 refine SH (fn:=FB) (x:=(.tuple [],some ⟨aJ tk pl s' H,pl⟩)) rfl .normal _ ?_;have ho:=h.q.open (tk:=tk) (s:=s');have gW:=h.q.lt;exact nK3 ho @dE (show FB.results=[] from rfl) tv
def H7(hE:G9 kk n tk pl base f fs cs elem J sz){k:Nat}{a:α}{s:PS}{H:ae}{r:α × PS}(hb:H.length=base)(hf:fin≠[])(hJ:J false a s H)(kj:sz a+k<=1000001)
  (hr:nB (aq tk) elem fin k a s=some r):∃ K',aj (PA kk n) 87 [.ref pl 0,.str fin,.func (.func f) fs cs] H=some (.tuple [],some ⟨K',pl⟩)/\((∃ b,J b r.1 r.2 K')):=by
 subst hb;have h:=hE.at' _ _ _ _ hJ;have gW:=h.q.lt;have hfc:=hE.fc;unfold nB at hr;cases e:(pk (aq tk) s==fin) with
 | true =>
  rw[e,cond_true] at hr;injection hr with hr
  subst hr;have hi:=HX (k:=kk) (n:=n) h hf e;have hle:=lG (tk:=tk) (s:=s) hf e;refine⟨aJ tk pl s.up H,Cr (fn:=FB) rfl rfl rfl ?_,⟨false,hE.set _ _ _ _ _ hJ hle⟩⟩;have jW:=fun T gen=>h.ahv (s':=s.up) (T:=T) (gen:=gen)
  unfold FB;refine nK2 hi @Bool.and_self ?_;exact jW _ _
 | false =>
  rw[e,cond_false] at hr;have hi:=HW (k:=kk) (n:=n) h e;cases k with
  | zero=>cases hr
  | succ k =>
  simp only[qO,au3] at hr;obtain⟨r1,h1,hr⟩:=hr;obtain⟨K1,hc1,Bo⟩:=hE.el _ _ _ _ _ hJ ah h1;have qK:=hE.sz _ _ _ h1;have key:∃ R,aj (PA kk n) 87 [.ref pl 0,.str fin,.func (.func f) fs cs] H=some R/\∃ K',R=(.tuple [],some ⟨K',pl⟩)/\J true r.1 r.2 K':=by
   refine Pt (fn:=FB) rfl rfl rfl ?_;have D6:=hE.at' _ _ _ _ Bo;unfold FB;refine nK3 hi hc1 @Bool.and_self ?_;refine oQ 0 (fun k' s=>∃ T a1 s1 K1,s=⟨T,K1,pl,0⟩/\T 0=.ref pl 0/\T 1=.str fin/\T 2=.func (.func f) fs cs/\J true a1 s1 K1/\sz a1+k'<=1000001 /\
     (bif !s1.bad&&(pk (aq tk) s1==[44]) then qO (aq tk) elem fin k' a1 s1.up else some (a1,bif s1.bad then s1 else aQ (aq tk) fin s1))=some r)
    (fun s=>∃ T a1 s1 K1,s=⟨T,K1,pl,0⟩/\T 0=.ref pl 0/\T 1=.str fin/\J true a1 s1 K1/\(a1,bif s1.bad then s1 else aQ (aq tk) fin s1)=r) (fun _=>False) ?_ ?_ (fun _ h=>h.elim) k _ ?_
   ·rintro k' s ⟨T,a1,s1,K1,rfl,q0,q1,q2,Bo,hz,CX⟩
    have D6:=hE.at' _ _ _ _ Bo;have h0:=D6.at';have ani:=D6.q.lt;unfold nK at h0;obtain⟨i1,b1⟩:=s1;simp only at h0;cases b1 with
    | true =>
     rw[av8,avt,cond_false] at CX;injection CX with CX
     refine nK2 q0 h0 ?_;exact⟨_,a1,⟨i1,true⟩,K1,rfl,nD q0,nD q1,Bo,CX⟩
    | false =>
     rw[awd,avE] at CX;cases e1:(pk (aq tk) ⟨i1,false⟩==[44]) with
     | false =>
      rw[e1,cond_false] at CX;injection CX with CX
      have RC:=HW (k:=kk) (n:=n) D6 e1;refine nK3 q0 h0 RC ?_;exact⟨_,a1,⟨i1,false⟩,K1,rfl,nD q0,nD q1,Bo,CX⟩
     | true =>
      rw[e1,cond_true] at CX;have RC:=HX (k:=kk) (n:=n) D6 ag e1;have hle:=lG (tk:=tk) (s:=⟨i1,false⟩) (w:=[44]) ag e1;have Lf:=hE.set _ _ _ _ _ Bo hle;cases k' with
      | zero=>cases CX
      | succ k' =>
       simp only[qO,au3] at CX;obtain⟨r2,h2,Mp⟩:=CX;obtain⟨K2,gV,Ts⟩:=hE.el _ _ _ _ _ Lf ah h2;have xp:=hE.sz _ _ _ h2;refine nK6 q0 q2 h0 RC gV @Bool.and_self ?_;exact⟨k',ah,_,r2.1,r2.2,K2,rfl,nD q0,nD q1,nD q2,Ts,ah,Mp⟩
   ·rintro s ⟨T,a1,s1,K1,rfl,q0,q1,Bo,rfl⟩
    have D6:=hE.at' _ _ _ _ Bo;have h0:=D6.at';unfold nK at h0;have C1:=zx (k:=kk) (n:=n) D6 hf;have RG:=gy (tk:=tk) hf D6.le;have ani:=D6.q.lt;obtain⟨i1,b1⟩:=s1;simp only at h0;cases b1 with
    | true =>
     refine nK2 q0 h0 ?_;exact⟨_,hE.fin _ _ _ _ _ Bo,K1,rfl,Bo⟩
    | false =>
     have Lf:=hE.set _ _ _ _ _ Bo RG;refine nK4 q0 q1 h0 C1 ?_;exact⟨_,hE.fin _ _ _ _ _ Lf,_,rfl,Lf⟩
   ·exact⟨_,r1.1,r1.2,K1,rfl,uj,uj,uj,Bo,ah,hr⟩
  obtain⟨R,hR,K',rfl,hJ'⟩:=key;exact⟨K',hR,true,hJ'⟩
end
end
section
structure Lq (tk:List Tk) (s s' : PS):Prop where
 le:s.i<=tk.length->s'.i<=tk.length
 bad:s.bad=true->s'.bad=true
 i:s.i<=s'.i
section
variable {tk:List Tk}
theorem Lq.ZO{s:PS} : Lq tk s s:=⟨id,id,Nat.le_refl _⟩
def Lq.tr{a b c:PS}(h:Lq tk a b)(k:Lq tk b c):Lq tk a c:=⟨fun x=>k.le (h.le x),fun x=>k.bad (h.bad x),avz h.i k.i⟩
def kH{s:PS}(hw:w≠[])(e:(pk (aq tk) s==w)=true):Lq tk s s.up:=⟨fun _=>lG hw e,id,Nat.le_succ _⟩
theorem B1{s:PS} : Lq tk s s.xe:=⟨id,fun _=>rfl,Nat.le_refl _⟩
def bP{s:PS}(hw:w≠[]):Lq tk s (aQ (aq tk) w s):=by
 unfold aQ;cases e:(pk (aq tk) s==w) with
 | true=>exact kH hw e
 | false=>exact B1
def dP{s:PS} : Lq tk s (aF (aq tk) s).2:=by
 unfold aF;cases e:isWord (pk (aq tk) s) with
 | true=>exact⟨fun _=>tY (fun h=>by rw[h] at e;cases e),id,Nat.le_succ _⟩
 | false=>exact B1
def Aj{s:PS}(h1:0<=least):Lq tk s (gR (aq tk) least s).2:=by
 refine⟨ae4 h1,?_,?_⟩
 ·unfold gR
  cases decide (dD (pk (aq tk) s)<least)<;>intro h<;>first|exact h|rfl
 ·unfold gR
  cases decide (dD (pk (aq tk) s)<least)
  ·exact Nat.le_succ _
  ·exact Nat.le_refl _
theorem j9{s:PS} : Lq tk s (aU (aq tk) s).2:=by
 unfold aU;cases e:(!(aF (aq tk) s).2.bad&&(pk (aq tk) (aF (aq tk) s).2==[46])) with
 | true =>
  simp only[au6] at e;exact dP.tr ((kH ag e.2).tr dP)
 | false=>exact dP
theorem ji:∀ (n:Nat) (s:PS) (r:Wd × PS),nE (aq tk) n s=some r->Lq tk s r.2
 | 0,_,_,h=>by cases h
 | n+1,s,r,h=>by
  unfold nE at h;cases e1:(pk (aq tk) s==xX) with
  | true=>rw[e1,cond_true] at h;cases h;exact kH aI e1
  | false =>
  cases e2:(pk (aq tk) s==sH) with
  | true=>rw[e1,e2,cond_false,cond_true] at h;cases h;exact kH aI e2
  | false =>
  cases e3:(pk (aq tk) s==iN) with
  | true =>
   rw[e1,e2,e3,cond_false,cond_false,cond_true] at h;simp only[au2] at h;obtain⟨q,hq,rfl⟩:=h;exact (kH aI e3).tr ((bP ag).tr ((ji n _ q hq).tr (bP ag)))
  | false =>
   grind [j9]
def xB{n:Nat}{s:PS}{r:Wd × PS}(h:jD (aq tk) n s=some r):Lq tk s r.2:=by
 unfold jD at h;simp only[au2] at h;obtain⟨q,hq,rfl⟩:=h;exact (bP ag).tr ((ji n _ q hq).tr (bP ag))
def Di{α:Type}{elem:α->PS->Option (α × PS)}{fin:ay}(hf:fin≠[])(hE:∀ a s r,elem a s=some r->Lq tk s r.2):∀ (k:Nat) (a:α) (s:PS) (r:α × PS),qO (aq tk) elem fin k a s=some r->Lq tk s r.2
 | 0,_,_,_,h=>by cases h
 | k+1,a,s,r,h=>by
  simp only[qO,au3] at h;obtain⟨q,hq,h⟩:=h;have h1:=hE _ _ _ hq;cases e:(!q.2.bad&&(pk (aq tk) q.2==[44])) with
  | true =>
   rw[e,cond_true] at h;simp only[au6] at e;exact h1.tr ((kH ag e.2).tr (Di hf hE k _ _ r h))
  | false =>
   rw[e,cond_false] at h;cases h;cases hb:q.2.bad with
   | true=>simp only[cond_true];exact h1
   | false=>simp only[cond_false];exact h1.tr (bP hf)
def mX{α:Type}{elem:α->PS->Option (α × PS)}{fin:ay}(hf:fin≠[])(hE:∀ a s r,elem a s=some r->Lq tk s r.2){k:Nat}{a:α}{s:PS}{r:α × PS}(h:nB (aq tk) elem fin k a s=some r):Lq tk s r.2:=by
 unfold nB at h;cases e:(pk (aq tk) s==fin) with
 | true=>rw[e,cond_true] at h;cases h;exact kH hf e
 | false=>rw[e,cond_false] at h;exact Di hf hE k a s r h
def gZ(tk:List Tk)(E:EP):Prop:=∀ s r,E s=some r->Lq tk s r.2
variable {E B:EP}
def jh(hE:gZ tk E){s:PS}{r:List Tm × PS}(h:rm E ks s=some r):Lq tk s r.2:=by
 unfold rm at h;simp only[au2] at h;obtain⟨q,hq,rfl⟩:=h;exact hE _ _ hq
def gG(hE:gZ tk E)(hw:w≠[]){s:PS}{r:List Tm × PS}(h:nG (aq tk) E w ks s=some r):Lq tk s r.2:=by
 unfold nG at h;cases e:(aQ (aq tk) w s).bad with
 | true=>rw[e,cond_true] at h;cases h;exact bP hw
 | false=>rw[e,cond_false] at h;exact (bP hw).tr (jh hE h)
def y6(hE:gZ tk E){a:List ay × List Tm}{s:PS}{r:(List ay × List Tm) × PS}(h:Ag (aq tk) E a s=some r):Lq tk s r.2:=by
 unfold Ag at h;simp only[au2] at h;obtain⟨q,hq,rfl⟩:=h;exact dP.tr ((bP ag).tr (jh hE hq))
def Kg{s:PS} : Lq tk s (oe (aq tk) s).2:=by
 unfold oe;cases e:(aQ (aq tk) [44] (aF (aq tk) s).2).bad with
 | true=>exact dP.tr (bP ag)
 | false=>exact dP.tr ((bP ag).tr dP)
def OI(hE:gZ tk E)(hB:gZ tk B):gZ tk (qG (aq tk) E B):=by
 intro s r h;unfold qG at h;cases e1:(pk (aq tk) s==Hf) with
 | true =>
  rw[e1,cond_true] at h;simp only[au3,au2] at h;obtain⟨a,ha,b,hb,c,hc,rfl⟩:=h;exact (kH aI e1).tr ((jh hE ha).tr ((gG hE aI hb).tr (gG hE aI hc)))
 | false =>
 cases e2:(pk (aq tk) s==xZ) with
 | true =>
  rw[e1,e2,cond_false,cond_true] at h;simp only[au3,au2] at h;obtain⟨a,ha,c,hc,rfl⟩:=h;exact (kH aI e2).tr (dP.tr ((gG hE aI ha).tr (gG hE aI hc)))
 | false =>
 cases e3:(pk (aq tk) s==sJ) with
 | true =>
  rw[e1,e2,e3,cond_false,cond_false,cond_true] at h;simp only[au3,au2] at h;obtain⟨a,ha,b,hb,c,hc,rfl⟩:=h;exact (kH aI e3).tr (Kg.tr ((gG hE aI ha).tr ((gG hE aI hb).tr (gG hE aI hc))))
 | false =>
  rw[e1,e2,e3,cond_false,cond_false,cond_false] at h;exact hB _ _ h
def rW(hE:gZ tk E):∀ (k:Nat) (a:List ay × List Tm) (s:PS) (r:(List ay × List Tm) × PS),nJ (aq tk) E k a s=some r->Lq tk s r.2
 | 0,_,_,_,h=>by cases h
 | k+1,a,s,r,h=>by
  simp only[nJ,au3] at h;obtain⟨q,hq,h⟩:=h;have h1:=(dP (tk:=tk) (s:=s)).tr (dP.tr ((bP ag).tr (hE _ _ hq)));cases e:(!q.2.bad&&(pk (aq tk) q.2==[44])) with
  | true =>
   rw[e,cond_true] at h;simp only[au6] at e;exact h1.tr ((kH ag e.2).tr (rW hE k _ _ r h))
  | false=>rw[e,cond_false] at h;cases h;exact h1
def U1(hE:gZ tk E){n:Nat} : gZ tk (oC (aq tk) n E):=by
 intro s r h;unfold oC at h;simp only[au3,au2] at h;obtain⟨a,ha,q,hq,rfl⟩:=h;exact j9.tr ((bP ag).tr ((hE _ _ ha).tr ((bP ag).tr ((bP ag).tr ((rW hE _ _ _ _ hq).tr (bP ag))))))
def Gy(hE:gZ tk E){nm:ay} : gZ tk (pX (aq tk) E nm):=by
 intro s r h;unfold pX at h;cases e:(pk (aq tk) (aF (aq tk) s).2==[91]) with
 | true =>
  rw[e,cond_true] at h;simp only[au2] at h;obtain⟨q,hq,rfl⟩:=h;exact dP.tr ((kH ag e).tr ((hE _ _ hq).tr (bP ag)))
 | false =>
  rw[e,cond_false] at h;simp only[au2] at h;obtain⟨q,hq,rfl⟩:=h;exact dP.tr ((bP ag).tr ((hE _ _ hq).tr (bP ag)))
def U2(hE:gZ tk E){n:Nat} : gZ tk (mZ (aq tk) n E):=by
 intro s r h;unfold mZ at h;simp only at h;cases e1:(pk (aq tk) (aU (aq tk) s).2==[40]) with
 | true =>
  rw[e1,cond_true] at h;simp only[au2] at h;obtain⟨q,hq,rfl⟩:=h;exact j9.tr ((kH ag e1).tr (mX ag (fun a s r h=>jh hE h) hq))
 | false =>
 cases e2:(pk (aq tk) (aU (aq tk) s).2==[123]) with
 | true =>
  rw[e1,e2,cond_false,cond_true] at h;simp only[au2] at h;obtain⟨q,hq,rfl⟩:=h;exact j9.tr ((kH ag e2).tr (mX ag (fun a s r h=>y6 hE h) hq))
 | false =>
 cases e3:(pk (aq tk) (aU (aq tk) s).2==[58]) with
 | true =>
  rw[e1,e2,e3,cond_false,cond_false,cond_true] at h;exact j9.tr ((kH ag e3).tr (Gy hE _ _ h))
 | false =>
  rw[e1,e2,e3,cond_false,cond_false,cond_false] at h;cases e4:decide (0<=dp 46 0 (aU (aq tk) s).1) with
  | true=>rw[e4,cond_true] at h;cases h;exact j9.tr B1
  | false=>rw[e4,cond_false] at h;cases h;exact j9
def OH(hE:gZ tk E){n:Nat} : gZ tk (mS (aq tk) n E):=by
 intro s r h;unfold mS at h;cases e1:decide (0<=dD (pk (aq tk) s)) with
 | true=>rw[e1,cond_true] at h;cases h;exact Aj ah
 | false =>
 cases e2:(pk (aq tk) s==[45]) with
 | true=>rw[e1,e2,cond_false,cond_true] at h;cases h;exact (kH ag e2).tr (Aj ah)
 | false =>
 cases e3:(pk (aq tk) s==wT) with
 | true=>rw[e1,e2,e3,cond_false,cond_false,cond_true] at h;cases h;exact kH aI e3
 | false =>
 cases e4:(pk (aq tk) s==sI) with
 | true=>rw[e1,e2,e3,e4,cond_false,cond_false,cond_false,cond_true] at h;cases h;exact kH aI e4
 | false =>
 cases e5:(pk (aq tk) s==[40]) with
 | true =>
  rw[e1,e2,e3,e4,e5,cond_false,cond_false,cond_false,cond_false,cond_true] at h;simp only[au2] at h;obtain⟨q,hq,rfl⟩:=h;exact (kH ag e5).tr ((hE _ _ hq).tr (bP ag))
 | false =>
 cases e6:(pk (aq tk) s==iN) with
 | true =>
  rw[e1,e2,e3,e4,e5,e6,cond_false,cond_false,cond_false,cond_false,cond_false,cond_true] at h;simp only[au3,au2] at h;obtain⟨w,hw,q,hq,rfl⟩:=h;exact (kH aI e6).tr ((xB hw).tr ((bP ag).tr (mX ag (fun a s r h=>jh hE h) hq)))
 | false =>
 cases e7:(pk (aq tk) s==nV) with
 | true =>
  rw[e1,e2,e3,e4,e5,e6,e7,cond_false,cond_false,cond_false,cond_false,cond_false,cond_false,cond_true] at h;exact (kH aI e7).tr (U1 hE _ _ h)
 | false =>
  rw[e1,e2,e3,e4,e5,e6,e7,cond_false,cond_false,cond_false,cond_false,cond_false,cond_false,cond_false] at h;exact U2 hE _ _ h
def Ku:By []=none:=aI
def tA(hB:gZ tk B){lv:Int} : ∀ (k:Nat) (t:Tm) (s:PS) (r:Tm × PS),uz (aq tk) B lv k t s=some r->Lq tk s r.2
 | 0,_,_,_,h=>by cases h
 | k+1,t,s,r,h=>by
  unfold uz at h;cases hb:s.bad with
  | true=>rw[hb,cond_true] at h;cases h;exact .ZO
  | false =>
   rw[hb,cond_false] at h;cases ho:By (pk (aq tk) s) with
   | none=>rw[ho] at h;cases h;exact .ZO
   | some x =>
    obtain⟨o,l⟩:=x;rw[ho] at h;simp only at h;cases hl:decide (l=lv) with
    | false=>rw[hl,cond_false] at h;cases h;exact .ZO
    | true =>
     rw[hl,cond_true] at h;simp only[au3] at h;obtain⟨q,hq,h⟩:=h;have hu:Lq tk s s.up:=⟨fun _=>tY (fun h=>by rw[h,Ku] at ho;cases ho),id,Nat.le_succ _⟩
     cases h3:decide (lv=3) with
     | true=>rw[h3,cond_true] at h;cases h;exact hu.tr (hB _ q hq)
     | false=>rw[h3,cond_false] at h;exact hu.tr ((hB _ _ hq).tr (tA hB k _ _ r h))
def iO:∀ (n l:Nat),gZ tk (pE (aq tk) n l)
 | 0,_,_,_,h=>by cases h
 | n+1,l,s,r,h=>by
  unfold pE at h;split at h
  ·exact OI (iO n 0) (iO n 1) _ _ h
  ·cases e1:(pk (aq tk) s==tP) with
   | true =>
    rw[e1,cond_true] at h;simp only[au2] at h;obtain⟨q,hq,rfl⟩:=h;exact (kH aI e1).tr (iO n 7 _ q hq)
   | false =>
   cases e2:(pk (aq tk) s==uq) with
   | true =>
    rw[e1,e2,cond_false,cond_true] at h;simp only[au2] at h;obtain⟨q,hq,rfl⟩:=h;exact (kH aI e2).tr (iO n 7 _ q hq)
   | false =>
    rw[e1,e2,cond_false,cond_false] at h;exact OH (iO n 0) _ _ h
  ·simp only[au3] at h
   obtain⟨q,hq,h⟩:=h;exact (iO n _ _ q hq).tr (tA (iO n _) _ _ _ _ h)
end
end
def lR(K:ae)(base tl z:Nat)(v:AV)(rows:List (List AV)):Prop :=
 (v=.ar/\rows=[])\/∃ l,v=.sref l 0 rows.length z/\tl<l/\base<=l/\K[l]?=some (.box bD rows.flatten)/\rows≠[]
theorem kW{z:Nat} : ∀ {rows:List (List AV)},(∀ r∈rows,r.length=z)->rows.flatten.length=rows.length*z
 | [],_=>ag
 | r :: q,h=>by
  grind [kW]
theorem lR.add{K:ae}{base tl z c:Nat}{cs:List AV}(h:lR K base tl z v rows)(pM:K[tl]?=some (.bZ cs))(hc:cs[c]?=some v)(hz:row.length=z)(hn:rows.length<=2000000)(hw:∀ r∈rows,r.length=z)(hb:base<=K.length) :
  ∃ K',uw K tl c z row=some K'/\K'[tl]?=some (.bZ (cs.set c (.sref K.length 0 (rows.length+1) z)))/\lR K' base tl z (.sref K.length 0 (rows.length+1) z) (rows++[row])/\K'.length=K.length+1 /\
   ∀ j,j<K.length->j≠tl->(∀ n',v≠.sref j 0 n' z)->K'[j]?=K[j]?:=by
 have aZ:tl<K.length:=(au7.1 pM).1
 rcases h with ⟨rfl,rfl⟩|⟨l,rfl,h1,h2,h3,h4⟩
 ·refine⟨K.set tl (.bZ (cs.set c (.sref K.length 0 1 z)))++[.box bD row],?_,?_,?_,ag,?_⟩
  ·unfold uw;simp only[pM,hc]
  ·grind
  ·exact .inr ⟨K.length,rfl,aZ,hb,ag,ag⟩
  ·grind
 ·have ru:l<K.length:=(au7.1 h3).1
  refine⟨(K.set l .dead).set tl (.bZ (cs.set c (.sref K.length 0 (rows.length+1) z)))++[.box bD (rows.flatten++row)],?_,?_,?_,ag,?_⟩
  ·unfold uw
   have e:(Nat.beq bD bD&&Nat.beq z z&&Nat.beq rows.flatten.length (rows.length*z)&&Nat.ble rows.length 2000000&&Nat.blt tl l&&Nat.beq row.length z)=true:=by
    simp only[au6,axe,avv,avn,kW hw,hz,av',awX];exact⟨hn,h1⟩
   grind
  ·grind
  ·refine .inr ⟨K.length,by rw[List.length_append];rfl,aZ,hb,?_,ag⟩
   grind
  ·grind
def lR.Af{K:ae}{base tl z:Nat}(h:lR K base tl z v rows)(hk:∀ l n,v=.sref l 0 n z->K'[l]?=K[l]?):lR K' base tl z v rows:=by
 rcases h with h|⟨l,rfl,h1,h2,h3,h4⟩
 ·exact .inl h
 ·exact .inr ⟨l,rfl,h1,h2,by rw[hk l _ rfl];exact h3,h4⟩
def lR.base{K:ae}{base aaN tl z:Nat}(h:lR K base tl z v rows)(hb:aaN<=base):lR K aaN tl z v rows:=by
 rcases h with h|⟨l,rfl,h1,h2,h3,h4⟩
 ·exact .inl h
 ·exact .inr ⟨l,rfl,h1,ah,h3,h4⟩
structure TB (K:ae) (base tl:Nat) (c0:List AV) (ks:List Tm) (ns:List ay):Prop where
 ex:∃ kc nc,K[tl]?=some (.bZ (c0++[kc,nc]))/\lR K base tl 8 kc (aC ks)/\lR K base tl 1 nc (strs ns)
 six:c0.length=6
def LA{K:ae}{base tl:Nat}{l:Nat}{m n:Nat}(h1:lR K base tl 8 (.sref l 0 m 8) (aC ks))(h2:lR K base tl 1 (.sref l 0 n 1) (strs ns)):False:=by
 rcases h1 with ⟨h,_⟩|⟨l1,h,_,_,h3,h4⟩
 ·cases h
 ·injection h with h;subst h
  rcases h2 with ⟨h,_⟩|⟨l2,h,_,_,k3,k4⟩
  ·cases h
  ·injection h with h;subst h
   rw[h3] at k3;injection k3 with k3
   injection k3 with _ k3
   cases ks with
   | nil=>exact h4 rfl
   | cons t r =>
    cases ns with
    | nil=>exact k4 rfl
    | cons x y =>
     simp only[aC,ai,strs,avm,avy,avK] at k3;cases k3
theorem TB.QG{K:ae}{base tl:Nat}(h:TB K base tl c0 ks ns)(t:Tm)(hn:ks.length<=2000000)(hb:base<=K.length) :
  ∃ K',uw K tl 6 8 (aM t)=some K'/\TB K' base tl c0 (ks++[t]) ns/\K'.length=K.length+1/\∀ j,j<base->j≠tl->K'[j]?=K[j]?:=by
 obtain⟨⟨kc,nc,h1,h2,h3⟩,h6⟩:=h;have hk:(c0++[kc,nc])[6]?=some kc:=by rw[List.getElem?_append_right ah,h6];rfl
 obtain⟨K',e1,e2,e3,e4,e5⟩:=h2.add h1 hk jk (by rw[cO];exact hn) (fun r hr=>by rw[ki] at hr;obtain⟨u,_,rfl⟩:=List.mem_map.1 hr;exact jk) hb
 have hs:(c0++[kc,nc]).set 6 (.sref K.length 0 ((aC ks).length+1) 8)=c0++[.sref K.length 0 ((aC ks).length+1) 8,nc]:=by
  grind
 rw[hs] at e2;have ql:tl<K.length:=(au7.1 h1).1;refine⟨K',e1,⟨⟨_,nc,e2,?_,h3.Af fun l n hv=>?_⟩,h6⟩,e4,fun j hj dk=>?_⟩
 ·grind [ki]
 ·subst hv
  rcases h3 with ⟨h,_⟩|⟨l',h,q1,q2,q3,q4⟩
  ·cases h
  ·injection h with h;subst h
   refine e5 l (au7.1 q3).1 ah fun n' hv=>?_
   subst hv;exact LA h2 (n:=(strs ns).length) (.inr ⟨l,rfl,q1,q2,q3,q4⟩)
 ·refine e5 j ah dk fun n' hv=>?_
  subst hv
  rcases h2 with ⟨h,_⟩|⟨l',h,q1,q2,q3,q4⟩
  ·cases h
  ·injection h with h;omega
theorem TB.nam{K:ae}{base tl:Nat}(h:TB K base tl c0 ks ns)(w:ay)(hn:ns.length<=2000000)(hb:base<=K.length) :
  ∃ K',uw K tl 7 1 [.str w]=some K'/\TB K' base tl c0 ks (ns++[w])/\K'.length=K.length+1/\∀ j,j<base->j≠tl->K'[j]?=K[j]?:=by
 obtain⟨⟨kc,nc,h1,h2,h3⟩,h6⟩:=h;have hk:(c0++[kc,nc])[7]?=some nc:=by rw[List.getElem?_append_right ah,h6];rfl
 obtain⟨K',e1,e2,e3,e4,e5⟩:=h3.add (row:=[.str w]) h1 hk rfl (by rw[bV];exact hn) (fun r hr=>by unfold strs at hr;obtain⟨u,_,rfl⟩:=List.mem_map.1 hr;rfl) hb
 have hs:(c0++[kc,nc]).set 7 (.sref K.length 0 ((strs ns).length+1) 1)=c0++[kc,.sref K.length 0 ((strs ns).length+1) 1]:=by
  grind
 rw[hs] at e2;have ql:tl<K.length:=(au7.1 h1).1;refine⟨K',e1,⟨⟨kc,_,e2,h2.Af fun l n hv=>?_,?_⟩,h6⟩,e4,fun j hj dk=>?_⟩
 ·subst hv
  rcases h2 with ⟨h,_⟩|⟨l',h,q1,q2,q3,q4⟩
  ·cases h
  ·injection h with h;subst h
   refine e5 l (au7.1 q3).1 ah fun n' hv=>?_
   subst hv;exact LA (m:=(aC ks).length) (.inr ⟨l,rfl,q1,q2,q3,q4⟩) h3
 ·have:strs (ns++[w])=strs ns++[[.str w]]:=by unfold strs;rw[List.map_append];rfl
  rw[this];exact e3
 ·refine e5 j ah dk fun n' hv=>?_
  subst hv
  rcases h3 with ⟨h,_⟩|⟨l',h,q1,q2,q3,q4⟩
  ·cases h
  ·injection h with h;omega
theorem TB.Af{K:ae}{base tl:Nat}(h:TB K base tl c0 ks ns)(hk:∀ j,tl<=j->K'[j]?=K[j]?):TB K' base tl c0 ks ns:=by
 obtain⟨⟨kc,nc,h1,h2,h3⟩,h6⟩:=h;refine⟨⟨kc,nc,by rw[hk tl (Nat.le_refl _)];exact h1,h2.Af fun l n hv=>?_,h3.Af fun l n hv=>?_⟩,h6⟩
 ·subst hv
  rcases h2 with ⟨h,_⟩|⟨l',h,q1,q2,q3,q4⟩
  ·cases h
  ·grind
 ·subst hv
  rcases h3 with ⟨h,_⟩|⟨l',h,q1,q2,q3,q4⟩
  ·cases h
  ·grind
structure JT (tk:List Tk) (pl base tl:Nat) (c0:List AV) (K0:ae) (b:Bool) (ns:List ay) (ks:List Tm) (s:PS) (K:ae):Prop where
 p:jx tk pl s K
 t:TB K base tl c0 ks ns
 lt:pl<tl
 tb:tl<base
 bk:base<=K.length
 b:b=true->ks≠[]
 old:∀ j,j<base->j≠tl->j≠pl->K[j]?=K0[j]?
def JT.set{tk:List Tk}{pl base tl:Nat}{s s':PS}{K:ae}(h:JT tk pl base tl c0 K0 b ns ks s K)(hl:s'.i<=tk.length):JT tk pl base tl c0 K0 b ns ks s' (aJ tk pl s' K) :=
 ⟨h.p.to hl,h.t.Af fun j hj=>dH (by have:=h.lt;omega),h.lt,h.tb,by rw[bF];exact h.bk,h.b,fun j h1 h2 h3=>by rw[dH (fun e=>h3 e.symm)];exact h.old j h1 h2 h3⟩
def JT.fin{tk:List Tk}{pl base tl:Nat}{s:PS}{K:ae}(hJ:JT tk pl base tl c0 K0 true ns ks s K) : finish base FB ⟨T,K,pl,gen⟩=some (.tuple [],some ⟨K,pl⟩):=by
 obtain⟨⟨kc,nc,h1,h2,h3⟩,h6⟩:=hJ.t;refine N5 rfl rfl (OO (tl:=tl) (awG hJ.lt) hJ.tb h1 ?_)
 rcases h2 with ⟨_,h⟩|⟨l,rfl,q1,q2,q3,q4⟩
 ·have:=hJ.b rfl
  cases ks with
  | nil=>exact absurd rfl this
  | cons a r=>rw[aC] at h;cases h
 ·cases hb:(c0++[.sref l 0 (aC ks).length 8,nc]).all (AV.bw base) with
  | false=>rfl
  | true =>
   rw[ava] at hb;have:=hb (.sref l 0 (aC ks).length 8) ag
   simp only[AV.bw,avn] at this;omega
def JT.QG{n:Nat}{tk:List Tk}{pl base tl:Nat}{s s':PS}{K:ae}{t:Tm}(h:JT tk pl base tl c0 K0 b ns ks s K)(hn:n<=1000000)(gD:ks.length<=1000000)(he:pE (aq tk) n 0 s=some (t,s')) :
  ∃ K',uw (aJ tk pl s' K) tl 6 8 (aM t)=some K'/\JT tk pl base tl c0 K0 true ns (ks++[t]) s' K':=by
 have hle:=(iO n 0 _ _ he).le h.p.le;have h1:=h.set hle;obtain⟨K',e1,e2,e3,e4⟩:=h1.t.QG t ah h1.bk;obtain⟨kc,m,es,Hd,cs,hA,hH⟩:=mQ jk e1;have hp:=hA.pat h1.p h.lt (row:=aM t) (n':=m+1);refine⟨K',e1,⟨by rw[hH];exact hp,e2,h.lt,h.tb,by rw[e3];have:=h1.bk;omega,fun _=>ag,fun j a1 a2 a3=>by rw[e4 j a1 a2];exact h1.old j a1 a2 a3⟩⟩
def JT.nam{tk:List Tk}{pl base tl:Nat}{s:PS}{K:ae}(h:JT tk pl base tl c0 K0 b ns ks s K)(w:ay)(A1:ns.length<=1000000) :
  ∃ K',uw K tl 7 1 [.str w]=some K'/\JT tk pl base tl c0 K0 b (ns++[w]) ks s K':=by
 obtain⟨K',e1,e2,e3,e4⟩:=h.t.nam w ah h.bk;obtain⟨kc,m,es,Hd,cs,hA,hH⟩:=mQ (z:=1) (row:=[.str w]) rfl e1;have hp:=hA.pat h.p h.lt (row:=[.str w]) (n':=m+1);refine⟨K',e1,⟨by rw[hH];exact hp,e2,h.lt,h.tb,by rw[e3];have:=h.bk;omega,h.b,fun j a1 a2 a3=>by rw[e4 j a1 a2];exact h.old j a1 a2 a3⟩⟩
def YZ{k n:Nat}(hk:2<=k){H:ae}(h:Ca n args H x):aj (PA k n) 191 args H=some x:=by
 have ho:(PA k n).ov 191=some (mg (Ca n)):=by
  have:Nat.ble 2 k=true:=by rw[avv];exact hk
  show (bif Nat.ble 2 k then _ else _)=_
  rw[this];rfl
 refine gU ho (pZ (fun _ hy=>Q8 h hy) h) ?_
 cases h;rfl
def S5{k n:Nat}(hk:2<=k){H:ae}(h:zL n args H x):aj (PA k n) 134 args H=some x:=by
 have ho:(PA k n).ov 134=some (mg (zL n)):=by
  have:Nat.ble 2 k=true:=by rw[avv];exact hk
  show (bif Nat.ble 2 k then _ else _)=_
  rw[this];rfl
 refine gU ho (pZ (fun _ hy=>Ra h hy) h) ?_
 cases h<;>rfl
theorem UP{n:Nat}(hn:n<=1000000){tk:List Tk}{pl base tl:Nat} :
  G9 2 n tk pl base 173 [.agg [.ref pl 0,.ref tl 0]] [] (rm (pE (aq tk) n 0)) (fun b ks s K=>JT tk pl base tl c0 K0 b [] ks s K) List.length where
 at':=fun _ _ _ _ h=>h.p
 set:=fun _ _ _ _ _ h hl=>h.set hl
 el:=fun b ks s K r h hz he=>by
  unfold rm at he;simp only[au2] at he;obtain⟨⟨t,s'⟩,hq,rfl⟩:=he;obtain⟨K',e1,e2⟩:=h.QG hn hz hq;exact⟨K',YC (k:=2) ah (xW.mk (tl:=tl) h.p hn h.lt hq e1),e2⟩
 sz:=fun ks s r he=>by
  unfold rm at he;simp only[au2] at he
  grind
 fin:=fun _ _ _ _ _ h=>h.fin
 fc:=rfl
theorem YD{n:Nat}(hn:n<=1000000){tk:List Tk}{pl base tl pv cv:Nat}(hv:K0[pv]?=some (.box 97 [.ref pl 0]))(hc:K0[cv]?=some (.box 1 [.func (.func 173) [.agg [.ref pl 0,.ref tl 0]] []]))(h1:pl<pv)(h2:pv<tl)(h3:tl<cv)(h4:cv<base) :
  G9 2 n tk pl base 191 [] [.ref tl 0,.ref pv 0,.ref cv 0] (Ag (aq tk) (pE (aq tk) n 0)) (fun b a s K=>JT tk pl base tl c0 K0 b a.1 a.2 s K/\a.1.length=a.2.length) (fun a=>a.2.length) where
 at':=fun _ _ _ _ h=>h.1.p
 set:=fun _ _ _ _ _ h hl=>⟨h.1.set hl,h.2⟩
 el:=fun b a s K r h hz he=>by
  obtain⟨h,hlen⟩:=h;unfold Ag rm at he;simp only[au2] at he;obtain⟨q,⟨⟨t,s'⟩,hq,rfl⟩,rfl⟩:=he;have aij:=jY (tk:=tk) h.p.le;obtain⟨K1,e1,e2⟩:=(h.set (s':=(aF (aq tk) s).2) aij).nam (aF (aq tk) s).1 ah;have Ml:=gy (tk:=tk) (w:=[61]) ag aij;have e3:=e2.set (s':=aQ (aq tk) [61] (aF (aq tk) s).2) Ml;obtain⟨K',e4,e5⟩:=e3.QG hn hz hq;rw[fG] at e4;refine⟨K',YZ (k:=2) ah (Ca.mk (tl:=tl) h.p hn ?_ ?_ h1 h2 h3 e1 hq e4),e5,?_⟩
  ·rw[h.old pv ah ah ah];exact hv
  ·rw[h.old cv ah ah ah];exact hc
  ·simp[hlen]
 sz:=fun a s r he=>by
  unfold Ag rm at he;simp only[au2] at he
  grind
 fin:=fun _ _ _ _ _ h=>h.1.fin
 fc:=rfl
def RL(K:ae)(base tl z:Nat)(v:AV)(rows:List (List AV)):Prop:=lR K base tl z v rows\/v=.slice rows false
def AJ{z:Nat} : ∀ {rows:List (List AV)},(∀ r∈rows,r.length=z)->chunks z rows.length rows.flatten=rows
 | [],_=>rfl
 | r :: q,h=>by
  have hr:=h r ag;rw[List.length_cons,avy,chunks,awy hr,awE hr,AJ fun x hx=>h x (zo hx)]
def UM(x:AV):Prop:=(∃ n,x=.int .i64 n)\/(∃ s,x=.str s)\/∃ e,x=.slice e false
def Ob{K:ae}{base tl z:Nat}(hz:0<z)(hw:∀ r∈rows,r.length=z)(hk:∀ r∈rows,∀ x∈r,UM x)(h:RL K base tl z v rows) :
  (v=.ar/\rows=[]\/v=.slice rows false\/∃ l n,v=.sref l 0 n z/\base<=l)/\(gu K base Fp v.drop=.slice rows false\/gu K base Fp v.drop=.ar/\rows=[]):=by
 rcases h with (⟨rfl,rfl⟩|⟨l,rfl,h1,h2,h3,h4⟩)|rfl
 ·exact⟨.inl ⟨rfl,rfl⟩,.inr ⟨rfl,rfl⟩⟩
 ·refine⟨.inr (.inr ⟨l,_,rfl,h2⟩),.inl ?_⟩
  have hb:Nat.ble base l=true:=by rw[avv];exact h2
  have ft:∀ x∈rows.flatten,gu K base 2 x.drop=x/\((gu K base 2 x.drop).plain&&kK x)=true:=by
   intro x hx;obtain⟨r,hr,hx⟩:=aw4.1 hx
   rcases hk r hr x hx with ⟨n,rfl⟩|⟨s,rfl⟩|⟨e,rfl⟩<;>exact⟨rfl,rfl⟩
  have am4:(rows.flatten.map fun x=>gu K base 2 x.drop)=rows.flatten:=by
   conv=>rhs;rw[<- axX rows.flatten]
   exact List.map_congr_left fun x hx=>(ft x hx).1
  have Rz:(rows.flatten.all fun x=>(gu K base 2 x.drop).plain&&kK x)=true:=ava.2 fun x hx=>(ft x hx).2
  have hc:(Nat.blt 0 z&&Nat.ble (0+rows.length*z) rows.flatten.length&&(rows.flatten.all fun x=>(gu K base 2 x.drop).plain&&kK x))=true:=by
   rw[Rz,kW hw]
   simp_all
  show gu K base 3 (.sref l 0 rows.length z)=_
  rw[gu];simp only[hb,cond_true,h3,au9,pY,hc,am4,List.drop_zero,AJ hw]
 ·exact⟨.inr (.inl rfl),.inl rfl⟩
def aeG : ∀ r∈aC ks,∀ x∈r,UM x:=by
 intro r hr x hx;rw[ki] at hr;obtain⟨t,_,rfl⟩:=List.mem_map.1 hr;rw[ai] at hx;simp only[avs,avQ,aww] at hx
 rcases hx with rfl|rfl|rfl|rfl|rfl|rfl|rfl|rfl
 ·exact .inl ⟨_,rfl⟩
 ·exact .inl ⟨_,rfl⟩
 ·exact .inr (.inl ⟨_,rfl⟩)
 ·exact .inr (.inl ⟨_,rfl⟩)
 ·exact .inr (.inl ⟨_,rfl⟩)
 all_goals exact .inr (.inr ⟨_,rfl⟩)
def aeF : ∀ r∈strs ns,∀ x∈r,UM x:=by
 intro r hr x hx;unfold strs at hr;obtain⟨t,_,rfl⟩:=List.mem_map.1 hr;simp only[avs,avQ,aww] at hx;subst hx;exact .inr (.inl ⟨_,rfl⟩)
def Tg{ra:Nat}(hr:fn.results=[.cell ra true 8])(h7:fn.muts.elem 777777=true)(h8:fn.muts.elem 888888=false){s:AS}{base tl g:Nat}{kd nn:Int}{a f wn:ay}{wc kc nc:AV}{wk:List Wd}
  (hT:s.T ra=.lbox g [.int .i64 kd,.int .i64 nn,.str a,.str f,.str wn,wc,kc,nc]) (hwc:wc=.ar/\wk=[]\/wc=.slice (aH wk) false) (hk:RL s.H base tl 8 kc (aC ks)) (hn:RL s.H base tl 1 nc (strs ns))
  (ho:kB base s=true) (xT:s.lo<base):finish base fn s=some (.agg (aM (.mk kd nn a f wn wk ks ns)),some ⟨s.H.take base,s.lo⟩):=by
 obtain⟨k1,k2⟩:=Ob ah (fun r hr=>by rw[ki] at hr;obtain⟨u,_,rfl⟩:=List.mem_map.1 hr;exact jk) aeG hk
 obtain⟨n1',n2'⟩:=Ob ah (fun r hr=>by unfold strs at hr;obtain⟨u,_,rfl⟩:=List.mem_map.1 hr;rfl) aeF hn
 have WZ:Nat.beq s.lo base=false:=ae1 ah;have bX:oG s (.cell ra true 8)=none:=rfl;have rj:iW s (.cell ra true 8)=some (.agg [.int .i64 kd,.int .i64 nn,.str a,.str f,.str wn,wc.drop,kc.drop,nc.drop]):=by
  simp only[iW,hT];rfl
 have Gq:wc.drop=wc/\wc.plain=true/\gu s.H base Fp wc=wc/\n2 wc=.slice (aH wk) false:=by
  rcases hwc with ⟨rfl,rfl⟩|rfl
  ·exact⟨rfl,rfl,rfl,rfl⟩
  ·refine⟨rfl,rfl,rfl,?_⟩
   rw[fp,Y3]
 obtain⟨w1,w2,w3,w4⟩:=Gq;have hnk:∀ v,(v=.slice (aC ks) false\/v=.ar/\aC ks=[])->n2 v=.slice (aC ks) false/\v.plain=true/\v.drop=v:=fun v hv=>by
  rcases hv with rfl|⟨rfl,h⟩
  ·exact⟨by rw[fp,Kr],rfl,rfl⟩
  ·rw[h];exact⟨rfl,rfl,rfl⟩
 have hnn:∀ v,(v=.slice (strs ns) false\/v=.ar/\strs ns=[])->n2 v=.slice (strs ns) false/\v.plain=true/\v.drop=v:=fun v hv=>by
  rcases hv with rfl|⟨rfl,h⟩
  ·exact⟨by rw[fp,Dn],rfl,rfl⟩
  ·rw[h];exact⟨rfl,rfl,rfl⟩
 have HN:∀ v:AV,v.plain=true->v.bw base=true:=fun v hv=>by
  cases v<;>first|exact hv|(simp only[AV.plain] at hv;cases hv)
 have abm:∀ kv nv:AV,n2 kv=.slice (aC ks) false->n2 nv=.slice (strs ns) false->nh (.agg [.int .i64 kd,.int .i64 nn,.str a,.str f,.str wn,wc,kv,nv])=.agg (aM (.mk kd nn a f wn wk ks ns)):=fun kv nv e1 e2=>by
  rw[cH,aM];simp only[avm,avN,dC,cG,w4,e1,e2]
 have hf1:∃ r,qI base fn s=some r/\rZ fn r=(.agg (aM (.mk kd nn a f wn wk ks ns)),some ⟨s.H.take base,s.lo⟩):=by
  unfold qI oR;rw[h8,cond_false];simp only
  by_cases Qq:AV.bw base kc.drop=true/\AV.bw base nc.drop=true
  ·have e0:iQ base fn.results s=some (.agg [.int .i64 kd,.int .i64 nn,.str a,.str f,.str wn,wc,kc.drop,nc.drop],some ⟨s.H.take base,s.lo⟩):=by
    unfold iQ;rw[hr];simp only[mC,bX,rj,au9,w1];have:AV.leaves base (.agg [.int .i64 kd,.int .i64 nn,.str a,.str f,.str wn,wc,kc.drop,nc.drop])=true:=by
     simp only[AV.leaves,AV.fu,List.all_cons,List.all_nil,Qq.1,Qq.2,HN wc w2,awb,Bool.and_self];rfl
    rw[this,cond_true,WZ,cond_false]
   rw[e0];refine⟨_,rfl,?_⟩;unfold rZ;rw[h7,cond_true];have kk:n2 kc.drop=.slice (aC ks) false:=by
    rcases k1 with ⟨rfl,h⟩|rfl|⟨l,n,rfl,h⟩
    ·exact (hnk .ar (.inr ⟨rfl,h⟩)).1
    ·exact (hnk (.slice (aC ks) false) (.inl rfl)).1
    ·have:=Qq.1;simp only[AV.drop,AV.bw,avn] at this;omega
   have nn' : n2 nc.drop=.slice (strs ns) false:=by
    rcases n1' with ⟨rfl,h⟩|rfl|⟨l,n,rfl,h⟩
    ·exact (hnn .ar (.inr ⟨rfl,h⟩)).1
    ·exact (hnn (.slice (strs ns) false) (.inl rfl)).1
    ·have:=Qq.2;simp only[AV.drop,AV.bw,avn] at this;omega
   rw[abm _ _ kk nn']
  ·have e0:iQ base fn.results s=none:=by
    unfold iQ;rw[hr];simp only[mC,bX,rj,au9,w1];have:AV.leaves base (.agg [.int .i64 kd,.int .i64 nn,.str a,.str f,.str wn,wc,kc.drop,nc.drop])=false:=by
     cases hb:AV.leaves base (.agg [.int .i64 kd,.int .i64 nn,.str a,.str f,.str wn,wc,kc.drop,nc.drop]) with
     | false=>rfl
     | true =>
      simp only[AV.leaves,AV.fu,List.all_cons,List.all_nil,awb,au6] at hb;exact absurd ⟨hb.2.2.2.2.2.2.1,hb.2.2.2.2.2.2.2⟩ Qq
    rw[this,cond_false]
   have e1:qZ base fn.results s=none:=by unfold qZ;rw[hr];rfl
   rw[e0,e1];simp only;unfold tq;rw[hr];simp only[vQ,rj,ave,au9];have e2:Ma s.H base (AV.dh (.agg [.int .i64 kd,.int .i64 nn,.str a,.str f,.str wn,wc.drop,kc.drop,nc.drop]))=.agg [.int .i64 kd,.int .i64 nn,.str a,.str f,.str wn,wc,gu s.H base Fp kc.drop,gu s.H base Fp nc.drop]:=by
    have dd:∀ v:AV,v.drop.drop=v.drop:=fun v=>by cases v<;>rfl
    rw[w1];simp only[AN,avm,avN,Ma,dd,w1,w3];rfl
   rw[e2];obtain⟨p1,p2,p3⟩:=hnk _ k2;obtain⟨q1,q2,q3⟩:=hnn _ n2';have:AV.leaves base (.agg [.int .i64 kd,.int .i64 nn,.str a,.str f,.str wn,wc,gu s.H base Fp kc.drop,gu s.H base Fp nc.drop])=true:=by
    simp only[AV.leaves,AV.fu,List.all_cons,List.all_nil,HN _ p2,HN _ q2,HN wc w2,awb,Bool.and_self];rfl
   rw[this,cond_true,WZ,cond_false];refine⟨_,rfl,?_⟩;unfold rZ;rw[h7,cond_true,abm _ _ p1 q1]
 obtain⟨r,e1,e2⟩:=hf1;unfold finish ml;rw[ho,cond_true,e1];simp only[ave,e2]
section
section
variable {k n:Nat}{tk:List Tk}{pl:Nat}{s0 s:PS}{H:ae}
def Bh(h:jx tk pl s0 H)(hs:s.i<=tk.length)(hw:w≠[]):aj (PA k n) 38 [.ref pl 0,.str w] (aJ tk pl s H)=some (.tuple [],some ⟨aJ tk pl (aQ (aq tk) w s) H,pl⟩):=cP rfl (DY h.q h.b hw hs)
def J7(h:jx tk pl s0 H)(hw:w≠[])(e:(pk (aq tk) s==w)=true):aj (PA k n) 40 [.ref pl 0,.str w] (aJ tk pl s H)=some (.bool true,some ⟨aJ tk pl s.up H,pl⟩):=cP rfl (J9 h.q h.b hw e)
def J6(h:jx tk pl s0 H)(hs:s.i<=tk.length)(e:(pk (aq tk) s==w)=false):aj (PA k n) 40 [.ref pl 0,.str w] (aJ tk pl s H)=some (.bool false,none):=cP rfl (J8 h.q h.b hs e)
def GA(h:jx tk pl s0 H)(hs:s.i<=tk.length):aj (PA k n) 39 [.ref pl 0] (aJ tk pl s H)=some (.str (aF (aq tk) s).1,some ⟨aJ tk pl (aF (aq tk) s).2 H,pl⟩):=cP rfl (vF h.q h.b hs)
def N1(h:jx tk pl s0 H)(hn:n<=1000000)(hs:s.i<=tk.length){t:Tm}{s':PS}(he:pE (aq tk) n 0 s=some (t,s')):aj (PA k n) 91 [.ref pl 0] (aJ tk pl s H)=some (.agg (aM t),some ⟨aJ tk pl s' H,pl⟩):=by
 have:=N2 (k:=k) (h.to hs) hn he
 rwa [fG] at this
def Xj(h:jx tk pl s0 H):(aJ tk pl s H)[pl]?=some (.box 99 [.slice (tk.map gN) false,.int .i64 s.i,.bool s.bad]):=nu h.q
end
def tX:List ay->AV
 | []=>.ar
 | a :: r=>.slice (strs (a :: r)) true
def NI{xs:List ay}{o:Bool}(h:xs.length<=1000):aG false 1 16 (.slice [] true) (.slice (strs xs) o)=some (.slice (strs xs) true):=cw (l:=[]) dq
theorem YQ{n:Nat}{tk:List Tk}{pl:Nat}{s s':PS}{H:ae}{t:Tm}(h:jx tk pl s H)(hn:n<=1000000)(he:oC (aq tk) n (pE (aq tk) n 0) s=some (t,s')) :
  aj (PA 2 n) 174 [.ref pl 0] H=some (.agg (aM t),some ⟨aJ tk pl s' H,pl⟩):=by
 unfold oC at he;simp only[au3,au2] at he;obtain⟨⟨t1,s3⟩,h1,⟨⟨ns,ks⟩,s6⟩,h2,he⟩:=he;injection he with e1 e2
 subst e1 e2;simp only at h2 ⊢;have gW:=h.q.lt;have hq:=Vy (k:=2) (n:=n) h;have l1:=(j9 (tk:=tk) (s:=s)).le h.le;generalize aU (aq tk) s=q at *;obtain⟨nm,s1⟩:=q;simp only at h1 hq l1;have Gq:=Bh (k:=2) (n:=n) h l1 (w:=[40]) ag;have l2:=gy (tk:=tk) (w:=[40]) ag l1;have hx:=N1 (k:=2) h hn l2 h1;have l3:=(iO n 0 _ _ h1).le l2;simp only at l3;have W4:=Bh (k:=2) (n:=n) h l3 (w:=[41]) ag;have l4:=gy (tk:=tk) (w:=[41]) ag l3;have hw3:=Bh (k:=2) (n:=n) h l4 (w:=[123]) ag;have l5:=gy (tk:=tk) (w:=[123]) ag l4;generalize aQ (aq tk) [40] s1=s2 at *;generalize aQ (aq tk) [41] s3=s4 at *;generalize aQ (aq tk) [123] s4=s5 at *;have key:∃ R,aj (PA 2 n) 174 [.ref pl 0] H=some R/\R=(.agg (aM (.mk 10 0 nm [] [] [] ks ns)),some ⟨aJ tk pl (aQ (aq tk) [125] s6) H,pl⟩):=by
  refine nF (fn:=UC) rfl rfl rfl rfl ?_;unfold UC;have et1:=ai t1;rw[et1] at hx;refine nK6 hq Gq hx W4 hw3 @ax.eq_1 ?_;refine oQ 0 (fun k' st=>∃ T Ll OE s1,st=⟨T,aJ tk pl s1 H,pl,2⟩/\T 0=.ref pl 0/\T 2=.lbox 0 [.int .i64 0,.int .i64 0,.str [],.str [],.str [],.ar,.ar,.ar]/\T 3=.lbox 1 [.int .i64 10,.int .i64 0,.str nm,.str [],.str [],.ar,.slice (aC OE) true,tX Ll] /\
     s1.i<=tk.length/\OE.length+k'<=1000001/\Ll.length+2*k'<=2000002/\nJ (aq tk) (pE (aq tk) n 0) k' (Ll,OE) s1=some ((ns,ks),s6))
    (fun st=>∃ T,st=⟨T,aJ tk pl s6 H,pl,2⟩/\T 0=.ref pl 0/\T 2=.lbox 0 [.int .i64 0,.int .i64 0,.str [],.str [],.str [],.ar,.ar,.ar]/\T 3=.lbox 1 [.int .i64 10,.int .i64 0,.str nm,.str [],.str [],.ar,.slice (aC ks) true,tX ns]/\ns≠[]/\s6.i<=tk.length) (fun _=>False) ?_ ?_ (fun _ h=>h.elim) n _ ?_
  ·rintro k' st ⟨T,Ll,OE,p0,rfl,q0,q2,q3,l0,z1,z2,hm⟩
   cases k' with
   | zero=>cases hm
   | succ k' =>
   simp only[nJ,au3] at hm;obtain⟨⟨t2,p4⟩,D9,hm⟩:=hm;have ha:=GA (k:=2) (n:=n) h l0;have la:=jY (tk:=tk) l0;have hb:=GA (k:=2) (n:=n) h la;have lb:=jY (tk:=tk) la;have hc:=Bh (k:=2) (n:=n) h lb (w:=[45,62]) ag;have lc:=gy (tk:=tk) (w:=[45,62]) ag lb;have hd:=N1 (k:=2) h hn lc D9;have ld:=(iO n 0 _ _ D9).le lc;simp only at hm ld;generalize hA:aF (aq tk) p0=A0 at *;obtain⟨a,p1⟩:=A0;simp only at *;generalize hB:aF (aq tk) p1=B0 at *;obtain⟨b,p2⟩:=B0;simp only at *;generalize aQ (aq tk) [45,62] p2=p3 at *;have h0:=Xj (s:=p4) h;have et2:=ai t2;rw[et2] at hd;have ak:aG false 8 136 (.slice (aC OE) true) (.slice [[.int .i64 t2.kind,.int .i64 t2.n,.str t2.name,.str t2.field,.str t2.wn,.slice (aH t2.wk) false,.slice (aC t2.kids) false,.slice (strs t2.names) false]] true)=some (.slice (aC (OE++[t2])) true):=aaI ah;have an:∀ x y,aG false 1 16 (.slice (strs (x :: y)) true) (.slice [[.str a],[.str b]] true)=some (.slice (strs ((x :: y)++[a,b])) true)\/¬ (Ll=x :: y):=fun x y=>by
    by_cases e:Ll=x :: y
    ·left;rw[<- e];exact cw (m:=[a,b]) dq
    ·exact .inr e
   have an0:aG false 1 16 (.slice [] true) (.slice [[.str a],[.str b]] true)=some (.slice (strs [a,b]) true):=NI (xs:=[a,b]) ag;have aqH:∀ (T' : aD),T' 0=.ref pl 0->T' 2=.lbox 0 [.int .i64 0,.int .i64 0,.str [],.str [],.str [],.ar,.ar,.ar]->T' 3=.lbox 1 [.int .i64 10,.int .i64 0,.str nm,.str [],.str [],.ar,.slice (aC (OE++[t2])) true,tX (Ll++[a,b])]->True:=fun _ _ _ _=>trivial
   have TU:Ll++[a,b]≠[]:=ag;have nc2:tX (Ll++[a,b])=.slice (strs (Ll++[a,b])) true:=by
    cases Ll with
    | nil=>rfl
    | cons x y=>rfl
   obtain⟨i4,b4⟩:=p4;simp only at h0 hm ld;have zk:(OE++[t2]).length=OE.length+1:=ag;have zn:(Ll++[a,b]).length=Ll.length+2:=ag;cases b4 with
   | true =>
    rw[av8,avt,cond_false] at hm;injection hm with hm
    injection hm with BV Li
    injection BV with BV hm3
    subst BV Li hm3;cases Ll with
    | nil =>
     simp(disch:=omega)only[aO,aa,simprocAttr,q0,q3,tX,ha,hb,hc,hd,h0,an0,ak,gr,ax,cS,cM,avD,avq,ab];exact⟨_,rfl,nD q0,nD q2,uj,TU,ld⟩
    | cons x y =>
     have an1:=(an x y).resolve_right (fun h=>h rfl)
     simp(disch:=omega)only[aO,aa,simprocAttr,q0,q3,tX,ha,hb,hc,hd,h0,an1,ak,gr,ax,cS,cM,avD,avq,ab];exact⟨_,rfl,nD q0,nD q2,uj,TU,ld⟩
   | false =>
    rw[awd,avE] at hm;cases e:(pk (aq tk) ⟨i4,false⟩==[44]) with
    | false =>
     have hi:=J6 (k:=2) (n:=n) (s:=⟨i4,false⟩) h ld e;rw[e,cond_false] at hm;injection hm with hm
     injection hm with BV Li
     injection BV with BV hm3
     subst BV Li hm3;cases Ll with
     | nil =>
      simp(disch:=omega)only[aO,aa,simprocAttr,q0,q3,tX,ha,hb,hc,hd,h0,hi,an0,ak,gr,ax,cS,cM,avD,avq,ab];exact⟨_,rfl,nD q0,nD q2,uj,TU,ld⟩
     | cons x y =>
      have an1:=(an x y).resolve_right (fun h=>h rfl)
      simp(disch:=omega)only[aO,aa,simprocAttr,q0,q3,tX,ha,hb,hc,hd,h0,hi,an1,ak,gr,ax,cS,cM,avD,avq,ab];exact⟨_,rfl,nD q0,nD q2,uj,TU,ld⟩
    | true =>
     have hi:=J7 (k:=2) (n:=n) (s:=⟨i4,false⟩) h ag e;have le:=lG (tk:=tk) (s:=⟨i4,false⟩) (w:=[44]) ag e;rw[e,cond_true] at hm;cases Ll with
     | nil =>
      simp(disch:=omega)only[aO,aa,simprocAttr,q0,q3,tX,ha,hb,hc,hd,h0,hi,an0,ak,gr,ax,cS,cM,avD,avq,ab];exact⟨k',ah,_,_,_,_,rfl,nD q0,nD q2,uj,le,ah,ah,hm⟩
     | cons x y =>
      have an1:=(an x y).resolve_right (fun h=>h rfl)
      simp(disch:=omega)only[aO,aa,simprocAttr,q0,q3,tX,ha,hb,hc,hd,h0,hi,an1,ak,gr,ax,cS,cM,avD,avq,ab];exact⟨k',ah,_,_,_,_,rfl,nD q0,nD q2,uj,le,ah,ah,hm⟩
  ·rintro st ⟨T,rfl,q0,q2,q3,dk,l6⟩
   have hw:=Bh (k:=2) (n:=n) h l6 (w:=[125]) ag;have ho:=h.q.open (tk:=tk) (s:=aQ (aq tk) [125] s6);generalize aQ (aq tk) [125] s6=s7 at *;have en:tX ns=.slice (strs ns) true:=by cases ns with|nil=>exact absurd rfl dk|cons a r=>rfl
   rw[en] at q3;exact nL6 q0 q2 q3 (j3 hw ho @dE) (j5 @cH @dC @cG @cT @fp) (j5 @Kr @Dn @aM.eq_1 @aH.eq_1 @ax.eq_1) tv
  ·refine⟨_,[],[t1],s5,rfl,uj,uj,by simp(disch:=omega)only[aO,aa,simprocAttr,aC,ai,tX],l5,dq,dq,h2⟩
 grind
end
def DM{l:List ay}{K:ae}(h:PW mm K) : (cI mm l b (K++[o]))[K.length]?=some o:=by
 rw[Iu (by have:=h.lt;omega)];simp
theorem KG{K:ae}(h:PW mm K)(s:ay)(hs:s.length<=2000000):rB mm K 101 [.ref mm 0,.str s] (gA s) (aL s) 3:=by
 intro l b hl;have aZ:=h.lt;have hc:=fun K=>ahp s K ah
 have yK:=pJ s;obtain⟨l1,e1,t1,n1⟩:=tC h (aX s).1 ah l b (by first|exact hl|omega|(simp only[List.length_cons,List.length_nil];omega))
 unfold gA aL;cases hf:(aX s).2.2 with
 | false =>
  rw[hf] at hc;have eo:(b || !(isWord (aX s).1&&(!false || isWord (aX s).2.1)))=(b || !isWord (aX s).1):=by cases b<;>cases isWord (aX s).1<;>rfl
  rw[eo,if_neg aI];refine⟨l1,?_,t1,ah⟩;refine cW Uf.eq_1 ?_;have ho:=h.open l1 (b || !isWord (aX s).1);generalize (b || !isWord (aX s).1)=b1 at *;exact nK5 hc e1 @fY ho @bu tv
 | true =>
  rw[hf] at hc;obtain⟨l2,e2,t2,n2⟩:=Bb h [[46]] ag l1 (b || !isWord (aX s).1) kq;have es:strs [[46]]=[[.str [46]]]:=rfl;have eo:((b || !isWord (aX s).1) || !true)=(b || !isWord (aX s).1):=ag;rw[eo,es] at e2;rw[eo] at t2;simp only[List.length_cons,List.length_nil] at n2;obtain⟨l3,e3,t3,n3⟩:=tC h (aX s).2.1 ah l2 (b || !isWord (aX s).1) ah;have eo:(b || !(isWord (aX s).1&&(!true || isWord (aX s).2.1)))=((b || !isWord (aX s).1) || !isWord (aX s).2.1):=by cases b<;>cases isWord (aX s).1<;>cases isWord (aX s).2.1<;>rfl
  rw[eo,if_pos rfl];refine⟨l3,?_,fun hk=>?_,ah⟩
  ·refine cW Uf.eq_1 ?_
   have ho:=h.open l3 ((b || !isWord (aX s).1) || !isWord (aX s).2.1);generalize ((b || !isWord (aX s).1) || !isWord (aX s).2.1)=b2 at *;generalize (b || !isWord (aX s).1)=b1 at *;exact nK6 hc e1 e2 e3 @fY (j3 ho @Nat.lt_irrefl @bu) tv
  ·grind
def QT:List Wd->Bool
 | [k]=>bY k
 | _=>false
def Rn:List Wd->List ay
 | [k]=>[[40]]++bW k++[[41]]
 | _=>[]
def Xz{K:ae}(h:PW mm K){ks:List Wd}{n:Nat}(hn:n<=1000)(hk:∀ k,ks=[k]->rB mm K 60 [.ref mm 0,.agg (gX k)] (bY k) (bW k) n):rB mm K 100 [.ref mm 0,.slice (aH ks) false] (QT ks) (Rn ks) (n+2):=by
 intro l b hl;have aZ:=h.lt;have hlen:∀ c:Bool,((ks.length:Int)==1)=c->((((aH ks).length:Nat):Int)==1)=c:=fun c hc=>by rw[iw];exact hc
 have skip:∀ (c:Bool),((ks.length:Int)==1)=c->(b || !c)=true->(b || !QT ks)=true->∃ l',aj A 100 [.ref mm 0,.slice (aH ks) false] (cI mm l b K)=some (.undef,some ⟨cI mm l' (b || !QT ks) K,mm⟩)/\((b || !QT ks)=false->l'=l++Rn ks)/\l'.length<=l.length+(n+2):=by
  intro c hc h1 h2;obtain⟨l1,e1,t1,n1⟩:=BI h c l b (by first|exact hl|omega|(simp only[List.length_cons,List.length_nil];omega))
  rw[h1] at e1;rw[h2];refine⟨l1,?_,(fun hk=>by cases hk),ah⟩
  refine cW Oy.eq_1 ?_;have h0:=fO (l:=l1) (b:=true) h;unfold nx at h0;have ho:=h.open l1 true;exact nL6 hc @iw e1 h0 @fY (j2 ho @bu) tv
 match ks,hk,hlen,skip with
 | [],hk,hlen,skip=>exact skip false rfl (by cases b<;>rfl) (by cases b<;>rfl)
 | x :: y :: r,hk,hlen,skip=>exact skip false dq (by cases b<;>rfl) (by cases b<;>rfl)
 | [k],hk,hlen,skip =>
  cases b with
  | true=>exact skip true rfl rfl rfl
  | false =>
   obtain⟨l1,e1,t1,n1⟩:=BI h true l false ah;obtain⟨l2,e2,t2,n2⟩:=Bb h [[40]] ag l1 false kq;simp only[List.length_cons,List.length_nil] at n2;obtain⟨l3,e3,t3,n3⟩:=hk k rfl l2 false ah;obtain⟨l4,e4,t4,n4⟩:=Bb h [[41]] ag l3 (!bY k) kq;simp only[List.length_cons,List.length_nil] at n4;have es:∀ s:ay,strs [s]=[[.str s]]:=fun _=>rfl
   simp only[av8,awz,av3,es] at e1 e2 e3 e4 t1 t2 t3 t4 ⊢;unfold QT Rn;refine⟨l4,?_,fun hp=>by rw[t4 hp,t3 hp,t2 trivial,t1 trivial];simp,ah⟩
   refine cW Oy.eq_1 ?_;have h0:=fO (l:=l1) (b:=false) h;unfold nx at h0;have ho:=h.open l4 (!bY k);rw[iA] at e3;have gn:(aH [k])[0]?=some [.str k.name,.slice (aH k.kids) false]:=by rw[acj (l:=[k]) (i:=0) rfl,iA]
   generalize (!bY k)=pb at *;exact nL6 @iw gn e1 e2 (j2 e3 e4) (j5 h0 @fY ho @Nat.lt_irrefl @bu) tv
theorem D2{n:ay}{ks:List Wd}(dk:n≠cR):bW (.mk n ks)=if (n==DK || n==vd)=true then [n] else aL n:=by
 cases ks with
 | nil=>rw[bW]<;>simp[]
 | cons a r=>cases r<;>rw[bW]<;>simp[dk]
theorem xG{n:ay}{ks:List Wd}(dk:n≠cR):bY (.mk n ks)=(decide (ks.length=0)&&(n==DK || n==vd || gA n)):=by
 cases ks with
 | nil=>rw[bY];simp[dk]
 | cons a r=>cases r<;>rw[bY]<;>simp[dk]
def GO{ks:List Wd} : bY (.mk cR ks)=QT ks:=by
 match ks with
 | []=>rw[bY];simp[QT]
 | [k]=>rw[bY];simp[QT]
 | a :: b :: r=>rw[bY]<;>simp[QT]
theorem Pb{k:Wd} : bW (.mk cR [k])=[cR]++Rn [k]:=by rw[bW];simp[Rn]
theorem aap:∀ (h:Nat) (w:Wd),h<=100->Fe h w->∀ (mm:Nat) (K:ae),PW mm K->rB mm K 60 [.ref mm 0,.agg (gX w)] (bY w) (bW w) (3*h+3):=by
 have main:∀ (h:Nat) (w:Wd),h<=100->w.name.length<=1100000->∀ (mm:Nat) (K:ae),PW mm K->(w.kids.length<=1/\(0<w.kids.length->0<h))->(∀ k∈w.kids,∀ (mm:Nat) (K:ae),PW mm K->rB mm K 60 [.ref mm 0,.agg (gX k)] (bY k) (bW k) (3*h))->rB mm K 60 [.ref mm 0,.agg (gX w)] (bY w) (bW w) (3*h+3):=by
  intro h w hh uQ mm K hP gD hk l b hl;obtain⟨n,ks⟩:=w;simp only[Wd.name,Wd.kids] at uQ gD hk;rw[gX];have fJ:PW mm (K++[.box 53 [.str n,.slice (aH ks) false]]):=hP.push (fun cs e=>by cases e)
  have dc:=sq (l:=l) (b:=b) hP (L:=[.box 53 [.str n,.slice (aH ks) false]]);have fK:=fun l b=>DM (l:=l) (b:=b) hP (o:=.box 53 [.str n,.slice (aH ks) false])
  have hT:=fun l b=>qd (l:=l) (b:=b) hP (L:=[.box 53 [.str n,.slice (aH ks) false]])
  have hO:=fun l b=>hP.ON (L:=[.box 53 [.str n,.slice (aH ks) false]]) l b
  have aZ:=hP.lt;have xT:decide (K.length<K.length)=false:=ag;have es:∀ s:ay,strs [s]=[[.str s]]:=fun _=>rfl
  generalize K++[.box 53 [.str n,.slice (aH ks) false]]=K1 at fJ dc fK hT hO;have Ty:((ks.length:Int)==0)=decide (ks.length=0):=by
   grind
  by_cases hn:n=cR
  ·subst hn
   obtain⟨l1,e1,t1,n1⟩:=Bb fJ [cR] ag l b (by first|exact hl|omega|(simp only[List.length_cons,List.length_nil];omega))
   simp only[List.length_cons,List.length_nil] at n1;rw[show (b || !true)=b by cases b<;>rfl,es] at e1
   rw[show (b || !true)=b by cases b<;>rfl] at t1
   obtain⟨l2,e2,t2,n2⟩:=Xz fJ (ks:=ks) (n:=3*h) ah (fun k tV=>hk k (by rw[tV];simp) mm K1 fJ) l1 b ah
   rw[GO];refine⟨l2,?_,fun hp=>?_,ah⟩
   ·refine cW UI.eq_1 ?_
    have n1e:(cR==([73,110,116]:ay))=false:=aI;have n2e:(cR==([66,111,111,108]:ay))=false:=aI;have n3e:(cR==([76,105,115,116]:ay))=true:=aI;have ho:=hO l2 (b || !QT ks);generalize (b || !QT ks)=b2 at *;exact nM (j2 (j5 dc fK e1 e2 n1e) (j5 n2e hT ho @Nat.lt_irrefl @bu)) tv
   ·have hb:b=false:=by cases b<;>simp_all
    have hko:QT ks=true:=by cases h:QT ks<;>simp_all
    obtain⟨k,rfl⟩:∃ k,ks=[k]:=by
     match ks,hko with
     | [k],_=>exact⟨k,rfl⟩
     | [],h=>cases h
     | _ :: _ :: _,h=>cases h
    grind [Pb]
  ·have am' : (n==([76,105,115,116]:ay))=false:=cY hn
   obtain⟨l1,e1,t1,n1⟩:=BI fJ (decide (ks.length=0)) l b (by first|exact hl|omega|(simp only[List.length_cons,List.length_nil];omega))
   by_cases hi:n=DK\/n=vd
   ·obtain⟨l2,e2,t2,n2⟩:=Bb fJ [n] ag l1 (b || !decide (ks.length=0)) kq
    simp only[List.length_cons,List.length_nil] at n2;have eo:∀ c:Bool,(c || !true)=c:=fun c=>by cases c<;>rfl
    rw[eo,es] at e2;rw[eo] at t2;have IT:bY (.mk n ks)=decide (ks.length=0):=by
     grind [xG]
    have nA:bW (.mk n ks)=[n]:=by rw[D2 hn,if_pos (by rcases hi with e|e<;>simp[e])]
    rw[IT,nA];refine⟨l2,?_,fun hp=>by rw[t2 hp,t1 hp];simp,ah⟩
    refine cW UI.eq_1 ?_;have ho:=hO l2 (b || !decide (ks.length=0));generalize (b || !decide (ks.length=0))=b2 at *;cases q1:(n==([73,110,116]:ay)) with
    | true=>exact nM (j3 (j5 dc fK @iw Ty e1) (j5 e2 q1 hT ho @Nat.lt_irrefl) @bu) tv
    | false =>
     have q2:(n==([66,111,111,108]:ay))=true:=by
      grind
     exact nM (j3 (j5 dc fK @iw Ty e1) (j5 e2 q1 q2 hT ho) (j2 @Nat.lt_irrefl @bu)) tv
   ·have q1:(n==([73,110,116]:ay))=false:=by simpa using fun e=>hi (.inl e)
    have q2:(n==([66,111,111,108]:ay))=false:=by simpa using fun e=>hi (.inr e)
    obtain⟨l2,e2,t2,n2⟩:=KG fJ n ah l1 (b || !decide (ks.length=0)) ah;have IT:bY (.mk n ks)=(decide (ks.length=0)&&gA n):=by rw[xG hn,show (n==DK)=false from q1,show (n==vd)=false from q2];rfl
    have nA:bW (.mk n ks)=aL n:=by rw[D2 hn,if_neg (by rw[show (n==DK)=false from q1,show (n==vd)=false from q2];decide)]
    have eo:(b || !(decide (ks.length=0)&&gA n))=((b || !decide (ks.length=0)) || !gA n):=by cases b<;>cases decide (ks.length=0)<;>cases gA n<;>rfl
    rw[IT,nA,eo];refine⟨l2,?_,fun hp=>?_,ah⟩
    ·refine cW UI.eq_1 ?_
     have ho:=hO l2 ((b || !decide (ks.length=0)) || !gA n);generalize ((b || !decide (ks.length=0)) || !gA n)=b3 at *;generalize (b || !decide (ks.length=0))=b2 at *;exact nM (j3 (j5 dc fK @iw Ty e1) (j5 e2 q1 q2 am' hT) (j3 ho @Nat.lt_irrefl @bu)) tv
    ·grind
 intro h
 induction h with
 | zero =>
  intro w hh hb mm K hP;obtain⟨n,ks⟩:=w;obtain⟨h1,h2⟩:=hb;simp only[Wd.kids] at h2;subst h2;exact main 0 _ hh h1 mm K hP ⟨by simp[Wd.kids],by simp[Wd.kids]⟩ (by simp[Wd.kids])
 | succ h ih =>
  intro w hh hb mm K hP;obtain⟨n,ks⟩:=w;obtain⟨h1,h2,h3⟩:=hb;exact main (h+1) _ hh h1 mm K hP ⟨h2,ah⟩ (fun k hk=>by
   have:=ih k ah (h3 k hk)
   exact this)
def oO{K:ae}(hP:PW mm K)(t:Tm):∃ K1,PW mm K1/\(∀ l b,cI mm l b K++[.box 56 [.int .i64 t.kind,.int .i64 t.n,.str t.name,.str t.field,.str t.wn,.slice (aH t.wk) false,.slice (aC t.kids) false,.slice (strs t.names) false]]=cI mm l b K1)/\(∀ l b,(cI mm l b K1)[K.length]?=some (.box 56 [.int .i64 t.kind,.int .i64 t.n,.str t.name,.str t.field,.str t.wn,.slice (aH t.wk) false,.slice (aC t.kids) false,.slice (strs t.names) false]))/\(∀ l b,(cI mm l b K1).take K.length=cI mm l b K)/\∀ l b,ni K.length mm (cI mm l b K1)=true :=
 ⟨K++[.box 56 [.int .i64 t.kind,.int .i64 t.n,.str t.name,.str t.field,.str t.wn,.slice (aH t.wk) false,.slice (aC t.kids) false,.slice (strs t.names) false]],hP.push (fun cs e=>by cases e),fun _ _=>sq hP,fun _ _=>DM hP,fun _ _=>qd hP,fun l b=>hP.ON l b⟩
end Go.Proofs.YtbadnagdfefbnaaGreatDoor
end
