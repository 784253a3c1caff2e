/-
  A part of the proof of PrintKept: AbsClose, AbsSeatK.
-/
import Derived.ProofKit
import Derived.LaidMore
import Derived.Carry
import Derived.ChangeMaps5
import Derived.OpenShut
import Derived.Lib.LaidTab
import Derived.Deep.Strs
import Derived.Test.YtaedakihpnghjaaGreatDoorCards
import Derived.Test.YtaedakihpnghjaaGreatDoorTie
import Derived.Test.YtaedakihpnghjaaGreatDoorP19
set_option linter.unusedSimpArgs false
set_option linter.unusedVariables false
section
namespace Go.Abs
open Go Go.RowKit Go.ChangeShapes Go.WideShapes Go.ChangeMaps
set_option linter.unusedSimpArgs false
set_option linter.unusedVariables false
theorem wf64 {n:Int} (h:(Lit.int .i64 n).wf=true):I64 n:=by
 have h1:IntKind.i64.min=-9223372036854775808:=rfl
 have h2:IntKind.i64.max=9223372036854775807:=rfl
 simp only[Lit.wf,Bool.and_eq_true,decide_eq_true_eq,h1,h2] at h
 exact h
def gh0 (W:World):Gh:={ S:=fun b o=>(∃ v,W.cell? ⟨b,o,none⟩=some v∧v.oneCell'=true∧∀ n,v≠.int .u8 n)∨(∃ E ck,W.heap[b]?=some (.map E ck)),κ:=fun _=>.none,ρ:=fun _=>0 }
theorem cell_lt {W:World} {b o:Nat} {v:Value} (h:W.cell? ⟨b,o,none⟩=some v):b<W.heap.size:=by
 rcases Nat.lt_or_ge b W.heap.size with h'|h'
 ·exact h'
 ·simp[World.cell?,Array.getElem?_eq_none h'] at h
theorem wrel0 {G:Nat→List AV} {W:World} (hg:∀ (g j:Nat) (x:AV),(G g)[j]?=some x→∃ v,W.cell? ⟨g,j,none⟩=some v∧PR (gh0 W).S W v x∧∀ n,v≠.int .u8 n)
  (ht:∀ g,G g≠[]→∃ ty,BlkLen W g ty (G g).length):WRel G W.heap.size [] (gh0 W) W where
 size:=Nat.le_refl _
 sLt:=fun b o h=>by
  rcases h with ⟨v,h,_⟩|⟨E,ck,h⟩
  ·exact cell_lt h
  ·exact (Array.getElem?_eq_some_iff.1 h).1
 kLt:=fun b h=>absurd rfl h
 glob:=fun g j x h=>by
  obtain⟨v,h1,h2,h3⟩:=hg g j x h
  exact⟨v,h1,h2,.inl ⟨v,h1,h2.oneCell,h3⟩⟩
 boxes:=fun loc ty cs h=>by simp at h
 refs:=fun loc ty cs h=>by simp at h
 tabs:=ht
 bytes:=fun b o n h hc=>by
  rcases h with ⟨v,h,_,h3⟩|⟨E,ck,h⟩
  ·rw[h] at hc
   injection hc with hc
   exact absurd hc (h3 n)
  ·simp only[World.cell?,h] at hc
   cases hc
 more:=fun loc o h=>by simp at h
 types:=fun loc ty cs h=>by simp at h
theorem CR_true {gh:Gh} {n:Nat} {w:World} {p:Owner} {v:Value} {b:Bool} (h:CR gh n w p v (.bool b)):v=.bool b:=by
 rcases h with h|⟨e,h,_⟩
 ·cases h with
  | plain v x h=>cases h;rfl
 ·cases h
theorem law_run {P:Program} {A:AP} (hA:ProgOK P A) {f:FuncId} {xs:List AV} (h:callD A f xs []=some (.bool true,none)) {W:World} (hW:WRel A.glob W.heap.size [] (gh0 W) W)
  {vs:Array Value} (hs:vs.size=xs.length) (hv:∀ (j:Nat) (v:Value) (x:AV),vs[j]?=some v→xs[j]?=some x→PR (gh0 W).S W v x) :
  Calls P f vs W fun e W'=>e=.returned (.bool true)∧Below W.heap.size W W':=by
 obtain⟨n,hn⟩:=callD_eq.1 h
 obtain⟨_,_,hc⟩:=evF_sound hA n f xs [] _ _ hn
 refine (hc W.heap.size (gh0 W) W vs hW (fun b=>.inl rfl) hs (fun j v x h1 h2=>.inl (.plain _ _ (hv j v x h1 h2)))).mono fun e W' ⟨v,gh',he,r⟩=>?_
 refine⟨by rw[he,CR_true r.val],r.st.os,r.st.tape,r.st.output,r.st.size,fun k hk=>?_⟩
 obtain⟨h1,_,_⟩:=r.st.blk k hk (by
  intro ht
  simp only[touchHeap,gh0] at ht
  rcases ht with ⟨l,ht⟩|⟨l,j,ht⟩|⟨j,ht⟩<;>cases ht)
 rcases h1 with h1|⟨C,ty,lo,hi,lo',hi',k1,_,⟨o,m,⟨v',h2,_,h3⟩|⟨E,ck,h2⟩,hm⟩,_⟩
 ·exact h1
 rotate_left
 ·rw[k1] at h2;cases h2
 ·exfalso
  have:W.cell? ⟨k,o,none⟩=some (.int .u8 m):=by
   simp only[World.cell?,k1];exact hm
  rw[this] at h2
  injection h2 with h2
  exact h3 m h2.symm
theorem trodAll_stays {H:Type} {enc:TypeId × Value→H} {P:Program} (hl:laidOutB P=true) {W W' : World} (hb:Below W.heap.size W W') {sp:Nat→Bool} :
  ∀ {ts:List TypeId} {vs:List Value} {ds:List (DataW H)} {ps:List MemPlace},(ts.all fun t=>P.readableRec t&&decide (t<P.types.size))=true→DataW.TrodAll enc P W 0 (fun _=>true) true ts vs ds ps →
   (∀ x∈ps,x.block<W.heap.size)→(∀ p∈ps,sp p.block=true)→DataW.TrodAll enc P W' 0 sp true ts vs ds ps
 | [],[],[],_,_,h,_,_=>h
 | t :: ts,v :: vs,d :: ds,ps,ht,⟨p,q,h1,h2,e⟩,hlt,hs=>by
  simp only[List.all_cons,Bool.and_eq_true] at ht
  exact⟨p,q,WideElems.Trod_stays hl ht.1.1 (of_decide_eq_true ht.1.2) h1 (fun x hx=>hb.same (hlt x (by rw[e];exact List.mem_append_left _ hx))) (fun x hx=>hs x (by rw[e];exact List.mem_append_left _ hx)),
   trodAll_stays hl hb ht.2 h2 (fun x hx=>hlt x (by rw[e];exact List.mem_append_right _ hx)) (fun x hx=>hs x (by rw[e];exact List.mem_append_right _ hx)),e⟩
theorem law_post {H:Type} {enc:TypeId × Value→H} {P:Program} (hl:laidOutB P=true) {f:Func} {s:ChangeSpec} {W W' : World} {args:Array Value} {ds gs:List (DataW H)} {before:List MemPlace} {tb:TypeId}
  (hW:DataW.Whole enc P f.params.toList s.vars false W args.toList ds gs before) (hb:Below W.heap.size W W') (hv:s.vars=[])
  (hts:(f.params.toList.all fun t=>P.readableRec t&&decide (t<P.types.size))=true) (hr:f.resultTypes=#[tb]) (ht:P.underlying tb=some .bool)
  (hres:(s.fn H (ds++gs)).results=[.lit (.bool true)]) (hargs:(s.fn H (ds++gs)).args=ds) (hvars:(s.fn H (ds++gs)).vars=[]) :
  s.post enc P f false true false false W args (.bool true) W':=by
 have hW':=hW
 obtain⟨p,q,hA,hV,he,hfz,hnd⟩:=hW
 rw[hv] at hV
 obtain⟨rfl,rfl⟩:=trodVars_none hV
 have hlt:∀ x∈before,x.block<W.heap.size:=fun x hx=>by simpa using hW'.lt x hx
 subst he
 refine⟨ds,[],p++[],[],p,[],hW',?_,?_,?_,World.keptBut_mono (fun x hx=>hx.elim) (hb.frame fun _=>False),fun h=>by cases h⟩
 ·rw[hres,hr]
  exact trodAll_mk1 (shut_bool ht true)
 ·rw[hargs]
  exact trodAll_stays hl hb hts hA (fun x hx=>hlt x (List.mem_append_left _ hx)) (fun x hx=>by simpa using hlt x (List.mem_append_left _ hx))
 ·rw[hvars,hv];rfl
section
variable {H:Type} {enc:TypeId × Value→H} {P:Program} {W:World} {sp:Nat→Bool} {hd:Bool} {b0:Nat} {t e:TypeId} {v:Value} {d:DataW H} {p:List MemPlace}
theorem arg_int (ht:P.underlying t=some (.int .i64)) (hval:Value.okWide P W .any b0 t v) (h:DataW.Trod enc P W 0 sp hd t v d p) :
  ∃ n:Int,d=.lit (.int .i64 n)∧I64 n∧PR (gh0 W).S W v (.int .i64 n):=by
 obtain⟨n,rfl,rfl,rfl,hw⟩:=open_int ht hval h
 exact⟨n,rfl,wf64 hw,.int _ _⟩
theorem arg_string (ht:P.underlying t=some .string) (hval:Value.okWide P W .any b0 t v) (h:DataW.Trod enc P W 0 sp hd t v d p) :
  ∃ l:List UInt8,d=.lit (.string l)∧PR (gh0 W).S W v (.str l):=by
 obtain⟨s,rfl,rfl,rfl,_⟩:=open_string ht hval h
 exact⟨_,rfl,.str _ _ rfl⟩
theorem slice_spot (ht:P.underlying t=some (.slice e)) (hval:Value.okWide P W .any b0 t v):v=.slice none 0 0∨∃ b o len cap,v=.slice (some ⟨b,o,none⟩) len cap∧len≤cap:=by
 simp only[Value.okWide,ht,Cell.okWide,Cell.ok] at hval
 split at hval
 case h_7=>exact .inl rfl
 case h_9 e' a len cap hh =>
  obtain⟨h1,_,_,h3,_⟩:=hval
  obtain⟨b,o,s⟩:=a
  simp only at h3
  subst h3
  exact .inr ⟨b,o,len,cap,rfl,h1⟩
 all_goals first|(simp_all;done)|exact hval.elim
theorem arg_strs (ht:P.underlying t=some (.slice e)) (he:P.underlying e=some .string) (hc:P.cellsOf e=1) (hval:Value.okWide P W .any b0 t v) (h:DataW.Trod enc P W 0 sp hd t v d p) :
  ∃ (l:List (List UInt8)) (rest:List (DataW H)),((d=.nil∧l=[])∨d=.slice (l.map fun s=>.lit (.string s)) rest)∧PR (gh0 W).S W v (.slice (strs l) false):=by
 obtain⟨fuel,hf⟩:=h
 rcases Go.Deep.open_strs ht he hc hf with ⟨hcs,hx⟩|⟨a,len,cap,m,Sx,hcs,_,hlc,_,hzl,hx,hcell⟩
 ·injection hx with hd' hp
  rcases slice_spot ht hval with rfl|⟨b,o,len,cap,rfl,_⟩
  ·exact⟨[],[],.inl ⟨hd',rfl⟩,.sliceNil⟩
  ·simp[Value.cells] at hcs
 ·injection hx with hd' hp
  rcases slice_spot ht hval with rfl|⟨b,o,len',cap',rfl,_⟩
  ·simp[Value.cells] at hcs
  ·simp only[Value.cells,List.cons.injEq,Value.slice.injEq,Option.some.injEq,and_true] at hcs
   obtain⟨rfl,rfl,rfl⟩:=hcs
   have hzlen:len'≤m:=by rw[hzl];split<;>omega
   have hget:∀ (i:Nat) (r:List AV),(strs ((List.range len').map fun i=>(Sx i).data.toList))[i]?=some r→i<len'∧r=[.str (Sx i).data.toList]:=by
    intro i r hr
    simp only[strs,List.getElem?_map,Option.map_map] at hr
    cases hk:(List.range len')[i]? with
    | none=>rw[hk] at hr;cases hr
    | some k =>
     obtain⟨hi,hk'⟩:=List.getElem?_eq_some_iff.1 hk
     simp only[List.getElem_range] at hk'
     subst hk'
     rw[hk] at hr
     injection hr with hr
     exact⟨by simpa using hi,hr.symm⟩
   refine⟨(List.range len').map fun i=>(Sx i).data.toList,(List.range (m-len')).map fun j=>.lit (.string (Sx (len' + j)).data.toList),.inr (by rw[hd',List.map_map];rfl),.slice b o len' cap' 1 _ (fun i j=>.string (Sx i)) ?_ hlc ?_ ?_ ?_⟩
   ·rw[strs,List.length_map,List.length_map,List.length_range]
   ·intro i r hr
    rw[(hget i r hr).2];rfl
   ·intro i j r x hr hx
    obtain⟨hi,rfl⟩:=hget i r hr
    have hj:j=0:=by
     cases j with
     | zero=>rfl
     | succ j=>simp at hx
    subst hj
    have hc':=(hcell i (by omega)).1
    have hadd:(Addr.mk b o none).add i=⟨b,o+i*1+0,none⟩:=by
     unfold Addr.add
     split
     ·rename_i h0;subst h0;simp
     ·simp
    have hc2:W.cell? ⟨b,o+i*1+0,none⟩=some (.string (Sx i)):=by rw[← hadd];exact hc'
    exact⟨.inl ⟨_,hc2,rfl,fun n hn=>by cases hn⟩,hc2,rfl⟩
   ·intro i j r x hr hx
    obtain⟨hi,rfl⟩:=hget i r hr
    cases j with
    | zero =>
     simp only[List.getElem?_cons_zero,Option.some.injEq] at hx
     subst hx
     exact .str _ _ rfl
    | succ j=>simp at hx
end
def TabOK (W:World) (g:Nat) (xs:List AV):Prop :=
 (∃ ty,BlkLen W g ty xs.length)∧∀ (j:Nat) (x:AV),xs[j]?=some x→∃ v,W.cell? ⟨g,j,none⟩=some v∧PR (gh0 W).S W v x∧∀ n,v≠.int .u8 n
theorem wrel_tabs {G:Nat→List AV} {W:World} (h:∀ g,G g≠[]→TabOK W g (G g)):WRel G W.heap.size [] (gh0 W) W:=by
 refine wrel0 (fun g j x hx=>?_) (fun g hg=>(h g hg).1)
 exact (h g (fun h=>by rw[h] at hx;simp at hx)).2 j x hx
theorem tab_of {P:Program} {W:World} {name:String} {g:Nat} {cs:Array Value} {xs:List AV} (hg:P.globalNamed name=some g) (hv:W.var? P name=some cs) (hl:cs.size=xs.length)
  (h:∀ (j:Nat) (v:Value) (x:AV),cs[j]?=some v→xs[j]?=some x→PR (gh0 W).S W v x∧∀ n,v≠.int .u8 n):TabOK W g xs:=by
 have hv0:=hv
 simp only[World.var?,hg,Option.bind_some] at hv
 refine⟨?_,fun j x hx=>?_⟩
 ·split at hv
  ·rename_i C ty fr hC
   injection hv with hv
   exact⟨ty,C,fr,hC,by rw[hv,hl]⟩
  ·cases hv
 ·have hlt:j<cs.size:=by rw[hl];exact (List.getElem?_eq_some_iff.1 hx).1
  exact⟨cs[j],by rw[World.var?_cell hg hv0 j,Array.getElem?_eq_getElem hlt],h j _ x (Array.getElem?_eq_getElem hlt) hx⟩
theorem laidVars_mem {P:Program} {W:World} {n:String} {d:DataW Unit} : ∀ {l:List (String × DataW Unit)} {ps:List MemPlace},DataW.LaidVars P W l ps→(n,d)∈l →
  ∃ g t cs fuel p,P.globalNamed n=some g∧(P.globals[g]?).map (·.type)=some t∧W.var? P n=some cs∧DataW.trod (fun _=>()) P W 0 (fun _=>true) false fuel t cs.toList=some (d,p)∧∀ x∈MemPlace.row ⟨g,0,none⟩ cs.size,x∈ps
 | [],_,_,hm=>(List.not_mem_nil hm).elim
 | (n',d') :: r,ps,⟨g,t,cs,fuel,p,q,h1,h2,h3,h4,hr,he⟩,hm=>by
  rcases List.mem_cons.1 hm with hm|hm
  ·injection hm with e1 e2
   subst e1 e2
   exact⟨g,t,cs,fuel,p,h1,h2,h3,h4,fun x hx=>by rw[he];exact List.mem_append_left _ (List.mem_append_left _ hx)⟩
  ·obtain⟨g',t',cs',fuel',p',k1,k2,k3,k4,k5⟩:=laidVars_mem hr hm
   exact⟨g',t',cs',fuel',p',k1,k2,k3,k4,fun x hx=>by rw[he];exact List.mem_append_right _ (k5 x hx)⟩
theorem laid_mem' {P:Program} {W:World} {n:String} {d:DataW Unit} {l:List (String × DataW Unit)} (h:laidMetH P l W) (hm:(n,d)∈l) (hd:d.handleName?.isNone=true) :
  ∃ g t cs fuel p,P.globalNamed n=some g∧(P.globals[g]?).map (·.type)=some t∧W.var? P n=some cs∧DataW.trod (fun _=>()) P W 0 (fun _=>true) false fuel t cs.toList=some (d,p) ∧
   ∀ j u v,j<cs.size→W.cell? ⟨g,j,none⟩=some (.iface u v)→Value.okWide P W .any 0 u v:=by
 have key:∀ l',laidMet P l' W→(n,d)∈l'→∃ g t cs fuel p,P.globalNamed n=some g∧(P.globals[g]?).map (·.type)=some t∧W.var? P n=some cs∧DataW.trod (fun _=>()) P W 0 (fun _=>true) false fuel t cs.toList=some (d,p) ∧
   ∀ j u v,j<cs.size→W.cell? ⟨g,j,none⟩=some (.iface u v)→Value.okWide P W .any 0 u v:=by
  rintro l' ⟨ps,hv,_,hok⟩ hm'
  obtain⟨g,t,cs,fuel,p,h1,h2,h3,h4,h5⟩:=laidVars_mem hv hm'
  exact⟨g,t,cs,fuel,p,h1,h2,h3,h4,fun j u v hj hc=>(hok g j (h5 _ (by simp only[MemPlace.row];simpa using hj))).2 u v hc⟩
 unfold laidMetH at h
 split at h
 ·exact key _ h hm
 ·exact key _ h.1 (List.mem_filter.2 ⟨hm,hd⟩)
theorem laid_mem {P:Program} {W:World} {n:String} {d:DataW Unit} {l:List (String × DataW Unit)} (h:laidMetH P l W) (hm:(n,d)∈l) (hd:d.handleName?.isNone=true) :
  ∃ g t cs fuel p,P.globalNamed n=some g∧(P.globals[g]?).map (·.type)=some t∧W.var? P n=some cs∧DataW.trod (fun _=>()) P W 0 (fun _=>true) false fuel t cs.toList=some (d,p):=by
 obtain⟨g,t,cs,fuel,p,h1,h2,h3,h4,_⟩:=laid_mem' h hm hd
 exact⟨g,t,cs,fuel,p,h1,h2,h3,h4⟩
theorem one_of_take {cs:List Value} {i:Nat} {v:Value} (h:(cs.drop (i*1)).take 1=[v]):cs[i]?=some v:=by
 have:((cs.drop (i*1)).take 1)[0]?=some v:=by rw[h];rfl
 simpa [List.getElem?_take,List.getElem?_drop] using this
theorem tab_strs {P:Program} {W:World} {name:String} {l:List (String × DataW Unit)} {ss:List (List UInt8)} {g n:Nat} {t e:TypeId} (h:laidMetH P l W) (hm:(name,.agg (ss.map fun s=>.lit (.string s)))∈l)
  (hg:P.globalNamed name=some g) (hty:(P.globals[g]?).map (·.type)=some t) (ht:P.underlying t=some (.array n e)) (he:P.underlying e=some .string) (hce:P.cellsOf e=1) (hct:P.cellsOf t=n):TabOK W g (ss.map .str):=by
 obtain⟨g',t',cs,fuel,p,h1,h2,h3,h4⟩:=laid_mem h hm rfl
 obtain rfl:=Option.some.inj (hg.symm.trans h1)
 obtain rfl:=Option.some.inj (hty.symm.trans h2)
 obtain⟨xs,m,rfl,hx,hlen,hn,hel⟩:=DataW.trod_array ht h4
 injection hx with hx hp
 injection hx with hx
 have hsl:ss.length=n:=by
  have:=congrArg List.length hx
  simpa [hn] using this
 refine tab_of hg h3 (by rw[List.length_map,hsl,← hct,← hlen];exact (Array.length_toList).symm) fun j v x hv hx'=>?_
 have hj:j<n:=by
  have:=(List.getElem?_eq_some_iff.1 hx').1
  simpa [hsl] using this
 have hj':=hel j hj
 rw[hce] at hj'
 rw[List.getElem?_eq_getElem (show j<xs.length by omega)] at hj'
 obtain⟨s,h5,h6,_⟩:=DataW.trod_string he hj'
 have hv' : cs.toList[j]?=some v:=by rw[Array.getElem?_toList];exact hv
 rw[one_of_take h5] at hv'
 injection hv' with hv'
 have h7:(ss.map fun s=>(DataW.lit (.string s):DataW Unit))[j]?=some (.lit (.string s.data.toList)):=by
  rw[hx,List.getElem?_map,List.getElem?_eq_getElem (show j<xs.length by omega),h6];rfl
 rw[List.getElem?_map] at h7 hx'
 cases hs:ss[j]? with
 | none=>rw[hs] at hx';cases hx'
 | some b =>
  rw[hs] at h7 hx'
  simp only[Option.map_some,Option.some.injEq,DataW.lit.injEq,Lit.string.injEq] at h7 hx'
  subst hx' hv'
  exact⟨.str _ _ h7.symm,fun n hn=>by cases hn⟩
theorem tab_err {P:Program} {W:World} {name nm:String} {l:List (String × DataW Unit)} {d:DataW Unit} {g:Nat} {t te:TypeId} {ms:Array (String × TypeId)} (h:laidMetH P l W) (hm:(name,.iface nm d)∈l)
  (hd:(DataW.iface nm d).handleName?.isNone=true) (hg:P.globalNamed name=some g) (hty:(P.globals[g]?).map (·.type)=some t) (ht:P.underlying t=some (.interface ms)) (hrow:∀ u,P.typeName? 3 u=some nm→u=te)
  (hone:∀ v,Value.okWide P W .any 0 te v→v.oneCell'=true):TabOK W g [.iface te .any]:=by
 obtain⟨g',t',cs,fuel,p,h1,h2,h3,h4,hok⟩:=laid_mem' h hm hd
 obtain rfl:=Option.some.inj (hg.symm.trans h1)
 obtain rfl:=Option.some.inj (hty.symm.trans h2)
 cases fuel with
 | zero=>simp[DataW.trod] at h4
 | succ fuel =>
  unfold DataW.trod at h4
  rw[ht] at h4
  split at h4<;>try (rename_i hh _;cases hh;done)
  all_goals first|(simp_all;done)|skip
  rename_i u v hcs hh
  split at h4
  ·cases h4
  ·rename_i nm' hn
   simp only[Option.map_eq_some_iff,Prod.mk.injEq,DataW.iface.injEq] at h4
   obtain⟨⟨d',p'⟩,h5,⟨rfl,rfl⟩,_⟩:=h4
   have hu:=hrow u hn
   subst hu
   have hcs' : cs=#[.iface u v]:=by
    cases cs;simp_all
   subst hcs'
   refine tab_of hg h3 rfl fun j v' x hv hx=>?_
   cases j with
   | zero =>
    simp only[List.getElem?_toArray,List.getElem?_cons_zero,Option.some.injEq] at hv hx
    subst hv hx
    exact⟨.iface _ _ _ (.any _ (hone _ (hok 0 _ _ (by simp) (by rw[World.var?_cell hg h3 0];rfl)))),fun n hn=>by cases hn⟩
   | succ j=>simp at hx
  ·cases h4
theorem tab_slstrs {P:Program} {W:World} {name:String} {l:List (String × DataW Unit)} {ss:List (List UInt8)} {g:Nat} {t e:TypeId} (h:laidMetH P l W) (hm:(name,.slice (ss.map fun s=>.lit (.string s)) [])∈l)
  (hg:P.globalNamed name=some g) (hty:(P.globals[g]?).map (·.type)=some t) (ht:P.underlying t=some (.slice e)) (he:P.underlying e=some .string) (hce:P.cellsOf e=1) (hne:0<ss.length):TabOK W g [.slice (strs ss) false]:=by
 obtain⟨g',t',cs,fuel,p,h1,h2,h3,h4⟩:=laid_mem h hm rfl
 obtain rfl:=Option.some.inj (hg.symm.trans h1)
 obtain rfl:=Option.some.inj (hty.symm.trans h2)
 obtain⟨a,cap,hcs,hlc,hel⟩:=open_row ht hce h4
 rw[List.length_map] at hcs hlc
 have hcs' : cs=#[.slice (some a) ss.length cap]:=by cases cs;simp_all
 subst hcs'
 refine tab_of hg h3 rfl fun j v x hv hx=>?_
 cases j with
 | succ j=>simp at hx
 | zero =>
  simp only[List.getElem?_toArray,List.getElem?_cons_zero,Option.some.injEq] at hv hx
  subst hv hx
  have hst:∀ i,∀ s,ss[i]?=some s→∃ b:ByteArray,b.data.toList=s∧W.cell? (a.add i)=some (.string b):=by
   intro i s hs
   obtain⟨v,n,q,k1,k2⟩:=hel i (.lit (.string s)) (by rw[List.getElem?_map,hs];rfl)
   obtain⟨b,k3,k4,_⟩:=DataW.trod_string he k2
   simp only[Prod.mk.injEq,DataW.lit.injEq,Lit.string.injEq,List.cons.injEq,and_true] at k3 k4
   subst k3
   exact⟨b,k4.1.symm,k1⟩
  obtain⟨b,o,sb⟩:=a
  have hsb:sb=none:=by
   obtain⟨s0,_,k2⟩:=hst 0 ss[0] (List.getElem?_eq_getElem hne)
   have e0:(Addr.mk b o sb).add 0=⟨b,o,sb⟩:=by simp[Addr.add]
   rw[e0] at k2
   cases sb with
   | none=>rfl
   | some z =>
    unfold World.cell? at k2
    split at k2
    ·simp at k2
    ·cases k2
  subst hsb
  have hget:∀ (i:Nat) (r:List AV),(strs ss)[i]?=some r→∃ s,ss[i]?=some s∧r=[.str s]:=by
   intro i r hr
   rw[strs,List.getElem?_map] at hr
   cases hk:ss[i]? with
   | none=>rw[hk] at hr;cases hr
   | some s=>rw[hk] at hr;injection hr with hr;exact⟨s,rfl,hr.symm⟩
  have hcl:∀ i s,ss[i]?=some s→∃ B:ByteArray,W.cell? ⟨b,o+i*1+0,none⟩=some (.string B)∧B.data.toList=s:=by
   intro i s hs
   obtain⟨B,k1,k2⟩:=hst i s hs
   have hadd:(Addr.mk b o none).add i=⟨b,o+i*1+0,none⟩:=by
    unfold Addr.add
    split
    ·rename_i h0;subst h0;simp
    ·simp
   rw[hadd] at k2
   exact⟨B,k2,k1⟩
  refine⟨.slice b o _ cap 1 _ (fun i j=>(W.cell? ⟨b,o+i*1+0,none⟩).getD .nilIface) (by rw[strs,List.length_map]) hlc ?_ ?_ ?_,fun n hn=>by cases hn⟩
  ·intro i r hr
   obtain⟨s,_,rfl⟩:=hget i r hr
   rfl
  ·intro i j r x hr hx
   obtain⟨s,hs,rfl⟩:=hget i r hr
   cases j with
   | succ j=>simp at hx
   | zero =>
    obtain⟨B,k1,_⟩:=hcl i s hs
    rw[k1]
    exact⟨.inl ⟨_,k1,rfl,fun n hn=>by cases hn⟩,rfl,rfl⟩
  ·intro i j r x hr hx
   obtain⟨s,hs,rfl⟩:=hget i r hr
   cases j with
   | succ j=>simp at hx
   | zero =>
    obtain⟨B,k1,k2⟩:=hcl i s hs
    rw[k1]
    simp only[List.getElem?_cons_zero,Option.some.injEq] at hx
    subst hx
    exact .str _ _ k2
def rowOf (q:Lit × DataW Unit):List AV :=
 match q with
 | (.string k,.agg [.lit (.int .i64 a),.lit (.int .i64 b)])=>[.str k,.int .i64 a,.int .i64 b]
 | _=>[]
theorem tab_map2 {P:Program} {W:World} {name:String} {l:List (String × DataW Unit)} {L:List (Lit × DataW Unit)} {g:Nat} {t k e:TypeId} {f0 f1:Field} (h:laidMetH P l W) (hm:(name,.map L)∈l)
  (hg:P.globalNamed name=some g) (hty:(P.globals[g]?).map (·.type)=some t) (ht:P.underlying t=some (.map k e)) (hk:P.underlying k=some .string) (he:P.underlying e=some (.struct #[f0,f1]))
  (hce:P.cellsOf e=2) (hf0:P.underlying f0.type=some (.int .i64)) (hf1:P.underlying f1.type=some (.int .i64)) (hc0:P.cellsOf f0.type=1) (hc1:P.cellsOf f1.type=1) (ho0:f0.offset=0) (ho1:f1.offset=1)
  (hL:∀ q∈L,∃ k a b,q=(.string k,.agg [.lit (.int .i64 a),.lit (.int .i64 b)])):TabOK W g [.gmap 1 false true (L.map rowOf)]:=by
 obtain⟨g',t',cs,fuel,p,h1,h2,h3,h4⟩:=laid_mem h hm rfl
 obtain rfl:=Option.some.inj (hg.symm.trans h1)
 obtain rfl:=Option.some.inj (hty.symm.trans h2)
 rcases WideElems.open_map ht h4 with ⟨_,hx⟩|⟨b,es,ck,n,rfl,hcs,hb,_,F,hx⟩
 ·simp at hx
 have hcs' : cs=#[.map (some b)]:=by cases cs;simp_all
 subst hcs'
 injection hx with hx hp
 injection hx with hx
 have hperm:(es.toList.map (WideElems.rg P k (WideElems.elemAt (fun _=>()) P W 0 (fun _=>true) false n e))).Perm L:=by rw[hx];exact (WideShapes.sorted_perm _).symm
 have each:∀ x∈es.toList,∃ (s:ByteArray) (a c:Int),x.key=.string s∧x.val=.agg #[.int .i64 a,.int .i64 c]∧rowOf (WideElems.rg P k (WideElems.elemAt (fun _=>()) P W 0 (fun _=>true) false n e) x)=[.str s.data.toList,.int .i64 a,.int .i64 c]:=by
  intro x hxm
  obtain⟨k0,a,c,hq⟩:=hL _ (hperm.mem_iff.1 (List.mem_map_of_mem hxm))
  obtain⟨y,hy⟩:=F.reads x hxm
  rw[WideElems.rg_of hy] at hq ⊢
  subst hq
  have hk1:=WideElems.rd_key hy
  obtain⟨z,hz,hz2⟩:=WideElems.rd_val hy
  unfold WideElems.elemAt at hz
  split at hz
  ·rename_i hform
   obtain⟨y0,y1,m,rfl,hl,g0,g1⟩:=ChangeShapes.trod_struct2 he hz
   rw[hc0,ho0] at g0
   rw[hc1,ho1] at g1
   have hval:∃ c0 c1,x.val=.agg #[c0,c1]:=by
    unfold Value.formed at hform
    rw[he] at hform
    cases hv:x.val<;>rw[hv] at hform hl<;>simp_all
    rename_i cs
    obtain⟨cl⟩:=cs
    match cl,hform with
    | [c0,c1],_=>exact⟨c0,c1,rfl⟩
   obtain⟨c0,c1,hval⟩:=hval
   rw[hval] at g0 g1
   simp only[Value.cells,List.drop_zero,List.take_succ_cons,List.take_zero,List.drop_succ_cons] at g0 g1
   obtain⟨a',e1,e2,_⟩:=DataW.trod_int hf0 g0
   obtain⟨c',e3,e4,_⟩:=DataW.trod_int hf1 g1
   simp only[List.cons.injEq,and_true] at e1 e3
   subst e1 e3 e2 e4
   simp only[DataW.agg.injEq,List.cons.injEq,and_true,DataW.lit.injEq,Lit.int.injEq,true_and] at hz2
   obtain⟨rfl,rfl⟩:=hz2
   have hkey:∃ s:ByteArray,x.key=.string s∧s.data.toList=k0:=by
    cases hkv:x.key<;>simp[keyOf,hk,mapKey,hkv] at hk1
    exact⟨_,rfl,hk1.2⟩
   obtain⟨s,k1,rfl⟩:=hkey
   exact⟨s,_,_,k1,hval,rfl⟩
  ·cases hz
 refine tab_of hg h3 rfl fun j v x hv hx'=>?_
 cases j with
 | succ j=>simp at hx'
 | zero =>
  simp only[List.getElem?_toArray,List.getElem?_cons_zero,Option.some.injEq] at hv hx'
  subst hv hx'
  refine⟨.gmap b 1 false true _ ((es.toList.map (WideElems.rg P k (WideElems.elemAt (fun _=>()) P W 0 (fun _=>true) false n e))).map rowOf) es ck
   (fun i j=>match es[i]? with|some x=>(match j with|0=>x.key|j+1=>(x.val.cells[j]?).getD .nilIface)|none=>.nilIface) (.inr ⟨_,_,hb⟩) hb (by simp) (hperm.map rowOf) ?_ ?_,fun n hn=>by cases hn⟩
  ·intro i x r hx1 hr
   have hxm:x∈es.toList:=by
    have:=Array.mem_of_getElem? hx1
    simpa using this
   obtain⟨s,a,c,k1,k2,k3⟩:=each x hxm
   rw[List.map_map,List.getElem?_map,Array.getElem?_toList,hx1] at hr
   simp only[Option.map_some,Function.comp_apply,Option.some.injEq] at hr
   rw[k3] at hr
   subst hr
   refine⟨by simp,fun _=>rfl,fun h=>(by cases h),?_,?_⟩
   ·simp[mkV,hx1]
   ·simp[mkV,hx1,k2,Value.cells,List.range_succ]
  ·intro i j r x hr hx1
   rw[List.map_map,List.getElem?_map,Array.getElem?_toList] at hr
   cases hx2:es[i]? with
   | none=>rw[hx2] at hr;cases hr
   | some y =>
    rw[hx2] at hr
    have hxm:y∈es.toList:=by
     have:=Array.mem_of_getElem? hx2
     simpa using this
    obtain⟨s,a,c,k1,k2,k3⟩:=each y hxm
    simp only[Option.map_some,Function.comp_apply,Option.some.injEq] at hr
    rw[k3] at hr
    subst hr
    match j with
    | 0=>simp only[List.getElem?_cons_zero,Option.some.injEq] at hx1;subst hx1;simp only[k1];exact .str _ _ rfl
    | 1=>simp only[List.getElem?_cons_zero,List.getElem?_cons_succ,Option.some.injEq] at hx1;subst hx1;simp only[k2,Value.cells];exact .int _ _
    | 2=>simp only[List.getElem?_cons_zero,List.getElem?_cons_succ,Option.some.injEq] at hx1;subst hx1;simp only[k2,Value.cells];exact .int _ _
    | j+3=>simp at hx1
end Go.Abs
end
section
set_option maxRecDepth 100000
namespace Go.Proofs.YtaedakihpnghjaaGreatDoor
open Go Go.Abs Go.Proofs Go.RowKit
def laidAll:List (String × DataW Unit):=Rows.printKeptRow.laid
theorem kinds_tab {W:World} (h:laidMetH Tryz.prog laidAll W):TabOK W 1 (tab 1):=by
 obtain⟨g,t,cs,fuel,p,hg,ht,hv,hd⟩:=h.funcs (n:= "splicery/lex.kinds") (d:=.agg [.agg [.iface "func" (.lit (.string [115,112,108,105,99,101,114,121,47,108,101,120,46,108,101,116,116,101,114])),.iface "func" (.lit (.string [115,112,108,105,99,101,114,121,47,108,101,120,46,101,105,116,104,101,114]))],.agg [.iface "func" (.lit (.string [115,112,108,105,99,101,114,121,47,108,101,120,46,100,105,103,105,116])),.iface "func" (.lit (.string [115,112,108,105,99,101,114,121,47,108,101,120,46,100,105,103,105,116]))]]) (by simp[laidAll,Rows.printKeptRow,Rows.laid_splicery_lex_kinds])
 have hg0:Tryz.prog.globalNamed "splicery/lex.kinds"=some 1:=by kernel_rfl
 have ht0:(Tryz.prog.globals[1]?).map (·.type)=some 106:=by kernel_rfl
 obtain rfl:=Option.some.inj (hg0.symm.trans hg)
 obtain rfl:=Option.some.inj (ht0.symm.trans ht)
 have u97:Tryz.prog.underlying 106=some (.array 2 105):=by kernel_rfl
 have u96:Tryz.prog.underlying 105=some (.array 2 104):=by kernel_rfl
 have c96:Tryz.prog.cellsOf 105=2:=by kernel_rfl
 have c97:Tryz.prog.cellsOf 106=4:=by kernel_rfl
 have c91:Tryz.prog.cellsOf 104=1:=by kernel_rfl
 obtain⟨xs,m,rfl,hx,hlen,hn,hel⟩:=DataW.trod_array u97 hd
 injection hx with hx hp
 rw[c97] at hlen
 obtain⟨l⟩:=cs
 simp only at hlen hel hv
 match l,hlen with
 | [v0,v1,v2,v3],_ =>
 match xs,hn with
 | [x0,x1],_ =>
 have e0:=hel 0 (by omega)
 have e1:=hel 1 (by omega)
 simp only[c96,Nat.zero_mul,List.drop_zero,List.take_succ_cons,List.take_zero,List.getElem?_cons_zero,List.getElem?_cons_succ,Nat.one_mul,List.drop_succ_cons] at e0 e1
 simp only[DataW.funcsOut,DataW.funcsOutAll,List.map_cons,List.map_nil,DataW.agg.injEq,List.cons.injEq,and_true,beq_self_eq_true,if_true] at hx
 obtain⟨hx0,hx1⟩:=hx
 obtain⟨ys,k,rfl,hy,_,hyn,hyel⟩:=DataW.trod_array u96 e0
 obtain⟨zs,k',hk',hz,_,hzn,hzel⟩:=DataW.trod_array u96 e1
 rw[hy] at hx0
 rw[hz] at hx1
 match ys,hyn with
 | [y0,y1],_ =>
 match zs,hzn with
 | [z0,z1],_ =>
 have f0:=hyel 0 (by omega)
 have f1:=hyel 1 (by omega)
 have g0:=hzel 0 (by omega)
 have g1:=hzel 1 (by omega)
 simp only[c91,Nat.zero_mul,List.drop_zero,List.take_succ_cons,List.take_zero,List.getElem?_cons_zero,List.getElem?_cons_succ,Nat.one_mul,List.drop_succ_cons] at f0 f1 g0 g1
 simp only[List.map_cons,List.map_nil,DataW.agg.injEq,List.cons.injEq,and_true] at hx0 hx1
 obtain⟨a0,q0⟩:=y0
 obtain⟨a1,q1⟩:=y1
 obtain⟨b0,r0⟩:=z0
 obtain⟨b1,r1⟩:=z1
 simp only at hx0 hx1
 obtain⟨rfl,rfl⟩:=hx0
 obtain⟨rfl,rfl⟩:=hx1
 obtain rfl:=func_of_trod (f0:=58) (show Tryz.prog.underlying 104=some (.func #[5] #[4] false) by kernel_rfl) (by kernel_rfl) f0
 obtain rfl:=func_of_trod (f0:=148) (show Tryz.prog.underlying 104=some (.func #[5] #[4] false) by kernel_rfl) (by kernel_rfl) f1
 obtain rfl:=func_of_trod (f0:=149) (show Tryz.prog.underlying 104=some (.func #[5] #[4] false) by kernel_rfl) (by kernel_rfl) g0
 obtain rfl:=func_of_trod (f0:=149) (show Tryz.prog.underlying 104=some (.func #[5] #[4] false) by kernel_rfl) (by kernel_rfl) g1
 refine tab_of hg0 hv rfl fun j v x hj hx=>?_
 match j with
 | 0=>simp only[List.getElem?_toArray,List.getElem?_cons_zero,Option.some.injEq,tab] at hj hx;subst hj hx;exact⟨.func _,fun n h=>by cases h⟩
 | 1=>simp only[List.getElem?_toArray,List.getElem?_cons_zero,List.getElem?_cons_succ,Option.some.injEq,tab] at hj hx;subst hj hx;exact⟨.func _,fun n h=>by cases h⟩
 | 2=>simp only[List.getElem?_toArray,List.getElem?_cons_zero,List.getElem?_cons_succ,Option.some.injEq,tab] at hj hx;subst hj hx;exact⟨.func _,fun n h=>by cases h⟩
 | 3=>simp only[List.getElem?_toArray,List.getElem?_cons_zero,List.getElem?_cons_succ,Option.some.injEq,tab] at hj hx;subst hj hx;exact⟨.func _,fun n h=>by cases h⟩
 | k+4=>simp at hj
theorem errs_tab {W:World} (h:laidMetH Tryz.prog laidAll W) {name:String} {d:DataW Unit} {g:Nat} (hm:(name,.iface "*errors.errorString" (.ptr d))∈laidAll) (hg:Tryz.prog.globalNamed name=some g)
  (hty:(Tryz.prog.globals[g]?).map (·.type)=some 101):TabOK W g [.iface teErr .any]:=by
 refine tab_err (nm:= "*errors.errorString") h hm (by rfl) hg hty (show Tryz.prog.underlying 101=some (.interface #[("Error",59)]) by kernel_rfl) (fun u hu=>typeName_ptr_named (nm:= "errors.errorString") (tp:=166) (by kernel_rfl) (by kernel_rfl) (by decide) u hu) ?_
 intro v hv
 simp only[Value.okWide,show Tryz.prog.underlying teErr=some (.pointer 168) by kernel_rfl,Cell.okWide,Cell.ok] at hv
 cases v<;>simp_all [Value.oneCell']
def opsL:List (Lit × DataW Unit):=[(.string [37],.agg [.lit (.int .i64 4),.lit (.int .i64 6)]),(.string [42],.agg [.lit (.int .i64 2),.lit (.int .i64 6)]),(.string [43],.agg [.lit (.int .i64 0),.lit (.int .i64 5)]),(.string [45],.agg [.lit (.int .i64 1),.lit (.int .i64 5)]),(.string [47],.agg [.lit (.int .i64 3),.lit (.int .i64 6)]),(.string [60],.agg [.lit (.int .i64 5),.lit (.int .i64 3)]),(.string [61,61],.agg [.lit (.int .i64 6),.lit (.int .i64 3)]),(.string [97,110,100],.agg [.lit (.int .i64 7),.lit (.int .i64 2)]),(.string [106,111,105,110],.agg [.lit (.int .i64 10),.lit (.int .i64 4)]),(.string [111,114],.agg [.lit (.int .i64 8),.lit (.int .i64 1)])]
theorem tabs_ok {W:World} (h:laidMetH Tryz.prog laidAll W):∀ g,A.glob g≠[]→TabOK W g (A.glob g):=by
 intro g hg
 match g with
 | 0=>exact tab_slstrs (ss:=kindsS) (name:= "splicery/syntax.kinds") h (List.mem_of_getElem? (i:=9) rfl) (g:=0) (t:=22) (e:=9) (by kernel_rfl) (by kernel_rfl) (by kernel_rfl) (by kernel_rfl) (by kernel_rfl) (by decide)
 | 1=>exact kinds_tab h
 | 2=>exact tab_strs (ss:=signsS) (name:= "splicery/lex.signs") h (List.mem_of_getElem? (i:=5) rfl) (g:=2) (n:=18) (t:=107) (e:=9) (by kernel_rfl) (by kernel_rfl) (by kernel_rfl) (by kernel_rfl) (by kernel_rfl) (by kernel_rfl)
 | 3=>exact tab_strs (ss:=keywordsS) (name:= "splicery/lex.keywords") h (List.mem_of_getElem? (i:=7) rfl) (g:=3) (n:=27) (t:=109) (e:=9) (by kernel_rfl) (by kernel_rfl) (by kernel_rfl) (by kernel_rfl) (by kernel_rfl) (by kernel_rfl)
 | 4=>exact tab_map2 (L:=opsL) (name:= "splicery/syntax.operators") h (List.mem_of_getElem? (i:=8) rfl) (g:=4) (t:=122) (k:=9) (e:=120) (f0:=⟨ "op",3,0,false,"","splicery/syntax",0⟩) (f1:=⟨ "level",3,1,false,"","splicery/syntax",8⟩) (by kernel_rfl) (by kernel_rfl) (by kernel_rfl) (by kernel_rfl) (by kernel_rfl) (by kernel_rfl) (by kernel_rfl) (by kernel_rfl) (by kernel_rfl) (by kernel_rfl) (by rfl) (by rfl) (by intro q hq;simp only[opsL,List.mem_cons,List.not_mem_nil,or_false] at hq;rcases hq with h|h|h|h|h|h|h|h|h|h<;>exact⟨_,_,_,h⟩)
 | 5=>exact absurd rfl hg
 | 6=>exact absurd rfl hg
 | 7=>exact errs_tab h (name:= "strconv.ErrSyntax") (d:=.agg [.lit (.string [105,110,118,97,108,105,100,32,115,121,110,116,97,120])]) (List.mem_of_getElem? (i:=4) rfl) (by kernel_rfl) (by kernel_rfl)
 | 8=>exact errs_tab h (name:= "strconv.ErrRange") (d:=.agg [.lit (.string [118,97,108,117,101,32,111,117,116,32,111,102,32,114,97,110,103,101])]) (List.mem_of_getElem? (i:=3) rfl) (by kernel_rfl) (by kernel_rfl)
 | k+9=>exact absurd rfl hg
theorem wrel {W:World} (h:laidMetH Tryz.prog laidAll W):WRel A.glob W.heap.size [] (gh0 W) W:=wrel_tabs (tabs_ok h)
end Go.Proofs.YtaedakihpnghjaaGreatDoor
end
