/- Seat of layers 14 and 15: CodeBodies tells true. No condition. -/
import Derived.Test.YtcgbdndkfonphaaG10
set_option linter.unusedSimpArgs false
set_option linter.unusedVariables false
set_option linter.unusedSectionVars false
open Nat (reduceLT reduceEqDiff reduceAdd)
namespace Go.Proofs.Ytcgbdndkfonphaa.Ai
open Go Go.Ai
section
variable {call:CallF}{mt:MtF}{md:FuncId→Md}
def kOps:List (List Nat):=[[108,105,116],[105,110],[109,101,109],[99,111,110,116],[102,108,97,103],[99,111,112,121],[110,101,103],[110,111,116],[102,108,111,111,114],[114,97,116],[103,97,110,100],[109,114,103],[115,101,108],[43],[45],[42],[47],[100,105,118],[109,111,100],[60],[60,61],[62],[62,61],[61,61],[33,61],[97,110,100],[111,114]]
theorem eqOk_not{f:FlatV}{q:Eqn}{t:List Nat}(hk:kOps.all (fun l=>!((bs t).data.toList==(bs l).data.toList))=true)(h:eqOk f q=true):isS q.op t=false:=by
 rw[yM]
 intro ht
 rw[yD]at hk
 have e:∀l,l∈kOps→isS q.op l=false:=fun l hl=>isS_ne ht (by have:=hk l hl;simpa using this)
 simp only[eqOk,isOne,isTwo,isBin,e [108,105,116] (by simp[kOps]),e [105,110] (by simp[kOps]),e [109,101,109] (by simp[kOps]),e [99,111,110,116] (by simp[kOps]),e [102,108,97,103] (by simp[kOps]),e [99,111,112,121] (by simp[kOps]),e [110,101,103] (by simp[kOps]),e [110,111,116] (by simp[kOps]),e [102,108,111,111,114] (by simp[kOps]),e [114,97,116] (by simp[kOps]),e [103,97,110,100] (by simp[kOps]),e [109,114,103] (by simp[kOps]),e [115,101,108] (by simp[kOps]),e [43] (by simp[kOps]),e [45] (by simp[kOps]),e [42] (by simp[kOps]),e [47] (by simp[kOps]),e [100,105,118] (by simp[kOps]),e [109,111,100] (by simp[kOps]),e [60] (by simp[kOps]),e [60,61] (by simp[kOps]),e [62] (by simp[kOps]),e [62,61] (by simp[kOps]),e [61,61] (by simp[kOps]),e [33,61] (by simp[kOps]),e [97,110,100] (by simp[kOps]),e [111,114] (by simp[kOps]),Bool.or_self,cond_false]at h
 exact Bool.noConfusion h
theorem eqOk_all{f:FlatV}(h:goodOk f=true):∀q∈f.eqs,eqOk f q=true:=by
 unfold goodOk nV at h
 simp only[zL]at h
 obtain⟨⟨⟨⟨⟨⟨h1,h2⟩,h3⟩,h4⟩,h5⟩,h6⟩,h7⟩:=h
 have he:∃T',eqsF f f.names.length (List.replicate f.names.length false) f.eqs=some T':=by
  unfold eqsOk at h5
  cases e:eqsF f f.names.length (List.replicate f.names.length false) f.eqs with
  | some T=>exact⟨T,rfl⟩
  | none=>rw[e]at h5;cases h5
 obtain⟨T',hT⟩:=he
 exact fun q hq=>((eqsF_facts f f.names.length f.eqs _ T' (by simp) hT).1 q hq).2.2.2.2
theorem isS_bs(l:List Nat):isS (bs l) l=true:=by simp[isS]
theorem isN(s:ByteArray)(l:List Nat):bin .neq (litS s) (litS (bs l))=some (litB (!(isS s l))):=rfl
theorem ln_list(s:ByteArray):(bs [108]++s).data.toList=108::s.data.toList:=by
 rw[ByteArray.data_append,uD];rfl
theorem ln_ask(s:ByteArray):isS (bs [108]++s) [97,115,107]=false:=by
 unfold isS;rw[ln_list];rfl
theorem core_slS{H:List AO}{id:Nat}{fr:Fr}(x:X)(lo hi:Option X):core call mt md H id (.slS x lo hi) fr=valO (sliceS (ev fr x) (lo.map (ev fr)) (hi.map (ev fr))):=rfl
theorem ln_first(s:ByteArray):sliceS (litS (bs [108]++s)) none (some (litI .i64 1))=some (litS ((bs [108]++s).extract 0 1)):=by
 have hsz:(bs [108]++s).size=1+s.size:=by rw[ByteArray.size_append];rfl
 have hb:bound (litI .i64 1) (bs [108]++s).size=some 1:=by
  rw[hsz]
  simp only[bound,litI]
  rw[decide_eq_true (show(1:Int)≤((1+s.size:Nat):Int) by omega)];rfl
 simp only[sliceS,litS,cuts,hb,zD]
theorem ln_l(s:ByteArray):isS ((bs [108]++s).extract 0 1) [108]=true:=by
 have:((bs [108]++s).extract 0 1).data.toList=[108]:=by
  rw[ByteArray.data_extract,Array.toList_extract,ln_list];rfl
 unfold isS
 rw[this];rfl
theorem StepOk.len{f:FlatV}{ord slots:List Int}{L:List InsV}(h:StepOk f ord slots L):L.length=ord.length+f.mems.length+f.conts.length+f.outs.length+f.again.length:=by
 obtain⟨L1,Q,_,q2,q3,q4⟩:=h
 have l4:=congrArg List.length q4
 have l3:=congrArg List.length q3
 have l2:=congrArg List.length q2
 simp only[yR,zN,uA]at l4 l3 l2
 omega
theorem crsF_len:∀(base:Int)(l:List CrossV),(crsF base l).length=nOps l+l.length
 | _,[]=>rfl
 | base,x::r=>by
  rw[crsF,zN,zN,lnsF_len,crsF_len _ r,nOps,zC,zC,zA];omega
def LnQ(e:ByteArray):Prop:=e=bs [97,115,107]∨∃s,e=bs [108]++s
theorem lnsF_q(base:Int):∀(i:Nat)(l:List COpV),∀e∈lnsF base i l,∃s,e.1=bs [108]++s
 | _,[],e,h=>by cases h
 | i,o::r,e,h=>by
  rw[lnsF]at h
  rcases zO.1 h with rfl|h
  ·exact⟨_,rfl⟩
  ·exact lnsF_q base (i+1) r e h
theorem crsF_q:∀(base:Int)(l:List CrossV),∀e∈crsF base l,LnQ e.1
 | _,[],e,h=>by cases h
 | base,x::r,e,h=>by
  rw[crsF]at h
  rcases zX.1 h with h|h
  ·rcases zX.1 h with h|h
   ·exact .inr (lnsF_q base 0 x.ops e h)
   ·rw[xI.1 h];exact .inl rfl
  ·exact crsF_q _ r e h
def isAsk(e:ByteArray):Bool:=isS e [97,115,107]
theorem lnsF_asks(base:Int):∀(i:Nat)(l:List COpV),(lnsF base i l).countP (fun e=>isAsk e.1)=0
 | _,[]=>rfl
 | i,o::r=>by
  rw[lnsF,List.countP_cons,lnsF_asks base (i+1) r]
  show 0+(if isAsk (bs [108]++o.op)=true then 1 else 0)=0
  rw[isAsk,ln_ask];rfl
theorem crsF_asks:∀(base:Int)(l:List CrossV),(crsF base l).countP (fun e=>isAsk e.1)=l.length
 | _,[]=>rfl
 | base,x::r=>by
  rw[crsF,List.countP_append,List.countP_append,lnsF_asks,crsF_asks _ r,zC]
  show 0+(if isAsk (bs [97,115,107])=true then 1 else 0)+r.length=r.length+1
  rw[isAsk,isS_bs,if_pos rfl];omega
theorem StepOk.ops{f:FlatV}(hG:goodOk f=true){ord slots:List Int}{L:List InsV}(h:StepOk f ord slots L):∀e∈L.map (fun e=>(e.op,e.dst,e.k)),isS e.1 [115,108,111,112,101]=false∧isS e.1 [97,115,107]=false:=by
 obtain⟨L1,Q,q1,q2,q3,q4⟩:=h
 intro e he
 rw[q4]at he
 simp only[zX]at he
 rcases he with(((he|he)|he)|he)|he
 ·obtain⟨v,hv,rfl⟩:=yC.1 he
  have:(v.op,v.dst)∈Q.map (fun q=>(q.op,slotV slots q.var)):=by rw[←q3];exact yC.2 ⟨v,hv,rfl⟩
  obtain⟨q,hq,e⟩:=yC.1 this
  have hqo:=eqOk_all hG q (q1 q hq)
  have e1:q.op=v.op:=congrArg Prod.fst e
  show isS v.op _=false∧isS v.op _=false
  rw[←e1]
  exact⟨eqOk_not rfl hqo,eqOk_not rfl hqo⟩
 ·obtain⟨n,_,rfl⟩:=yC.1 he;exact⟨rfl,rfl⟩
 ·obtain⟨n,_,rfl⟩:=yC.1 he;exact⟨rfl,rfl⟩
 ·obtain⟨n,_,rfl⟩:=yC.1 he;exact⟨rfl,rfl⟩
 ·obtain⟨n,_,rfl⟩:=yC.1 he;exact⟨rfl,rfl⟩
end
section
variable {call:CallF}{mt:MtF}{md:FuncId→Md}
theorem ins_h0(op:ByteArray)(dst:Int)(a:AV)(k:Int)(l4 l5 l6 l7 l8:AV)(g:Int)(r:AV):(List.drop 0 (insC op dst a k l4 l5 l6 l7 l8 g r)).head?=some (litS op):=rfl
theorem ins_h3(op:ByteArray)(dst:Int)(a:AV)(k:Int)(l4 l5 l6 l7 l8:AV)(g:Int)(r:AV):(List.drop 3 (insC op dst a k l4 l5 l6 l7 l8 g r)).head?=some (litI .i64 k):=rfl
theorem crs_h1(x:CrossV):(List.drop 1 x.cs).head?=some (copsA x.ops):=rfl
theorem body_l0(f:FlatV)(F:FitsS f)(H:List AO)(hx:Ai.load H none (.ptr 0 6)=some (crossA f.cross))(v6:AV):∀(j i s:Nat),j+i=f.cross.length→s≤100*i →
  loopW (codeW cw (lookM mtl) mds c3l0) [1,5,6,7,8] [(1,.ptr 0 0),(5,.ptr 2 0),(6,v6),(7,litI .i64 s),(8,litI .i64 i)] H =
   some (.exit 0,[(1,.ptr 0 0),(5,.ptr 2 0),(6,v6),(7,litI .i64 ((s+nOps (f.cross.drop i):Nat):Int)),(8,litI .i64 f.cross.length),(45,litB false)],H)
 | 0,i,s,h,hs=>by
  have hi:i=f.cross.length:=by omega
  subst hi
  rw[yA,nOps,zH]
  refine loopW_out ?_ (by simp)
  simp -implicitDefEqProofs only[c3l0,aW,↓aP,makes,reduceLT,reduceEqDiff,reduceAdd,fadr_ptr,zB,hx,lenV_cross,zR]
 | j+1,i,s,h,hs=>by
  have hi:i<f.cross.length:=by omega
  have hlt:(i:Int)<f.cross.length:=by omega
  have hg:f.cross[i]?=some f.cross[i]:=zE hi
  have F6:=F.ops _ (zU hi)
  have F5:=F.cross
  rw[zS hi,nOps]
  generalize f.cross[i]=x at hg F6
  have R:=body_l0 f F H hx v6 j (i+1) (s+x.ops.length) (by omega) (by omega)
  rw[←xD]
  refine loopW_round ?_ R
  have hw:IntKind.wrap .i64 ((s:Int)+(x.ops.length:Int))=((s+x.ops.length:Nat):Int):=by rw[Go.Ai.wrap_small]<;>omega
  simp -implicitDefEqProofs only[c3l0,aW,↓aP,makes,reduceLT,reduceEqDiff,reduceAdd,fadr_ptr,zB,hx,lenV_cross,hlt,iadr_cross,hg,fadr_ip,crs_h1,lenV_cops,hw,wrap1 (show i<4611686018427387904 by omega)]
theorem body_l1(n:Nat)(hn:n≤1000)(H:List AO)(A:AV)(hA:InsF A ((List.range n).map fun n=>(bs [115,108,111,112,101],0,((n:Nat):Int))))(hx:Ai.load H none (.ptr 2 8)=some A):∀(j i:Nat),j+i=n →
  loopW (codeW cw (lookM mtl) mds c3l1) [1,5,9] [(1,.ptr 0 0),(5,.ptr 2 0),(9,litI .i64 i)] H =
   some (.exit 2,[(1,.ptr 0 0),(5,.ptr 2 0),(9,litI .i64 n),(114,litB false)],H)
 | 0,i,h=>by
  have hi:i=n:=by omega
  subst hi
  have hl:=hA.lenV
  rw[yR,uA]at hl
  refine loopW_out ?_ (by simp)
  simp -implicitDefEqProofs only[c3l1,aW,↓aP,makes,reduceLT,reduceEqDiff,reduceAdd,fadr_ptr,zB,hx,hl,zR]
 | j+1,i,h=>by
  have hi:i<n:=by omega
  have hlt:(i:Int)<n:=by omega
  have hl:=hA.lenV
  rw[yR,uA]at hl
  obtain⟨x,ia,a',l4,l5,l6,l7,l8,g,r,rfl,_⟩:=hA.iadr (i:=i) (e:=(bs [115,108,111,112,101],0,(i:Int))) (by simp[List.getElem?_range,hi])
  refine loopW_round ?_ (body_l1 n hn H A hA hx j (i+1) (by omega))
  simp -implicitDefEqProofs only[c3l1,aW,↓aP,makes,reduceLT,reduceEqDiff,reduceAdd,fadr_ptr,zB,hx,hl,hlt,ia,fadr_ip,ins_h0,ins_h3,isN,isS_bs,bne_self_eq_false,wrap1 (show i<4611686018427387904 by omega)]
theorem body_l2(C:List (ByteArray×Int×Int))(hn:C.length≤100000)(hC:∀e∈C,LnQ e.1)(H:List AO)(A:AV)(hA:InsF A C)(hx:Ai.load H none (.ptr 2 9)=some A):∀(j i s:Nat),j+i=C.length→s≤i →
  loopW (codeW cw (lookM mtl) mds c3l2) [1,5,10,11] [(1,.ptr 0 0),(5,.ptr 2 0),(10,litI .i64 s),(11,litI .i64 i)] H =
   some (.exit 4,[(1,.ptr 0 0),(5,.ptr 2 0),(10,litI .i64 ((s+(C.drop i).countP (fun e=>isAsk e.1):Nat):Int)),(11,litI .i64 C.length),(138,litB false)],H)
 | 0,i,s,h,hs=>by
  have hi:i=C.length:=by omega
  subst hi
  rw[yA,List.countP_nil,zH]
  refine loopW_out ?_ (by simp)
  simp -implicitDefEqProofs only[c3l2,aW,↓aP,makes,reduceLT,reduceEqDiff,reduceAdd,fadr_ptr,zB,hx,hA.lenV,zR]
 | j+1,i,s,h,hs=>by
  have hi:i<C.length:=by omega
  have hlt:(i:Int)<C.length:=by omega
  have hg:C[i]?=some C[i]:=zE hi
  have hq:=hC _ (zU hi)
  rw[zS hi,List.countP_cons]
  generalize C[i]=e at hg hq
  obtain⟨x,ia,a',l4,l5,l6,l7,l8,g,r,rfl,_⟩:=hA.iadr hg
  rcases hq with he|⟨t,he⟩
  ·have hk:isAsk e.1=true:=by rw[he];exact isS_bs _
   have R:=body_l2 C hn hC H A hA hx j (i+1) (s+1) (by omega) (by omega)
   rw[hk,if_pos rfl,show s+(List.countP (fun e=>isAsk e.1) (C.drop (i+1))+1)=s+1+List.countP (fun e=>isAsk e.1) (C.drop (i+1)) by omega]
   refine loopW_round ?_ R
   unfold isAsk at hk
   simp -implicitDefEqProofs only[c3l2,aW,↓aP,makes,reduceLT,reduceEqDiff,reduceAdd,fadr_ptr,zB,hx,hA.lenV,hlt,ia,fadr_ip,ins_h0,bin_isS,hk,wrap1 (show i<4611686018427387904 by omega),wrap1 (show s<4611686018427387904 by omega)]
  ·have hk:isAsk e.1=false:=by rw[he];exact ln_ask t
   have R:=body_l2 C hn hC H A hA hx j (i+1) s (by omega) (by omega)
   rw[hk,if_neg (by simp),zH]
   refine loopW_round ?_ R
   have hf:=ln_first t
   have hl:=ln_l t
   rw[←he]at hf hl
   unfold isAsk at hk
   simp -implicitDefEqProofs only[c3l2,aW,↓aP,makes,reduceLT,reduceEqDiff,reduceAdd,fadr_ptr,zB,hx,hA.lenV,hlt,ia,fadr_ip,ins_h0,bin_isS,hk,core_slS,hf,isN,hl,wrap1 (show i<4611686018427387904 by omega)]
theorem body_l3(C:List (ByteArray×Int×Int))(hn:C.length≤100000)(hC:∀e∈C,isS e.1 [115,108,111,112,101]=false∧isS e.1 [97,115,107]=false)(H:List AO)(A:AV)(hA:InsF A C)(hx:Ai.load H none (.ptr 2 7)=some A)(v:AV):∀(j i:Nat),j+i=C.length →
  loopW (codeW cw (lookM mtl) mds c3l3) [1,5,10,12] [(1,.ptr 0 0),(5,.ptr 2 0),(10,v),(12,litI .i64 i)] H =
   some (.exit 6,[(1,.ptr 0 0),(5,.ptr 2 0),(10,v),(12,litI .i64 C.length),(162,litB false)],H)
 | 0,i,h=>by
  have hi:i=C.length:=by omega
  subst hi
  refine loopW_out ?_ (by simp)
  simp -implicitDefEqProofs only[c3l3,aW,↓aP,makes,reduceLT,reduceEqDiff,reduceAdd,fadr_ptr,zB,hx,hA.lenV,zR]
 | j+1,i,h=>by
  have hi:i<C.length:=by omega
  have hlt:(i:Int)<C.length:=by omega
  have hg:C[i]?=some C[i]:=zE hi
  obtain⟨h1,h2⟩:=hC _ (zU hi)
  generalize C[i]=e at hg h1 h2
  obtain⟨x,ia,a',l4,l5,l6,l7,l8,g,r,rfl,_⟩:=hA.iadr hg
  refine loopW_round ?_ (body_l3 C hn hC H A hA hx v j (i+1) (by omega))
  simp -implicitDefEqProofs only[c3l3,aW,↓aP,makes,reduceLT,reduceEqDiff,reduceAdd,fadr_ptr,zB,hx,hA.lenV,hlt,ia,fadr_ip,ins_h0,bin_isS,h1,h2,wrap1 (show i<4611686018427387904 by omega)]
end
section
variable {call:CallF}{mt:MtF}{md:FuncId→Md}
theorem small10_call(f:FlatV)(H:List AO)(id:Nat):callV cw mds 10 [.agg f.cs,.agg [n0,n0,litI .i64 0]] H id=some (.val (litB (small25 f)) none):=by
 obtain⟨H',h⟩:=small10_tells f RowA.nil RowA.nil 0
 have e:smallP f [] []=small25 f:=by simp[smallP]
 rw[e]at h
 exact callV_pureA (args:=[.agg f.cs,.agg [n0,n0,litI .i64 0]]) rfl rfl h rfl
theorem no_plan(f:FlatV)(F:FitsS f)(hp:planOk f=false):∃e:Int,e≠0∧(∀H id,callV cw mds 11 [.agg f.cs] H id=some (.val (.tup [planA n0 n0 0,litI .i64 e]) none))∧∀H id,callV cw mds 12 [.agg f.cs,planA n0 n0 0] H id=some (.val (.tup [.agg (out0 0 0 0 0),litI .i64 1]) none):=by
 unfold planOk at hp
 cases hG:goodOk f with
 | false =>
  have h1:=rof_bad f F (.inl hG)
  rw[hG]at h1
  exact⟨1,by omega,h1,fun H id=>codeOf_bad f F RowA.nil RowA.nil 0 (by simp) (by simp) (by unfold rightF;rw[hG];rfl) H id⟩
 | true =>
  rw[hG,zQ]at hp
  have h1:=rof_bad f F (.inr (by rw[ordRef_eq f F (goodF_of hG),hp];rfl))
  rw[hG]at h1
  refine⟨140,by omega,h1,fun H id=>codeOf_bad f F RowA.nil RowA.nil 0 (by simp) (by simp) ?_ H id⟩
  have hne:f.names.length≠0:=by
   intro h0
   have hl:(NC f).length=0:=by rw[NC_len];exact h0
   rw[show NC f=[]from List.length_eq_zero_iff.1 hl]at hp
   cases hp
  have:(((([]:List Int).length:Int))==(f.names.length:Int))=false:=by
   rw[beq_eq_false_iff_ne]
   simp only[zA]
   omega
  unfold rightF
  simp only[this,yK,zP]
theorem store_out{H:List AO}{r:Nat}{x cs:List AV}(h:H[r]?=some (.row x 39))(hx:x.length=10)(hc:cs.length=10)(hcs:cs.all cellA=true):storeAt H 10 (.ptr r 0) (.agg cs)=some (setL H r (.row cs 39)):=storeAt_agg h hx hc hcs
set_option maxRecDepth 100000 in
theorem codeBodies3_tells(f:FlatV):∃H',cw 3 [flatA f] []=some (.ret (litB true),H'):=by
 have lA0:Ai.load [.row f.cs 29] (some 8) (.ptr 0 0)=some (.agg f.cs):=load_agg rfl rfl
 have hsm:=small10_call f
 have haw:=awake13_call
 have bz:buildV [.sl 0 [] (some 0),.sl 0 [] (some 0),litI .i64 0] []=some (.val (.agg [n0,n0,litI .i64 0]) none):=rfl
 cases hs:small25 f with
 | false =>
  rw[hs]at hsm
  refine⟨_,cw_of fn3 (c:=c3) (r:=(.ret (litB true),[.row f.cs 29])) rfl rfl rfl rfl ?_⟩
  simp -implicitDefEqProofs only[c3,aW,↓aP,makes,reduceLT,reduceEqDiff,reduceAdd,core_box,flat_f,zA,zC,lA0,core_build,bz,hsm]
  rfl
 | true =>
  rw[hs]at hsm
  have F:=fitsS_of f hs
  cases hp:planOk f with
  | false =>
   obtain⟨e,he,h1,h2⟩:=no_plan f F hp
   have st1:storeAt [.row f.cs 29,.row zPl 32] 3 (.ptr 1 0) (planA n0 n0 0)=some [.row f.cs 29,.row [n0,n0,litI .i64 0] 32]:=store_pl f [] RowA.nil RowA.nil 0 _ rfl _ _ rfl
   have lA1:Ai.load [.row f.cs 29,.row [n0,n0,litI .i64 0] 32] (some 8) (.ptr 0 0)=some (.agg f.cs):=load_agg rfl rfl
   have lP1:Ai.load [.row f.cs 29,.row [n0,n0,litI .i64 0] 32] (some 3) (.ptr 1 0)=some (planA n0 n0 0):=load_agg rfl rfl
   have st2:storeAt [.row f.cs 29,.row [n0,n0,litI .i64 0] 32,.row (out0 0 0 0 0) 39] 10 (.ptr 2 0) (.agg (out0 0 0 0 0))=some [.row f.cs 29,.row [n0,n0,litI .i64 0] 32,.row (out0 0 0 0 0) 39]:=rfl
   have l7:Ai.load [.row f.cs 29,.row [n0,n0,litI .i64 0] 32,.row (out0 0 0 0 0) 39] none (.ptr 2 7)=some n0:=rfl
   have hl0:lenV n0=some (litI .i64 0):=rfl
   have he2:(e != 0)=true:=by simp[he]
   refine⟨_,cw_of fn3 (c:=c3) (r:=(.ret (litB true),[.row f.cs 29,.row [n0,n0,litI .i64 0] 32,.row (out0 0 0 0 0) 39])) rfl rfl rfl rfl ?_⟩
   simp -implicitDefEqProofs only[c3,aW,↓aP,makes,reduceLT,reduceEqDiff,reduceAdd,core_box,flat_f,zA,zC,lA0,core_build,bz,hsm,h1,st1,lA1,lP1,h2,st2,he2,fadr_ptr,zB,l7,hl0,haw]
   rfl
  | true =>
   unfold planOk at hp
   rw[zL]at hp
   obtain⟨hG,hK⟩:=hp
   have G:=goodF_of hG
   have ho:ordRef (NR f)=some (ordL (NC f)):=by rw[ordRef_eq f F G,if_pos hK]
   obtain⟨B,hB,h1⟩:=rof_good f F hG ho
   rw[ofR_pl f F G hK]at h1
   have h1:∀H id,callV cw mds 11 [.agg f.cs] H id=some (.val (.tup [planA B (rowC (plS f) (some f.names.length)) (plN f),litI .i64 0]) none):=h1
   have hn:=F.names
   have P:=(ordL_ok f F G hK).p
   have hl:=pl_len f F G hK
   have hS:=RowA.of (plS f) (some f.names.length)
   obtain⟨a,b,M,K,A7,A8,A9,h2,CF⟩:=codeOf_good f F G hB hS hl P.rng (by rw[P.len];omega) (plN f) (pl_right f F G hK hG)
   generalize hSd:rowC (plS f) (some f.names.length)=S at hS h1 h2
   obtain⟨L7,I7,hst⟩:=CF.s
   obtain⟨L9,I9,hc9⟩:=CF.c
   have I8:=CF.d
   have c7:=I7.cell
   have c8:=I8.cell
   have c9:=I9.cell
   have cM:=CF.cM
   have cK:=CF.cK
   have n1:=F.mems
   have n2:=F.conts
   have n3:=F.outs
   have n4:=F.again
   have n5:=F.cross
   have e7:(L7.map fun e=>(e.op,e.dst,e.k)).length=f.names.length+f.mems.length+f.conts.length+f.outs.length+f.again.length:=by rw[yR,hst.len,P.len]
   have e9:(L9.map fun e=>(e.op,e.dst,e.k)).length=nOps f.cross+f.cross.length:=by
    have:=congrArg List.length hc9
    rw[yR,crsF_len]at this
    rw[yR,this]
   have q9:∀e∈L9.map (fun e=>(e.op,e.dst,e.k)),LnQ e.1:=fun e he=>by
    obtain⟨v,hv,rfl⟩:=yC.1 he
    exact crsF_q 0 f.cross (v.op,v.dst) (by rw[←hc9];exact yC.2 ⟨v,hv,rfl⟩)
   have k9:(L9.map fun e=>(e.op,e.dst,e.k)).countP (fun e=>isAsk e.1)=f.cross.length:=by
    rw[←crsF_asks 0 f.cross,←hc9,List.countP_map,List.countP_map];rfl
   have o7:=hst.ops hG
   generalize (L7.map fun e=>(e.op,e.dst,e.k))=C7 at I7 e7 o7
   generalize (L9.map fun e=>(e.op,e.dst,e.k))=C9 at I9 e9 q9 k9
   have hno:nOps f.cross≤2000:=by
    have:∀l:List CrossV,(∀x∈l,x.ops.length≤100)→nOps l≤100*l.length:=by
     intro l
     induction l with
     | nil=>intro _;exact zV _
     | cons x r ih =>
      intro h
      have h1:=h x (zM ..)
      have h2:=ih fun y hy=>h y (zJ _ hy)
      rw[nOps,zC];omega
    have h3:=this f.cross fun x hx=>by have:=F.ops x hx;omega
    omega
   have st1:storeAt [.row f.cs 29,.row zPl 32] 3 (.ptr 1 0) (planA B S (plN f))=some [.row f.cs 29,.row [B,S,litI .i64 (plN f)] 32]:=store_pl f [] hB hS _ _ rfl _ _ rfl
   have lA1:Ai.load [.row f.cs 29,.row [B,S,litI .i64 (plN f)] 32] (some 8) (.ptr 0 0)=some (.agg f.cs):=load_agg rfl rfl
   have lP1:Ai.load [.row f.cs 29,.row [B,S,litI .i64 (plN f)] 32] (some 3) (.ptr 1 0)=some (planA B S (plN f)):=load_agg rfl rfl
   have hcs:(outC a b (plN f) f.cross.length (nOps f.cross) M K A7 A8 A9).all cellA=true:=by
    simp only[xA,xU,cM,cK,c7,c8,c9];rfl
   have st2:storeAt [.row f.cs 29,.row [B,S,litI .i64 (plN f)] 32,.row (out0 0 0 0 0) 39] 10 (.ptr 2 0) (.agg (outC a b (plN f) f.cross.length (nOps f.cross) M K A7 A8 A9))=some [.row f.cs 29,.row [B,S,litI .i64 (plN f)] 32,.row (outC a b (plN f) f.cross.length (nOps f.cross) M K A7 A8 A9) 39]:=store_out rfl rfl rfl hcs
   have x0:∀Z,Ai.load (.row f.cs 29::Z) none (.ptr 0 6)=some (crossA f.cross):=fun Z=>rfl
   have x1:∀Z,Ai.load (.row f.cs 29::Z) none (.ptr 0 1)=some (strs f.names):=fun Z=>rfl
   have x2:∀Z,Ai.load (.row f.cs 29::Z) none (.ptr 0 2)=some (rowC f.outs none):=fun Z=>rfl
   have x4:∀Z,Ai.load (.row f.cs 29::Z) none (.ptr 0 4)=some (memsA f.mems):=fun Z=>rfl
   have x5:∀Z,Ai.load (.row f.cs 29::Z) none (.ptr 0 5)=some (contsA f.conts):=fun Z=>rfl
   have x7:∀Z,Ai.load (.row f.cs 29::Z) none (.ptr 0 7)=some (rowC f.again none):=fun Z=>rfl
   have y4:Ai.load [.row f.cs 29,.row [B,S,litI .i64 (plN f)] 32,.row (outC a b (plN f) f.cross.length (nOps f.cross) M K A7 A8 A9) 39] none (.ptr 2 4)=some (litI .i64 (nOps f.cross)):=rfl
   have y7:Ai.load [.row f.cs 29,.row [B,S,litI .i64 (plN f)] 32,.row (outC a b (plN f) f.cross.length (nOps f.cross) M K A7 A8 A9) 39] none (.ptr 2 7)=some A7:=rfl
   have y8:Ai.load [.row f.cs 29,.row [B,S,litI .i64 (plN f)] 32,.row (outC a b (plN f) f.cross.length (nOps f.cross) M K A7 A8 A9) 39] none (.ptr 2 8)=some A8:=rfl
   have y9:Ai.load [.row f.cs 29,.row [B,S,litI .i64 (plN f)] 32,.row (outC a b (plN f) f.cross.length (nOps f.cross) M K A7 A8 A9) 39] none (.ptr 2 9)=some A9:=rfl
   generalize hHL:[AO.row f.cs 29,.row [B,S,litI .i64 (plN f)] 32,.row (outC a b (plN f) f.cross.length (nOps f.cross) M K A7 A8 A9) 39]=HL at st2 y4 y7 y8 y9
   have z0:Ai.load HL none (.ptr 0 6)=some (crossA f.cross):=by rw[←hHL];exact x0 _
   have z1:Ai.load HL none (.ptr 0 1)=some (strs f.names):=by rw[←hHL];exact x1 _
   have z2:Ai.load HL none (.ptr 0 2)=some (rowC f.outs none):=by rw[←hHL];exact x2 _
   have z4:Ai.load HL none (.ptr 0 4)=some (memsA f.mems):=by rw[←hHL];exact x4 _
   have z5:Ai.load HL none (.ptr 0 5)=some (contsA f.conts):=by rw[←hHL];exact x5 _
   have z7:Ai.load HL none (.ptr 0 7)=some (rowC f.again none):=by rw[←hHL];exact x7 _
   have R0:=body_l0 f F HL z0 (litI .i64 0) f.cross.length 0 0 (by omega) (by omega)
   have R1:=body_l1 f.conts.length (by omega) HL A8 I8 y8 f.conts.length 0 (by omega)
   have R2:=body_l2 C9 (by omega) q9 HL A9 I9 y9 C9.length 0 0 (by omega) (by omega)
   have R3:=body_l3 C7 (by omega) o7 HL A7 I7 y7 (litI .i64 f.cross.length) C7.length 0 (by omega)
   rw[show((0:Nat):Int)=0 from rfl,zI,zB]at R0
   rw[show((0:Nat):Int)=0 from rfl]at R1
   rw[show((0:Nat):Int)=0 from rfl,zI,zB,k9]at R2
   rw[show((0:Nat):Int)=0 from rfl]at R3
   have v7:=I7.lenV
   have v8:=I8.lenV
   have v9:=I9.lenV
   rw[yR,uA]at v8
   have w1:IntKind.wrap .i64 ((f.names.length:Int)+(f.mems.length:Int))=((f.names.length+f.mems.length:Nat):Int):=by rw[Go.Ai.wrap_small]<;>omega
   have w2:IntKind.wrap .i64 (((f.names.length+f.mems.length:Nat):Int)+(f.conts.length:Int))=((f.names.length+f.mems.length+f.conts.length:Nat):Int):=by rw[Go.Ai.wrap_small]<;>omega
   have w3:IntKind.wrap .i64 (((f.names.length+f.mems.length+f.conts.length:Nat):Int)+(f.outs.length:Int))=((f.names.length+f.mems.length+f.conts.length+f.outs.length:Nat):Int):=by rw[Go.Ai.wrap_small]<;>omega
   have w4:IntKind.wrap .i64 (((f.names.length+f.mems.length+f.conts.length+f.outs.length:Nat):Int)+(f.again.length:Int))=((f.names.length+f.mems.length+f.conts.length+f.outs.length+f.again.length:Nat):Int):=by rw[Go.Ai.wrap_small]<;>omega
   have w5:IntKind.wrap .i64 ((nOps f.cross:Int)+(f.cross.length:Int))=((nOps f.cross+f.cross.length:Nat):Int):=by rw[Go.Ai.wrap_small]<;>omega
   rw[e7]at v7
   rw[e9]at v9
   refine⟨HL,cw_of fn3 (c:=c3) rfl rfl rfl rfl ?_⟩
   simp -implicitDefEqProofs only[c3,aW,↓aP,makes,reduceLT,reduceEqDiff,reduceAdd,core_box,flat_f,zA,zC,lA0,core_build,bz,hsm,h1,st1,lA1,lP1,h2,st2,bne_self_eq_false,R0,fadr_ptr,zB,z0,z1,z2,z4,z5,z7,y4,y7,y8,y9,v7,v8,v9,lenV_strs,lenV_row,lenV_mems,lenV_conts,lenV_cross,w1,w2,w3,w4,w5,R1,R2,R3,haw]
   rfl
end
end Go.Proofs.Ytcgbdndkfonphaa.Ai
