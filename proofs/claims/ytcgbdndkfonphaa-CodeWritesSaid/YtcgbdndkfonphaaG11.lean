/- Seat of layers 14 and 15: CodeBodies tells true. No condition. -/
import Derived.Test.YtcgbdndkfonphaaG10
set_option linter.unusedSimpArgs false
set_option linter.unusedVariables false
set_option linter.unusedSectionVars false
open Nat (reduceLT reduceEqDiff reduceAdd)
namespace Go.Proofs.Ytcgbdndkfonphaa.Ai
open Go Go.Ai
section
variable {call:CallF}{mt:MtF}{md:FuncId→Md}
def kOps:List (List Nat):=[[108,105,116],[105,110],[109,101,109],[99,111,110,116],[102,108,97,103],[99,111,112,121],[110,101,103],[110,111,116],[102,108,111,111,114],[114,97,116],[103,97,110,100],[109,114,103],[115,101,108],[43],[45],[42],[47],[100,105,118],[109,111,100],[60],[60,61],[62],[62,61],[61,61],[33,61],[97,110,100],[111,114]]
theorem eqOk_not{f:FlatV}{q:Eqn}{t:List Nat}(hk:kOps.all (fun l=>!((bs t).data.toList==(bs l).data.toList))=true)(h:eqOk f q=true):isS q.op t=false:=by
 rw[yO]
 intro ht
 rw[yD]at hk
 have e:∀l,l∈kOps→isS q.op l=false:=fun l hl=>isS_ne ht (by have:=hk l hl;simpa using this)
 simp only[eqOk,isOne,isTwo,isBin,e [108,105,116] (by simp[kOps]),e [105,110] (by simp[kOps]),e [109,101,109] (by simp[kOps]),e [99,111,110,116] (by simp[kOps]),e [102,108,97,103] (by simp[kOps]),e [99,111,112,121] (by simp[kOps]),e [110,101,103] (by simp[kOps]),e [110,111,116] (by simp[kOps]),e [102,108,111,111,114] (by simp[kOps]),e [114,97,116] (by simp[kOps]),e [103,97,110,100] (by simp[kOps]),e [109,114,103] (by simp[kOps]),e [115,101,108] (by simp[kOps]),e [43] (by simp[kOps]),e [45] (by simp[kOps]),e [42] (by simp[kOps]),e [47] (by simp[kOps]),e [100,105,118] (by simp[kOps]),e [109,111,100] (by simp[kOps]),e [60] (by simp[kOps]),e [60,61] (by simp[kOps]),e [62] (by simp[kOps]),e [62,61] (by simp[kOps]),e [61,61] (by simp[kOps]),e [33,61] (by simp[kOps]),e [97,110,100] (by simp[kOps]),e [111,114] (by simp[kOps]),Bool.or_self,cond_false]at h
 exact Bool.noConfusion h
theorem eqOk_all{f:FlatV}(h:goodOk f=true):∀q∈f.eqs,eqOk f q=true:=by
 unfold goodOk nV at h
 simp only[zL]at h
 obtain⟨⟨⟨⟨⟨⟨h1,h2⟩,h3⟩,h4⟩,h5⟩,h6⟩,h7⟩:=h
 have he:∃T',eqsF f f.names.length (List.replicate f.names.length false) f.eqs=some T':=by
  unfold eqsOk at h5
  cases e:eqsF f f.names.length (List.replicate f.names.length false) f.eqs with
  | some T=>exact⟨T,rfl⟩
  | none=>rw[e]at h5;cases h5
 obtain⟨T',hT⟩:=he
 exact fun q hq=>((eqsF_facts f f.names.length f.eqs _ T' (by simp) hT).1 q hq).2.2.2.2
theorem isN(s:ByteArray)(l:List Nat):bin .neq (litS s) (litS (bs l))=some (litB (!(isS s l))):=rfl
theorem ln_list(s:ByteArray):(bs [108]++s).data.toList=108::s.data.toList:=by
 rw[ByteArray.data_append,uJ];rfl
theorem ln_ask(s:ByteArray):isS (bs [108]++s) [97,115,107]=false:=by
 unfold isS;rw[ln_list];rfl
theorem StepOk.len{f:FlatV}{ord slots:List Int}{L:List InsV}(h:StepOk f ord slots L):L.length=ord.length+f.mems.length+f.conts.length+f.outs.length+f.again.length:=by
 obtain⟨L1,Q,_,q2,q3,q4⟩:=h
 have l4:=congrArg List.length q4
 have l3:=congrArg List.length q3
 have l2:=congrArg List.length q2
 simp only[yV,zN,uU]at l4 l3 l2
 omega
theorem crsF_len:∀(base:Int)(l:List CrossV),(crsF base l).length=nOps l+l.length
 | _,[]=>rfl
 | base,x::r=>by
  rw[crsF,zN,zN,lnsF_len,crsF_len _ r,nOps,zC,zC,zA];omega
theorem lnsF_q(base:Int):∀(i:Nat)(l:List COpV),∀e∈lnsF base i l,∃s,e.1=bs [108]++s
 | _,[],e,h=>by cases h
 | i,o::r,e,h=>by
  rw[lnsF]at h
  rcases zO.1 h with rfl|h
  ·exact⟨_,rfl⟩
  ·exact lnsF_q base (i+1) r e h
def isAsk(e:ByteArray):Bool:=isS e [97,115,107]
theorem StepOk.ops{f:FlatV}(hG:goodOk f=true){ord slots:List Int}{L:List InsV}(h:StepOk f ord slots L):∀e∈L.map (fun e=>(e.op,e.dst,e.k)),isS e.1 [115,108,111,112,101]=false∧isS e.1 [97,115,107]=false:=by
 obtain⟨L1,Q,q1,q2,q3,q4⟩:=h
 intro e he
 rw[q4]at he
 simp only[zY]at he
 rcases he with(((he|he)|he)|he)|he
 ·obtain⟨v,hv,rfl⟩:=zW.1 he
  have:(v.op,v.dst)∈Q.map (fun q=>(q.op,slotV slots q.var)):=by rw[←q3];exact zW.2 ⟨v,hv,rfl⟩
  obtain⟨q,hq,e⟩:=zW.1 this
  have hqo:=eqOk_all hG q (q1 q hq)
  have e1:q.op=v.op:=congrArg Prod.fst e
  show isS v.op _=false∧isS v.op _=false
  rw[←e1]
  exact⟨eqOk_not rfl hqo,eqOk_not rfl hqo⟩
 ·obtain⟨n,_,rfl⟩:=zW.1 he;exact⟨rfl,rfl⟩
 ·obtain⟨n,_,rfl⟩:=zW.1 he;exact⟨rfl,rfl⟩
 ·obtain⟨n,_,rfl⟩:=zW.1 he;exact⟨rfl,rfl⟩
 ·obtain⟨n,_,rfl⟩:=zW.1 he;exact⟨rfl,rfl⟩
end
section
def incL(l:List Int)(i:Int):List Int:=l.set i.toNat (l.getD i.toNat 0+1)
theorem incL_len(l:List Int)(i:Int):(incL l i).length=l.length:=by simp[incL]
theorem incL_at(l:List Int)(i:Int)(h0:0≤i)(k:Nat)(hk:k<l.length):(incL l i).getD k 0=l.getD k 0+(if i=(k:Int)then 1 else 0):=by
 unfold incL
 by_cases e:i.toNat=k
 ·rw[if_pos (by omega),←e,zF,yK (by omega)];rfl
 ·rw[if_neg (by omega),zF,yT e,←zF,Int.add_zero]
theorem incs_len:∀(is:List Int)(l:List Int),(is.foldl incL l).length=l.length
 | [],_=>rfl
 | i::is,l=>by rw[wC,incs_len is,incL_len]
theorem incs_at:∀(is:List Int)(l:List Int),(∀i∈is,0≤i)→∀(k:Nat),k<l.length→(is.foldl incL l).getD k 0=l.getD k 0+(is.count (k:Int):Int)
 | [],_,_,k,_=>by simp
 | i::is,l,h,k,hk=>by
  rw[wC,incs_at is _ (fun j hj=>h j (zI _ hj)) k (by rw[incL_len];exact hk),incL_at l i (h i (zM ..)) k hk,List.count_cons]
  by_cases e:i=(k:Int)
  ·subst e;simp;omega
  ·rw[if_neg e,if_neg (by simpa using e)];omega
structure W4 where
 sl:List Int
 ke:List Int
 st:List Int
 ou:List Int
def wr4(s:W4)(e:ByteArray×Int×Int):W4 :=
 bif isS e.1 [107,101,101,112]then { s with ke:=incL s.ke e.2.2 } else bif isS e.1 [115,116,97,116,101]then { s with st:=incL s.st e.2.2 }
 else bif isS e.1 [111,117,116]then { s with ou:=incL s.ou e.2.2 } else bif isS e.1 [97,103,97,105,110]then s else { s with sl:=incL s.sl e.2.1 }
def ok4(a b c e:Nat)(x:ByteArray×Int×Int):Bool :=
 bif isS x.1 [107,101,101,112]then inN b x.2.2 else bif isS x.1 [115,116,97,116,101]then inN c x.2.2 else bif isS x.1 [111,117,116]then inN e x.2.2 else bif isS x.1 [97,103,97,105,110]then true else inN a x.2.1
theorem wr4_plain{s:W4}{e:ByteArray×Int×Int}(h1:isS e.1 [107,101,101,112]=false)(h2:isS e.1 [115,116,97,116,101]=false)(h3:isS e.1 [111,117,116]=false)(h4:isS e.1 [97,103,97,105,110]=false):wr4 s e={ s with sl:=incL s.sl e.2.1 }:=by
 unfold wr4;rw[h1,h2,h3,h4];rfl
theorem fold_plain:∀(T:List (ByteArray×Int×Int))(s:W4),(∀e∈T,isS e.1 [107,101,101,112]=false∧isS e.1 [115,116,97,116,101]=false∧isS e.1 [111,117,116]=false∧isS e.1 [97,103,97,105,110]=false)→T.foldl wr4 s={ s with sl:=(T.map (·.2.1)).foldl incL s.sl }
 | [],s,_=>rfl
 | e::T,s,h=>by
  obtain⟨h1,h2,h3,h4⟩:=h e (zM ..)
  rw[wC,wr4_plain h1 h2 h3 h4,fold_plain T _ fun x hx=>h x (zI _ hx)]
  rfl
theorem fold_keep:∀(T:List Nat)(s:W4),(T.map fun n:Nat=>((bs [107,101,101,112],0,(n:Int)):ByteArray×Int×Int)).foldl wr4 s={ s with ke:=(T.map fun n:Nat=>(n:Int)).foldl incL s.ke }
 | [],s=>rfl
 | n::T,s=>by rw[yJ,wC,fold_keep T];rfl
theorem fold_state:∀(T:List Nat)(s:W4),(T.map fun n:Nat=>((bs [115,116,97,116,101],0,(n:Int)):ByteArray×Int×Int)).foldl wr4 s={ s with st:=(T.map fun n:Nat=>(n:Int)).foldl incL s.st }
 | [],s=>rfl
 | n::T,s=>by rw[yJ,wC,fold_state T];rfl
theorem fold_out:∀(T:List Nat)(s:W4),(T.map fun n:Nat=>((bs [111,117,116],0,(n:Int)):ByteArray×Int×Int)).foldl wr4 s={ s with ou:=(T.map fun n:Nat=>(n:Int)).foldl incL s.ou }
 | [],s=>rfl
 | n::T,s=>by rw[yJ,wC,fold_out T];rfl
theorem fold_again:∀(T:List Int)(s:W4),(T.map fun _=>((bs [97,103,97,105,110],0,0):ByteArray×Int×Int)).foldl wr4 s=s
 | [],s=>rfl
 | n::T,s=>by rw[yJ,wC,fold_again T];rfl
theorem count_range(k:Nat):∀n,((List.range n).map fun n:Nat=>(n:Int)).count (k:Int)=if k<n then 1 else 0
 | 0=>rfl
 | n+1=>by
  rw[List.range_succ,vG,List.count_append,count_range k n,yJ,vE,List.count_singleton]
  by_cases h:n=k
  ·subst h;simp
  ·rw[if_neg (c:=((n:Int)==(k:Int))=true) (by simpa using by omega)]
   by_cases h2:k<n
   ·rw[if_pos h2,if_pos (by omega)]
   ·rw[if_neg h2,if_neg (by omega)]
theorem ones(n:Nat):∀x∈((List.range n).map fun n:Nat=>(n:Int)).foldl incL (List.replicate n 0),x=1:=by
 intro x hx
 obtain⟨k,hk⟩:=wM hx
 have hl:k<n:=by
  have:=(zG.1 hk).1
  rw[incs_len,xM]at this;exact this
 have:=incs_at ((List.range n).map fun n:Nat=>(n:Int)) (List.replicate n 0) (fun i hi=>by
  obtain⟨m,_,rfl⟩:=zW.1 hi;omega) k (by rw[xM];exact hl)
 rw[count_range,if_pos hl,zF,hk,zF,wS,if_pos hl]at this
 exact this
theorem perm_range{n:Nat}{ord:List Int}(P:PermO n ord):ord.Perm ((List.range n).map fun n:Nat=>(n:Int)):=by
 refine(List.perm_ext_iff_of_nodup P.nd ?_).2 fun a=>⟨fun ha=>?_,fun ha=>?_⟩
 ·rw[List.nodup_iff_count]
  intro a
  by_cases h:0≤a
  ·rw[←wR h,count_range]
   by_cases h2:a.toNat<n
   ·rw[if_pos h2];exact zT _
   ·rw[if_neg h2];exact uI _
  ·rw[List.count_eq_zero_of_not_mem]
   ·exact uI _
   ·intro hm
    obtain⟨m,_,rfl⟩:=zW.1 hm;omega
 ·have:=P.rng a ha
  exact zW.2 ⟨a.toNat,yS.2 (by omega),by omega⟩
 ·obtain⟨m,hm,rfl⟩:=zW.1 ha
  exact P.all m (yS.1 hm)
theorem slots_map{slots:List Int}:((List.range slots.length).map fun n:Nat=>(n:Int)).map (slotV slots)=slots:=by
 rw[yZ]
 refine uA fun i=>?_
 rw[xJ]
 by_cases h:i<slots.length
 ·rw[List.getElem?_range h]
  simp only[yR,Function.comp,slotV]
  rw[if_neg (by omega),xF,zF,zE h];rfl
 ·rw[xU (l:=slots) (by omega),xU (l:=List.range slots.length) (by simp;omega)];rfl
theorem slots_count{n:Nat}{ord slots:List Int}(P:PermO n ord)(hl:slots.length=n)(k:Int):(ord.map (slotV slots)).count k=slots.count k:=by
 have h:=((perm_range P).map (slotV slots)).count_eq k
 subst hl
 rw[slots_map]at h
 exact h
def wrL(l:List Int)(e:ByteArray×Int×Int):List Int:=bif isAsk e.1 then l else incL l e.2.1
theorem fold_wrL:∀(T:List (ByteArray×Int×Int))(l:List Int),T.foldl wrL l=((T.filter fun e=>!(isAsk e.1)).map (·.2.1)).foldl incL l
 | [],l=>rfl
 | e::T,l=>by
  rw[wC,fold_wrL T,wrL,vM]
  cases isAsk e.1<;>rfl
theorem lnsF_dst(base:Int):∀(i:Nat)(l:List COpV),(lnsF base i l).map (·.2)=(List.range l.length).map fun n:Nat=>base+(i:Int)+(n:Int)
 | _,[]=>rfl
 | i,o::r=>by
  rw[lnsF,yJ,lnsF_dst base (i+1) r,zC,vQ,yJ,yZ]
  refine List.cons_eq_cons.2 ⟨by simp,wK fun n _=>?_⟩
  simp only[Function.comp];omega
theorem lnsF_flt(base:Int)(i:Nat)(l:List COpV):(lnsF base i l).filter (fun e=>!(isAsk e.1))=lnsF base i l:=by
 rw[tD]
 intro e he
 obtain⟨s,hs⟩:=lnsF_q base i l e he
 rw[hs,isAsk,ln_ask];rfl
theorem crsF_dst:∀(l:List CrossV)(base:Nat),((crsF (base:Int) l).filter fun e=>!(isAsk e.1)).map (·.2)=(List.range (nOps l)).map fun n:Nat=>(base:Int)+(n:Int)
 | [],_=>rfl
 | x::r,base=>by
  have e:((base:Int)+(x.ops.length:Int))=((base+x.ops.length:Nat):Int):=by omega
  rw[crsF,e,uT,uT,lnsF_flt,vG,vG,lnsF_dst,crsF_dst r,nOps,List.range_add,vG,yZ]
  have h0:List.filter (fun e:ByteArray×Int=>!(isAsk e.1)) [(bs [97,115,107],0)]=[]:=rfl
  rw[h0,vE,zZ]
  refine congr (congrArg HAppend.hAppend (wK fun n _=>by simp)) (wK fun n _=>?_)
  simp only[Function.comp];omega
theorem lines_dst{L9:List InsV}{cr:List CrossV}(h:L9.map (fun e=>(e.op,e.dst))=crsF 0 cr):(((L9.map fun e=>(e.op,e.dst,e.k)).filter fun e=>!(isAsk e.1)).map (·.2.1))=(List.range (nOps cr)).map fun n:Nat=>(n:Int):=by
 have h2:=crsF_dst cr 0
 rw[show(((0:Nat):Int))=0 from rfl,←h]at h2
 have:∀L:List InsV,(((L.map fun e=>(e.op,e.dst,e.k)).filter fun e=>!(isAsk e.1)).map (·.2.1))=((L.map fun e=>(e.op,e.dst)).filter fun e=>!(isAsk e.1)).map (·.2):=by
  intro L
  induction L with
  | nil=>rfl
  | cons a r ih =>
   simp only[yJ,vM]
   cases isAsk a.op<;>simp[ih]
 rw[this,h2]
 exact wK fun n _=>by simp
end
section
variable {call:CallF}{mt:MtF}{md:FuncId→Md}
theorem ins_h0(op:ByteArray)(dst:Int)(a:AV)(k:Int)(l4 l5 l6 l7 l8:AV)(g:Int)(r:AV):(List.drop 0 (insC op dst a k l4 l5 l6 l7 l8 g r)).head?=some (litS op):=rfl
theorem ins_h1(op:ByteArray)(dst:Int)(a:AV)(k:Int)(l4 l5 l6 l7 l8:AV)(g:Int)(r:AV):(List.drop 1 (insC op dst a k l4 l5 l6 l7 l8 g r)).head?=some (litI .i64 dst):=rfl
end
section
variable {call:CallF}{mt:MtF}{md:FuncId→Md}
theorem iadr_own1{r n:Nat}{c:Option Nat}{x:Int}(h0:0≤x)(h1:x<(n:Int)):iadr 1 (.own r 0 n 1 c) (litI .i64 x)=some (.ptr r x.toNat):=by
 rw[iadr_own,if_pos ⟨h0,h1⟩];simp
theorem ints_rd{H:List AO}{r:Nat}{l:List Int}(h:H[r]?=some (.row (cellsI l) 3)){i:Nat}(hi:i<l.length):Ai.load H none (.ptr r i)=some (litI .i64 (l.getD i 0)):=by
 rw[load_ptr h,cellsI,xJ,zF,zE hi];rfl
theorem ints_wr{H:List AO}{r:Nat}{l:List Int}(h:H[r]?=some (.row (cellsI l) 3)){i:Nat}(hi:i<l.length)(y:Int):storeAt H 1 (.ptr r i) (litI .i64 y)=some (setL H r (.row (cellsI (l.set i y)) 3)):=by
 rw[store_ptr h (by simpa [cellsI]using hi) rfl rfl]
 simp[cellsI,uG]
theorem Own.set2{H:List AO}{a:Obj1}{d:List Obj1}{r:Nat}{cs:List AV}{t:TypeId}(W:Own H (a::(r,cs,t)::d))(cs':List AV):Own (setL H r (.row cs' t)) (a::(r,cs',t)::d) :=
 ((W.perm (List.Perm.swap ..)).set cs' t).perm (List.Perm.swap ..)
theorem Own.set3{H:List AO}{a b:Obj1}{d:List Obj1}{r:Nat}{cs:List AV}{t:TypeId}(W:Own H (a::b::(r,cs,t)::d))(cs':List AV):Own (setL H r (.row cs' t)) (a::b::(r,cs',t)::d):=by
 have p:∀x:Obj1,(a::b::x::d).Perm (x::a::b::d):=fun x=>vL (l₁:=[a,b])
 exact((W.perm (p _)).set cs' t).perm (p _).symm
theorem Own.set4{H:List AO}{a b e:Obj1}{d:List Obj1}{r:Nat}{cs:List AV}{t:TypeId}(W:Own H (a::b::e::(r,cs,t)::d))(cs':List AV):Own (setL H r (.row cs' t)) (a::b::e::(r,cs',t)::d):=by
 have p:∀x:Obj1,(a::b::e::x::d).Perm (x::a::b::e::d):=fun x=>vL (l₁:=[a,b,e])
 exact((W.perm (p _)).set cs' t).perm (p _).symm
def bnd(l:List Int)(n:Nat):Prop:=∀i,-(n:Int)≤l.getD i 0∧l.getD i 0≤n
theorem bnd.inc{l:List Int}{n:Nat}(h:bnd l n)(i:Int):bnd (incL l i) (n+1):=by
 intro k
 have hk:=h k
 have hi:=h i.toNat
 unfold incL
 by_cases e:i.toNat=k
 ·rw[zF]
  by_cases hl:i.toNat<l.length
  ·rw[←e,yK hl,wD];omega
  ·rw[List.set_eq_of_length_le (by omega),←zF];omega
 ·rw[zF,yT e,←zF];omega
theorem bnd.mono{l:List Int}{n m:Nat}(h:bnd l n)(hm:n≤m):bnd l m:=fun i=>by have:=h i;omega
theorem bnd_rep(k n:Nat):bnd (List.replicate k 0) n:=fun i=>by
 rw[zF,wS]
 split<;>simp<;>omega
abbrev o4(r7 r9 r10 r11:Nat)(s:W4)(d:List Obj1):List Obj1:=(r7,cellsI s.sl,3)::(r9,cellsI s.ke,3)::(r10,cellsI s.st,3)::(r11,cellsI s.ou,3)::d
def len4(s:W4)(a b c e:Nat):Prop:=s.sl.length=a∧s.ke.length=b∧s.st.length=c∧s.ou.length=e
def bnd4(s:W4)(n:Nat):Prop:=bnd s.sl n∧bnd s.ke n∧bnd s.st n∧bnd s.ou n
theorem wr4_len{s:W4}{a b c e:Nat}(h:len4 s a b c e)(x:ByteArray×Int×Int):len4 (wr4 s x) a b c e:=by
 obtain⟨h1,h2,h3,h4⟩:=h
 unfold wr4
 cases isS x.1 [107,101,101,112]
 ·cases isS x.1 [115,116,97,116,101]
  ·cases isS x.1 [111,117,116]
   ·cases isS x.1 [97,103,97,105,110]
    ·exact⟨(incL_len ..).trans h1,h2,h3,h4⟩
    ·exact⟨h1,h2,h3,h4⟩
   ·exact⟨h1,h2,h3,(incL_len ..).trans h4⟩
  ·exact⟨h1,h2,(incL_len ..).trans h3,h4⟩
 ·exact⟨h1,(incL_len ..).trans h2,h3,h4⟩
theorem wr4_bnd{s:W4}{n:Nat}(h:bnd4 s n)(x:ByteArray×Int×Int):bnd4 (wr4 s x) (n+1):=by
 obtain⟨h1,h2,h3,h4⟩:=h
 unfold wr4
 cases isS x.1 [107,101,101,112]
 ·cases isS x.1 [115,116,97,116,101]
  ·cases isS x.1 [111,117,116]
   ·cases isS x.1 [97,103,97,105,110]
    ·exact⟨h1.inc _,h2.mono (by omega),h3.mono (by omega),h4.mono (by omega)⟩
    ·exact⟨h1.mono (by omega),h2.mono (by omega),h3.mono (by omega),h4.mono (by omega)⟩
   ·exact⟨h1.mono (by omega),h2.mono (by omega),h3.mono (by omega),h4.inc _⟩
  ·exact⟨h1.mono (by omega),h2.mono (by omega),h3.inc _,h4.mono (by omega)⟩
 ·exact⟨h1.mono (by omega),h2.inc _,h3.mono (by omega),h4.mono (by omega)⟩
theorem write_l0(cs:List AV)(A:AV)(hcs:cs[7]?=some A)(C:List (ByteArray×Int×Int))(hA:InsF A C)(hn:C.length≤100000)(a b c e:Nat)(hC:∀x∈C,ok4 a b c e x=true)(r7 r9 r10 r11:Nat)(cp7 cp9 cp10 cp11:Option Nat)(v8:AV)(d:List Obj1)(hd:(2,cs,39)∈d):∀(j i:Nat)(H:List AO)(s:W4),j+i=C.length→len4 s a b c e→bnd4 s i→Own H (o4 r7 r9 r10 r11 s d) →
  ∃H',loopW (codeW cw (lookM mtl) mds c4l0) [3,5,7,8,9,10,11,12] [(3,.ptr 1 0),(5,.ptr 2 0),(7,.own r7 0 a 1 cp7),(8,v8),(9,.own r9 0 b 1 cp9),(10,.own r10 0 c 1 cp10),(11,.own r11 0 e 1 cp11),(12,litI .i64 i)] H =
   some (.exit 0,[(3,.ptr 1 0),(5,.ptr 2 0),(7,.own r7 0 a 1 cp7),(8,v8),(9,.own r9 0 b 1 cp9),(10,.own r10 0 c 1 cp10),(11,.own r11 0 e 1 cp11),(12,litI .i64 C.length),(70,litB false)],H')∧Own H' (o4 r7 r9 r10 r11 ((C.drop i).foldl wr4 s) d)
 | 0,i,H,s,h,hl,hb,W=>by
  have hi:i=C.length:=by omega
  subst hi
  have lx:Ai.load H none (.ptr 2 7)=some A:=by rw[load_ptr (W.get (2,cs,39) (by simp[hd]))];exact hcs
  refine⟨H,loopW_out ?_ (by simp),by rw[yB];exact W⟩
  simp -implicitDefEqProofs only[c4l0,aW,↓aP,makes,reduceLT,reduceEqDiff,reduceAdd,↓reduceIte,Nat.reduceBEq,fadr_ptr,zB,lx,hA.lenV,zR]
 | j+1,i,H,s,h,hl,hb,W=>by
  have hi:i<C.length:=by omega
  have hlt:(i:Int)<C.length:=by omega
  have hg:C[i]?=some C[i]:=zE hi
  have ho:=hC _ (zV hi)
  rw[zS hi,wC]
  generalize C[i]=x at hg ho
  have hl':=wr4_len hl x
  have hb':=wr4_bnd hb x
  obtain⟨y,ia,a',l4,l5,l6,l7,l8,g,r,rfl,hyc⟩:=hA.iadr hg
  have lx:Ai.load H none (.ptr 2 7)=some A:=by rw[load_ptr (W.get (2,cs,39) (by simp[hd]))];exact hcs
  have ly:=load_ipA (H:=H) (show(insC x.1 x.2.1 a' x.2.2 l4 l5 l6 l7 l8 g r).length=11 from rfl)
  have st0:storeAt (H++[.row z11 54]) 11 (.ptr H.length 0) (.agg (insC x.1 x.2.1 a' x.2.2 l4 l5 l6 l7 l8 g r))=some (H++[.row (insC x.1 x.2.1 a' x.2.2 l4 l5 l6 l7 l8 g r) 54]):=by
   have:=store_app H [.row z11 54] 11 0 0 (.agg (insC x.1 x.2.1 a' x.2.2 l4 l5 l6 l7 l8 g r))
   rw[zK]at this
   rw[this,storeAt_agg (n:=11) (H:=[.row z11 54]) (r:=0) (cs:=z11) (xs:=insC x.1 x.2.1 a' x.2.2 l4 l5 l6 l7 l8 g r) (t:=54) rfl rfl rfl hyc];rfl
  have g0:Ai.load (H++[.row (insC x.1 x.2.1 a' x.2.2 l4 l5 l6 l7 l8 g r) 54]) none (.ptr H.length 0)=some (litS x.1):=by rw[load_app0];rfl
  have g1:Ai.load (H++[.row (insC x.1 x.2.1 a' x.2.2 l4 l5 l6 l7 l8 g r) 54]) none (.ptr H.length 1)=some (litI .i64 x.2.1):=by rw[load_app0];rfl
  have g3:Ai.load (H++[.row (insC x.1 x.2.1 a' x.2.2 l4 l5 l6 l7 l8 g r) 54]) none (.ptr H.length 3)=some (litI .i64 x.2.2):=by rw[load_app0];rfl
  have W1:=Own.pad W (.row (insC x.1 x.2.1 a' x.2.2 l4 l5 l6 l7 l8 g r) 54)
  generalize hHx:H++[AO.row (insC x.1 x.2.1 a' x.2.2 l4 l5 l6 l7 l8 g r) 54]=Hx at st0 g0 g1 g3 W1
  have wi:=wrap1 (show i<4611686018427387904 by omega)
  unfold ok4 at ho
  obtain⟨n1,n2,n3,n4⟩:=hl
  obtain⟨b1,b2,b3,b4⟩:=hb
  have inc:∀ {l:List Int}{q n:Nat},l.length=n→bnd l i→Hx[q]?=some (.row (cellsI l) 3)→∀ {z:Int},inN n z=true→(∀c,Ai.iadr 1 (.own q 0 n 1 c) (litI .i64 z)=some (.ptr q z.toNat))∧Ai.load Hx none (.ptr q z.toNat)=some (litI .i64 (l.getD z.toNat 0))∧IntKind.wrap .i64 (l.getD z.toNat 0+1)=l.getD z.toNat 0+1∧storeAt Hx 1 (.ptr q z.toNat) (litI .i64 (l.getD z.toNat 0+1))=some (setL Hx q (.row (cellsI (incL l z)) 3)):=by
   intro l q n hl hb hq z hz
   rw[inN_iff]at hz
   have hb1:=hb z.toNat
   refine⟨fun c=>iadr_own1 hz.1 hz.2,ints_rd hq (by omega),by rw[Go.Ai.wrap_small]<;>omega,ints_wr hq (by omega) _⟩
  cases k1:isS x.1 [107,101,101,112]with
  | true =>
   rw[k1,cond_true]at ho
   obtain⟨i1,i2,i3,i4⟩:=inc n2 b2 (W1.get (r9,cellsI s.ke,3) (by simp)) ho
   have i1:=i1 cp9
   have eS:wr4 s x={ s with ke:=incL s.ke x.2.2 }:=by unfold wr4;rw[k1];rfl
   rw[eS]at hl' hb' ⊢
   have W2:Own (setL Hx r9 (.row (cellsI (incL s.ke x.2.2)) 3)) (o4 r7 r9 r10 r11 { s with ke:=incL s.ke x.2.2 } d):=Own.set2 W1 _
   obtain⟨H',R,W'⟩:=write_l0 cs A hcs C hA hn a b c e hC r7 r9 r10 r11 cp7 cp9 cp10 cp11 v8 d hd j (i+1) _ _ (by omega) hl' hb' W2
   refine⟨H',loopW_round ?_ R,W'⟩
   simp -implicitDefEqProofs only[c4l0,aW,↓aP,makes,reduceLT,reduceEqDiff,reduceAdd,↓reduceIte,Nat.reduceBEq,fadr_ptr,zB,lx,hA.lenV,hlt,ia,ly,st0,hHx,g0,g3,bin_isS,k1,i1,i2,i3,i4,wi]
  | false =>
  rw[k1,cond_false]at ho
  cases k2:isS x.1 [115,116,97,116,101]with
  | true =>
   rw[k2,cond_true]at ho
   obtain⟨i1,i2,i3,i4⟩:=inc n3 b3 (W1.get (r10,cellsI s.st,3) (by simp)) ho
   have i1:=i1 cp10
   have eS:wr4 s x={ s with st:=incL s.st x.2.2 }:=by unfold wr4;rw[k1,k2];rfl
   rw[eS]at hl' hb' ⊢
   have W2:Own (setL Hx r10 (.row (cellsI (incL s.st x.2.2)) 3)) (o4 r7 r9 r10 r11 { s with st:=incL s.st x.2.2 } d):=Own.set3 W1 _
   obtain⟨H',R,W'⟩:=write_l0 cs A hcs C hA hn a b c e hC r7 r9 r10 r11 cp7 cp9 cp10 cp11 v8 d hd j (i+1) _ _ (by omega) hl' hb' W2
   refine⟨H',loopW_round ?_ R,W'⟩
   simp -implicitDefEqProofs only[c4l0,aW,↓aP,makes,reduceLT,reduceEqDiff,reduceAdd,↓reduceIte,Nat.reduceBEq,fadr_ptr,zB,lx,hA.lenV,hlt,ia,ly,st0,hHx,g0,g3,bin_isS,k1,k2,i1,i2,i3,i4,wi]
  | false =>
  rw[k2,cond_false]at ho
  cases k3:isS x.1 [111,117,116]with
  | true =>
   rw[k3,cond_true]at ho
   obtain⟨i1,i2,i3,i4⟩:=inc n4 b4 (W1.get (r11,cellsI s.ou,3) (by simp)) ho
   have i1:=i1 cp11
   have eS:wr4 s x={ s with ou:=incL s.ou x.2.2 }:=by unfold wr4;rw[k1,k2,k3];rfl
   rw[eS]at hl' hb' ⊢
   have W2:Own (setL Hx r11 (.row (cellsI (incL s.ou x.2.2)) 3)) (o4 r7 r9 r10 r11 { s with ou:=incL s.ou x.2.2 } d):=Own.set4 W1 _
   obtain⟨H',R,W'⟩:=write_l0 cs A hcs C hA hn a b c e hC r7 r9 r10 r11 cp7 cp9 cp10 cp11 v8 d hd j (i+1) _ _ (by omega) hl' hb' W2
   refine⟨H',loopW_round ?_ R,W'⟩
   simp -implicitDefEqProofs only[c4l0,aW,↓aP,makes,reduceLT,reduceEqDiff,reduceAdd,↓reduceIte,Nat.reduceBEq,fadr_ptr,zB,lx,hA.lenV,hlt,ia,ly,st0,hHx,g0,g3,bin_isS,k1,k2,k3,i1,i2,i3,i4,wi]
  | false =>
  rw[k3,cond_false]at ho
  cases k4:isS x.1 [97,103,97,105,110]with
  | true =>
   have eS:wr4 s x=s:=by unfold wr4;rw[k1,k2,k3,k4];rfl
   rw[eS]at hl' hb' ⊢
   obtain⟨H',R,W'⟩:=write_l0 cs A hcs C hA hn a b c e hC r7 r9 r10 r11 cp7 cp9 cp10 cp11 v8 d hd j (i+1) _ _ (by omega) hl' hb' W1
   refine⟨H',loopW_round ?_ R,W'⟩
   simp -implicitDefEqProofs only[c4l0,aW,↓aP,makes,reduceLT,reduceEqDiff,reduceAdd,↓reduceIte,Nat.reduceBEq,fadr_ptr,zB,lx,hA.lenV,hlt,ia,ly,st0,hHx,g0,bin_isS,k1,k2,k3,k4,wi]
  | false =>
   rw[k4,cond_false]at ho
   obtain⟨i1,i2,i3,i4⟩:=inc n1 b1 (W1.get (r7,cellsI s.sl,3) (by simp)) ho
   have i1:=i1 cp7
   have eS:wr4 s x={ s with sl:=incL s.sl x.2.1 }:=by unfold wr4;rw[k1,k2,k3,k4];rfl
   rw[eS]at hl' hb' ⊢
   have W2:Own (setL Hx r7 (.row (cellsI (incL s.sl x.2.1)) 3)) (o4 r7 r9 r10 r11 { s with sl:=incL s.sl x.2.1 } d):=W1.set _ _
   obtain⟨H',R,W'⟩:=write_l0 cs A hcs C hA hn a b c e hC r7 r9 r10 r11 cp7 cp9 cp10 cp11 v8 d hd j (i+1) _ _ (by omega) hl' hb' W2
   refine⟨H',loopW_round ?_ R,W'⟩
   simp -implicitDefEqProofs only[c4l0,aW,↓aP,makes,reduceLT,reduceEqDiff,reduceAdd,↓reduceIte,Nat.reduceBEq,fadr_ptr,zB,lx,hA.lenV,hlt,ia,ly,st0,hHx,g0,g1,bin_isS,k1,k2,k3,k4,i1,i2,i3,i4,wi]
end
section
variable {call:CallF}{mt:MtF}{md:FuncId→Md}
theorem write_l1(cs:List AV)(A:AV)(hcs:cs[9]?=some A)(C:List (ByteArray×Int×Int))(hA:InsF A C)(hn:C.length≤100000)(n:Nat)(hC:∀x∈C,isAsk x.1=false→inN n x.2.1=true)(r8:Nat)(cp:Option Nat)(v7 v9 v10 v11:AV)(d:List Obj1)(hd:(2,cs,39)∈d):∀(j i:Nat)(H:List AO)(l:List Int),j+i=C.length→l.length=n→bnd l i→Own H ((r8,cellsI l,3)::d) →
  ∃H',loopW (codeW cw (lookM mtl) mds c4l1) [3,5,7,8,9,10,11,14] [(3,.ptr 1 0),(5,.ptr 2 0),(7,v7),(8,.own r8 0 n 1 cp),(9,v9),(10,v10),(11,v11),(14,litI .i64 i)] H =
   some (.exit 3,[(3,.ptr 1 0),(5,.ptr 2 0),(7,v7),(8,.own r8 0 n 1 cp),(9,v9),(10,v10),(11,v11),(14,litI .i64 C.length),(120,litB false)],H')∧Own H' ((r8,cellsI ((C.drop i).foldl wrL l),3)::d)
 | 0,i,H,l,h,hl,hb,W=>by
  have hi:i=C.length:=by omega
  subst hi
  have lx:Ai.load H none (.ptr 2 9)=some A:=by rw[load_ptr (W.get (2,cs,39) (by simp[hd]))];exact hcs
  refine⟨H,loopW_out ?_ (by simp),by rw[yB];exact W⟩
  simp -implicitDefEqProofs only[c4l1,aW,↓aP,makes,reduceLT,reduceEqDiff,reduceAdd,fadr_ptr,zB,lx,hA.lenV,zR]
 | j+1,i,H,l,h,hl,hb,W=>by
  have hi:i<C.length:=by omega
  have hlt:(i:Int)<C.length:=by omega
  have hg:C[i]?=some C[i]:=zE hi
  have ho:=hC _ (zV hi)
  rw[zS hi,wC,wrL]
  generalize C[i]=x at hg ho
  obtain⟨y,ia,a',l4,l5,l6,l7,l8,g,r,rfl,hyc⟩:=hA.iadr hg
  have lx:Ai.load H none (.ptr 2 9)=some A:=by rw[load_ptr (W.get (2,cs,39) (by simp[hd]))];exact hcs
  have wi:=wrap1 (show i<4611686018427387904 by omega)
  cases k1:isAsk x.1 with
  | true =>
   rw[cond_true]
   obtain⟨H',R,W'⟩:=write_l1 cs A hcs C hA hn n hC r8 cp v7 v9 v10 v11 d hd j (i+1) H l (by omega) hl (hb.mono (by omega)) W
   unfold isAsk at k1
   refine⟨H',loopW_round ?_ R,W'⟩
   simp -implicitDefEqProofs only[c4l1,aW,↓aP,makes,reduceLT,reduceEqDiff,reduceAdd,fadr_ptr,zB,lx,hA.lenV,hlt,ia,fadr_ip,ins_h0,isN,k1,wi]
  | false =>
   rw[cond_false]
   have hz:=inN_iff.1 (ho k1)
   have hb1:=hb x.2.1.toNat
   have i1:=iadr_own1 (r:=r8) (n:=n) (c:=cp) hz.1 hz.2
   have i2:=ints_rd W.head (show x.2.1.toNat<l.length by omega)
   have i3:IntKind.wrap .i64 (l.getD x.2.1.toNat 0+1)=l.getD x.2.1.toNat 0+1:=by rw[Go.Ai.wrap_small]<;>omega
   have i4:=ints_wr W.head (show x.2.1.toNat<l.length by omega) (l.getD x.2.1.toNat 0+1)
   obtain⟨H',R,W'⟩:=write_l1 cs A hcs C hA hn n hC r8 cp v7 v9 v10 v11 d hd j (i+1) _ (incL l x.2.1) (by omega) (by rw[incL_len];exact hl) (hb.inc _) (W.set (cellsI (incL l x.2.1)) 3)
   unfold isAsk at k1
   refine⟨H',loopW_round ?_ R,W'⟩
   have i4:storeAt H 1 (.ptr r8 x.2.1.toNat) (litI .i64 (l.getD x.2.1.toNat 0+1))=some (setL H r8 (.row (cellsI (incL l x.2.1)) 3)):=i4
   simp -implicitDefEqProofs only[c4l1,aW,↓aP,makes,reduceLT,reduceEqDiff,reduceAdd,fadr_ptr,zB,lx,hA.lenV,hlt,ia,fadr_ip,ins_h0,ins_h1,isN,k1,i1,i2,i3,i4,wi]
section
variable {S B:AV}{slots:List Int}(hS:RowA S slots)(hsl:slots.length≤100000)(m:Nat)(r7:Nat)(cp:Option Nat)(v8 v9 v10 v11:AV)(d:List Obj1)(hd:(1,[B,S,litI .i64 m],32)∈d)
include hS hsl hd
theorem write_l2(i:Nat)(him:i<m):∀(j v:Nat)(H:List AO)(l:List Int),j+v=slots.length→l.length=m→l.getD i 0=((slots.drop v).count (i:Int):Int)→Own H ((r7,cellsI l,3)::d) →
  ∃(H':List AO)(l':List Int),loopW (codeW cw (lookM mtl) mds c4l2) [3,7,8,9,10,11,15,16] [(3,.ptr 1 0),(7,.own r7 0 m 1 cp),(8,v8),(9,v9),(10,v10),(11,v11),(15,litI .i64 i),(16,litI .i64 v)] H =
   some (.exit 7,[(3,.ptr 1 0),(7,.own r7 0 m 1 cp),(8,v8),(9,v9),(10,v10),(11,v11),(15,litI .i64 i),(16,litI .i64 slots.length),(151,litB false)],H')∧Own H' ((r7,cellsI l',3)::d)∧l'.length=m∧l'.getD i 0=0∧∀k,k≠i→l'.getD k 0=l.getD k 0
 | 0,v,H,l,h,hl,hc,W=>by
  have hv:v=slots.length:=by omega
  subst hv
  rw[yB,List.count_nil]at hc
  have lx:Ai.load H none (.ptr 1 1)=some S:=by rw[load_ptr (W.get (1,[B,S,litI .i64 m],32) (by simp[hd]))];rfl
  refine⟨H,l,loopW_out ?_ (by simp),W,hl,hc,fun _ _=>rfl⟩
  simp -implicitDefEqProofs only[c4l2,aW,↓aP,makes,reduceLT,reduceEqDiff,reduceAdd,fadr_ptr,zB,lx,hS.lenV,zR]
 | j+1,v,H,l,h,hl,hc,W=>by
  have hv:v<slots.length:=by omega
  have hlt:(v:Int)<slots.length:=by omega
  have hg:slots[v]?=some slots[v]:=zE hv
  rw[zS hv,List.count_cons]at hc
  generalize slots[v]=x at hg hc
  have lx:Ai.load H none (.ptr 1 1)=some S:=by rw[load_ptr (W.get (1,[B,S,litI .i64 m],32) (by simp[hd]))];rfl
  have wi:=wrap1 (show v<4611686018427387904 by omega)
  have hcl:=List.count_le_length (a:=(i:Int)) (l:=slots.drop (v+1))
  rw[vA]at hcl
  cases k1:(x==(i:Int))with
  | false =>
   rw[k1]at hc
   obtain⟨H',l',R,W',q1,q2,q3⟩:=write_l2 i him j (v+1) H l (by omega) hl (by simpa using hc) W
   refine⟨H',l',loopW_round ?_ R,W',q1,q2,q3⟩
   simp -implicitDefEqProofs only[c4l2,aW,↓aP,makes,reduceLT,reduceEqDiff,reduceAdd,fadr_ptr,zB,lx,hS.lenV,hlt,hS.iadr hg,load_ip1,k1,wi]
  | true =>
   rw[k1,if_pos rfl]at hc
   have i1:=iadr_own1 (r:=r7) (n:=m) (c:=cp) (x:=i) (by omega) (by omega)
   have i2:=ints_rd W.head (show i<l.length by omega)
   have i3:IntKind.wrap .i64 (l.getD i 0-1)=l.getD i 0-1:=by rw[Go.Ai.wrap_small]<;>omega
   have i4:=ints_wr W.head (show i<l.length by omega) (l.getD i 0-1)
   rw[xF]at i1
   obtain⟨H',l',R,W',q1,q2,q3⟩:=write_l2 i him j (v+1) _ (l.set i (l.getD i 0-1)) (by omega) (by rw[yW];exact hl) (by rw[zF,yK (by omega),wD];omega) (W.set (cellsI (l.set i (l.getD i 0-1))) 3)
   refine⟨H',l',loopW_round ?_ R,W',q1,q2,fun k hk=>by rw[q3 k hk,zF,yT (fun e=>hk e.symm),←zF]⟩
   simp -implicitDefEqProofs only[c4l2,aW,↓aP,makes,reduceLT,reduceEqDiff,reduceAdd,fadr_ptr,zB,lx,hS.lenV,hlt,hS.iadr hg,load_ip1,k1,i1,i2,i3,i4,wi]
theorem write_l3(hm:m≤100000):∀(j i:Nat)(H:List AO)(l:List Int),j+i=m→l.length=m→(∀k,k<i→l.getD k 0=0)→(∀k,i≤k→k<m→l.getD k 0=(slots.count (k:Int):Int))→Own H ((r7,cellsI l,3)::d) →
  ∃(H':List AO)(l':List Int),loopW (codeW cw (lookM mtl) mds c4l3) [3,7,8,9,10,11,15] [(3,.ptr 1 0),(7,.own r7 0 m 1 cp),(8,v8),(9,v9),(10,v10),(11,v11),(15,litI .i64 i)] H =
   some (.exit 5,[(3,.ptr 1 0),(7,.own r7 0 m 1 cp),(8,v8),(9,v9),(10,v10),(11,v11),(15,litI .i64 m),(144,litB false)],H')∧Own H' ((r7,cellsI l',3)::d)∧l'.length=m∧∀k,k<m→l'.getD k 0=0
 | 0,i,H,l,h,hl,h1,h2,W=>by
  have hi:i=m:=by omega
  subst hi
  have lx:Ai.load H none (.ptr 1 2)=some (litI .i64 i):=by rw[load_ptr (W.get (1,[B,S,litI .i64 i],32) (by simp[hd]))];rfl
  refine⟨H,l,loopW_out ?_ (by simp),W,hl,h1⟩
  simp -implicitDefEqProofs only[c4l3,aW,↓aP,makes,reduceLT,reduceEqDiff,reduceAdd,fadr_ptr,zB,lx,zR]
 | j+1,i,H,l,h,hl,h1,h2,W=>by
  have hi:i<m:=by omega
  have hlt:(i:Int)<m:=by omega
  have lx:Ai.load H none (.ptr 1 2)=some (litI .i64 m):=by rw[load_ptr (W.get (1,[B,S,litI .i64 m],32) (by simp[hd]))];rfl
  have wi:=wrap1 (show i<4611686018427387904 by omega)
  obtain⟨H1,l1,R1,W1,q1,q2,q3⟩:=write_l2 (B:=B) hS hsl m r7 cp v8 v9 v10 v11 d hd i hi slots.length 0 H l (by omega) hl (by rw[zJ];exact h2 i (zT _) hi) W
  rw[show((0:Nat):Int)=0 from rfl]at R1
  obtain⟨H',l',R,W',q4,q5⟩:=write_l3 hm j (i+1) H1 l1 (by omega) q1 (fun k hk=>by
   by_cases e:k=i
   ·rw[e];exact q2
   ·rw[q3 k e];exact h1 k (by omega)) (fun k hk hkm=>by rw[q3 k (by omega)];exact h2 k (by omega) hkm) W1
  refine⟨H',l',loopW_round ?_ R,W',q4,q5⟩
  simp -implicitDefEqProofs only[c4l3,aW,↓aP,makes,reduceLT,reduceEqDiff,reduceAdd,fadr_ptr,zB,lx,hlt,R1,wi]
end
theorem all_loop(l:List Int)(n:Int)(c:Option Nat)(hl:l.length≤1000000)(ha:∀x∈l,x=n)(H:List AO):∀(j i:Nat),j+i=l.length →
  loopW (codeW cw (lookM mtl) mds c14l0) [0,1,5] [(0,rowC l c),(1,litI .i64 n),(5,litI .i64 i)] H=some (.exit 0,[(0,rowC l c),(1,litI .i64 n),(5,litI .i64 l.length),(9,litB false)],H)
 | 0,i,h=>by
  have hi:i=l.length:=by omega
  subst hi
  refine loopW_out ?_ (by simp)
  simp -implicitDefEqProofs only[c14l0,aW,↓aP,makes,reduceLT,reduceEqDiff,reduceAdd,lenV_row,zR]
 | j+1,i,h=>by
  have hi:i<l.length:=by omega
  have hlt:(i:Int)<l.length:=by omega
  have hg:l[i]?=some l[i]:=zE hi
  rw[ha _ (zV hi)]at hg
  refine loopW_round ?_ (all_loop l n c hl ha H j (i+1) (by omega))
  simp -implicitDefEqProofs only[c14l0,aW,↓aP,makes,reduceLT,reduceEqDiff,reduceAdd,lenV_row,hlt,(RowA.of l c).iadr hg,load_ip1,bne_self_eq_false,wrap1 (show i<4611686018427387904 by omega)]
theorem all14_call{H:List AO}{r n:Nat}{l:List Int}{c:Option Nat}(hr:H[r]?=some (.row (cellsI l) 3))(hn:l.length=n)(hl:l.length≤1000000)(k:Int)(ha:∀x∈l,x=k)(id:Nat):callV cw mds 14 [.own r 0 n 1 c,litI .i64 k] H id=some (.val (litB true) none):=by
 subst hn
 obtain⟨ids,hz⟩:=frz_ints hr 14 c
 have hz:frz H frzF (.own r 0 l.length 1 c)=some (rowC l c,ids):=hz
 have hk:frz H frzF (litI .i64 k)=some (litI .i64 k,[]):=rfl
 refine callV_flat (p:=([rowC l c,litI .i64 k],ids++([]++[]))) rfl (by simp only[mapL,hz,hk,zD]) (cw_of fn14 (c:=c14) (r:=(.ret (litB true),[])) rfl rfl rfl rfl ?_)
 have L:=all_loop l k c hl ha [] l.length 0 (by omega)
 rw[show((0:Nat):Int)=0 from rfl]at L
 simp -implicitDefEqProofs only[c14,aW,↓aP,makes,reduceLT,reduceEqDiff,reduceAdd,L]
 rfl
end
section
variable {call:CallF}{mt:MtF}{md:FuncId→Md}
theorem small10_call(f:FlatV)(H:List AO)(id:Nat):callV cw mds 10 [.agg f.cs,.agg [n0,n0,litI .i64 0]] H id=some (.val (litB (small25 f)) none):=by
 obtain⟨H',h⟩:=small10_tells f RowA.nil RowA.nil 0
 have e:smallP f [] []=small25 f:=by simp[smallP]
 rw[e]at h
 exact callV_pureA (args:=[.agg f.cs,.agg [n0,n0,litI .i64 0]]) rfl rfl h rfl
theorem no_plan(f:FlatV)(F:FitsS f)(hp:planOk f=false):∃e:Int,e≠0∧(∀H id,callV cw mds 11 [.agg f.cs] H id=some (.val (.tup [planA n0 n0 0,litI .i64 e]) none))∧∀H id,callV cw mds 12 [.agg f.cs,planA n0 n0 0] H id=some (.val (.tup [.agg (out0 0 0 0 0),litI .i64 1]) none):=by
 unfold planOk at hp
 cases hG:goodOk f with
 | false =>
  have h1:=rof_bad f F (.inl hG)
  rw[hG]at h1
  exact⟨1,by omega,h1,fun H id=>codeOf_bad f F RowA.nil RowA.nil 0 (by simp) (by simp) (by unfold rightF;rw[hG];rfl) H id⟩
 | true =>
  rw[hG,zQ]at hp
  have h1:=rof_bad f F (.inr (by rw[ordRef_eq f F (goodF_of hG),hp];rfl))
  rw[hG]at h1
  refine⟨140,by omega,h1,fun H id=>codeOf_bad f F RowA.nil RowA.nil 0 (by simp) (by simp) ?_ H id⟩
  have hne:f.names.length≠0:=by
   intro h0
   have hl:(NC f).length=0:=by rw[NC_len];exact h0
   rw[show NC f=[]from List.length_eq_zero_iff.1 hl]at hp
   cases hp
  have:(((([]:List Int).length:Int))==(f.names.length:Int))=false:=by
   rw[beq_eq_false_iff_ne]
   simp only[zA]
   omega
  unfold rightF
  simp only[this,yM,zP]
theorem store_out{H:List AO}{r:Nat}{x cs:List AV}(h:H[r]?=some (.row x 39))(hx:x.length=10)(hc:cs.length=10)(hcs:cs.all cellA=true):storeAt H 10 (.ptr r 0) (.agg cs)=some (setL H r (.row cs 39)):=storeAt_agg h hx hc hcs
end
section
variable {call:CallF}{mt:MtF}{md:FuncId→Md}
theorem inN_nat{k n:Nat}(h:n<k):inN k (n:Int)=true:=inN_iff.2 ⟨by omega,by omega⟩
theorem step_writes(f:FlatV)(hG:goodOk f=true){ord slots:List Int}{n m:Nat}(P:PermO n ord)(hl:slots.length=n)(hr:∀v,v<n→0≤slots.getD v 0∧slots.getD v 0<(m:Int)){L:List InsV}(h:StepOk f ord slots L) :
  (∀x∈L.map (fun e=>(e.op,e.dst,e.k)),ok4 m f.mems.length f.conts.length f.outs.length x=true) ∧
  ∃sl:List Int,(L.map (fun e=>(e.op,e.dst,e.k))).foldl wr4 ⟨List.replicate m 0,List.replicate f.mems.length 0,List.replicate f.conts.length 0,List.replicate f.outs.length 0⟩ =
   ⟨sl,((List.range f.mems.length).map fun n:Nat=>(n:Int)).foldl incL (List.replicate f.mems.length 0),((List.range f.conts.length).map fun n:Nat=>(n:Int)).foldl incL (List.replicate f.conts.length 0),((List.range f.outs.length).map fun n:Nat=>(n:Int)).foldl incL (List.replicate f.outs.length 0)⟩ ∧
   sl.length=m∧∀k,k<m→sl.getD k 0=(slots.count (k:Int):Int):=by
 obtain⟨L1,Q,q1,q2,q3,q4⟩:=h
 have hp:∀e∈L1.map (fun e=>(e.op,e.dst,e.k)),(isS e.1 [107,101,101,112]=false∧isS e.1 [115,116,97,116,101]=false∧isS e.1 [111,117,116]=false∧isS e.1 [97,103,97,105,110]=false)∧0≤e.2.1∧e.2.1<(m:Int):=by
  intro e he
  obtain⟨v,hv,rfl⟩:=zW.1 he
  have:(v.op,v.dst)∈Q.map (fun q=>(q.op,slotV slots q.var)):=by rw[←q3];exact zW.2 ⟨v,hv,rfl⟩
  obtain⟨q,hq,e⟩:=zW.1 this
  have hqo:=eqOk_all hG q (q1 q hq)
  have e1:q.op=v.op:=congrArg Prod.fst e
  have e2:slotV slots q.var=v.dst:=congrArg Prod.snd e
  have hvr:=P.rng q.var (by rw[←q2];exact zW.2 ⟨q,hq,rfl⟩)
  have hs:=hr q.var.toNat (by omega)
  refine⟨?_,?_⟩
  ·show isS v.op _=false∧isS v.op _=false∧isS v.op _=false∧isS v.op _=false
   rw[←e1]
   exact⟨eqOk_not rfl hqo,eqOk_not rfl hqo,eqOk_not rfl hqo,eqOk_not rfl hqo⟩
  ·show 0≤v.dst∧v.dst<(m:Int)
   rw[←e2,slotV,if_neg (by omega)]
   exact hs
 rw[q4]
 refine⟨fun e he=>?_,(ord.map (slotV slots)).foldl incL (List.replicate m 0),?_,?_,?_⟩
 ·simp only[zY]at he
  rcases he with(((he|he)|he)|he)|he
  ·obtain⟨⟨h1,h2,h3,h4⟩,h5⟩:=hp e he
   unfold ok4
   rw[h1,h2,h3,h4]
   exact inN_iff.2 h5
  ·obtain⟨n,hn,rfl⟩:=zW.1 he;exact inN_nat (yS.1 hn)
  ·obtain⟨n,hn,rfl⟩:=zW.1 he;exact inN_nat (yS.1 hn)
  ·obtain⟨n,hn,rfl⟩:=zW.1 he;exact inN_nat (yS.1 hn)
  ·obtain⟨n,hn,rfl⟩:=zW.1 he;rfl
 ·rw[List.foldl_append,List.foldl_append,List.foldl_append,List.foldl_append,fold_plain _ _ (fun e he=>(hp e he).1),fold_keep,fold_state,fold_out,fold_again]
  have hd:(L1.map (fun e=>(e.op,e.dst,e.k))).map (·.2.1)=ord.map (slotV slots):=by
   have:=congrArg (List.map Prod.snd) q3
   rw[yZ,yZ]at this
   rw[←q2,yZ,yZ]
   exact this
  rw[hd]
 ·rw[incs_len,xM]
 ·intro k hk
  rw[incs_at _ _ (fun i hi=>by
   obtain⟨v,hv,rfl⟩:=zW.1 hi
   have hvr:=P.rng v hv
   rw[slotV,if_neg (by omega)]
   exact(hr v.toNat (by omega)).1) k (by rw[xM];exact hk),slots_count P hl,zF,wS,if_pos hk]
  simp
set_option maxRecDepth 100000 in
theorem codeWrites4_tells(f:FlatV):∃H',cw 4 [flatA f] []=some (.ret (litB true),H'):=by
 have lA0:Ai.load [.row f.cs 29] (some 8) (.ptr 0 0)=some (.agg f.cs):=load_agg rfl rfl
 have hsm:=small10_call f
 have haw:=awake13_call
 have bz:buildV [.sl 0 [] (some 0),.sl 0 [] (some 0),litI .i64 0] []=some (.val (.agg [n0,n0,litI .i64 0]) none):=rfl
 cases hs:small25 f with
 | false =>
  rw[hs]at hsm
  refine⟨_,cw_of fn4 (c:=c4) (r:=(.ret (litB true),[.row f.cs 29])) rfl rfl rfl rfl ?_⟩
  simp -implicitDefEqProofs only[c4,aW,↓aP,makes,reduceLT,reduceEqDiff,reduceAdd,core_box,flat_f,zA,zC,lA0,core_build,bz,hsm]
  rfl
 | true =>
  rw[hs]at hsm
  have F:=fitsS_of f hs
  cases hp:planOk f with
  | false =>
   obtain⟨e,he,h1,h2⟩:=no_plan f F hp
   have st1:storeAt [.row f.cs 29,.row zPl 32] 3 (.ptr 1 0) (planA n0 n0 0)=some [.row f.cs 29,.row [n0,n0,litI .i64 0] 32]:=store_pl f [] RowA.nil RowA.nil 0 _ rfl _ _ rfl
   have lA1:Ai.load [.row f.cs 29,.row [n0,n0,litI .i64 0] 32] (some 8) (.ptr 0 0)=some (.agg f.cs):=load_agg rfl rfl
   have lP1:Ai.load [.row f.cs 29,.row [n0,n0,litI .i64 0] 32] (some 3) (.ptr 1 0)=some (planA n0 n0 0):=load_agg rfl rfl
   have st2:storeAt [.row f.cs 29,.row [n0,n0,litI .i64 0] 32,.row (out0 0 0 0 0) 39] 10 (.ptr 2 0) (.agg (out0 0 0 0 0))=some [.row f.cs 29,.row [n0,n0,litI .i64 0] 32,.row (out0 0 0 0 0) 39]:=rfl
   have he2:(e != 0)=true:=by simp[he]
   refine⟨_,cw_of fn4 (c:=c4) (r:=(.ret (litB true),[.row f.cs 29,.row [n0,n0,litI .i64 0] 32,.row (out0 0 0 0 0) 39])) rfl rfl rfl rfl ?_⟩
   cases e1:(e==1)with
   | true =>
    simp -implicitDefEqProofs only[c4,aW,↓aP,makes,reduceLT,reduceEqDiff,reduceAdd,core_box,flat_f,zA,zC,lA0,core_build,bz,hsm,h1,st1,lA1,lP1,h2,st2,he2,e1,haw]
    rfl
   | false =>
    simp -implicitDefEqProofs only[c4,aW,↓aP,makes,reduceLT,reduceEqDiff,reduceAdd,core_box,flat_f,zA,zC,lA0,core_build,bz,hsm,h1,st1,lA1,lP1,h2,st2,he2,e1,haw]
    rfl
  | true =>
   unfold planOk at hp
   rw[zL]at hp
   obtain⟨hG,hK⟩:=hp
   have G:=goodF_of hG
   have ho:ordRef (NR f)=some (ordL (NC f)):=by rw[ordRef_eq f F G,if_pos hK]
   obtain⟨B,hB,h1⟩:=rof_good f F hG ho
   rw[ofR_pl f F G hK]at h1
   have h1:∀H id,callV cw mds 11 [.agg f.cs] H id=some (.val (.tup [planA B (rowC (plS f) (some f.names.length)) (plN f),litI .i64 0]) none):=h1
   have hn:=F.names
   have P:=(ordL_ok f F G hK).p
   have hl:=pl_len f F G hK
   have hS:=RowA.of (plS f) (some f.names.length)
   obtain⟨a,b,M,K,A7,A8,A9,h2,CF⟩:=codeOf_good f F G hB hS hl P.rng (by rw[P.len];omega) (plN f) (pl_right f F G hK hG)
   generalize hSd:rowC (plS f) (some f.names.length)=S at hS h1 h2
   obtain⟨L7,I7,hst⟩:=CF.s
   obtain⟨L9,I9,hc9⟩:=CF.c
   have I8:=CF.d
   have c7:=I7.cell
   have c8:=I8.cell
   have c9:=I9.cell
   have cM:=CF.cM
   have cK:=CF.cK
   have n1:=F.mems
   have n2:=F.conts
   have n3:=F.outs
   have n4:=F.again
   have n5:=F.cross
   have hmN:=plN_le f F G hK
   obtain⟨ok7,sl,hfold,hsl,hcnt⟩:=step_writes f hG P hl (fun v hv=>pl_rng f F G hK v hv) hst
   have e7:(L7.map fun e=>(e.op,e.dst,e.k)).length≤100000:=by rw[yV,hst.len,P.len];omega
   have hno:nOps f.cross≤2000:=by
    have:∀l:List CrossV,(∀x∈l,x.ops.length≤100)→nOps l≤100*l.length:=by
     intro l
     induction l with
     | nil=>intro _;exact zT _
     | cons x r ih =>
      intro h
      have h1:=h x (zM ..)
      have h2:=ih fun y hy=>h y (zI _ hy)
      rw[nOps,zC];omega
    have h3:=this f.cross fun x hx=>by have:=F.ops x hx;omega
    omega
   have e9:(L9.map fun e=>(e.op,e.dst,e.k)).length≤100000:=by
    have:=congrArg List.length hc9
    rw[yV,crsF_len]at this
    rw[yV,this];omega
   have hdst:=lines_dst hc9
   have ok9:∀x∈L9.map (fun e=>(e.op,e.dst,e.k)),isAsk x.1=false→inN (nOps f.cross) x.2.1=true:=fun x hx hk=>by
    have hm:x.2.1∈(((L9.map fun e=>(e.op,e.dst,e.k)).filter fun e=>!(isAsk e.1)).map (·.2.1)):=zW.2 ⟨x,xL.2 ⟨hx,by rw[hk];rfl⟩,rfl⟩
    rw[hdst]at hm
    obtain⟨k,hk,e⟩:=zW.1 hm
    rw[←e];exact inN_nat (yS.1 hk)
   have hln:=fold_wrL (L9.map fun e=>(e.op,e.dst,e.k)) (List.replicate (nOps f.cross) 0)
   rw[hdst]at hln
   generalize (L7.map fun e=>(e.op,e.dst,e.k))=C7 at I7 e7 ok7 hfold
   generalize (L9.map fun e=>(e.op,e.dst,e.k))=C9 at I9 e9 ok9 hln
   have st1:storeAt [.row f.cs 29,.row zPl 32] 3 (.ptr 1 0) (planA B S (plN f))=some [.row f.cs 29,.row [B,S,litI .i64 (plN f)] 32]:=store_pl f [] hB hS _ _ rfl _ _ rfl
   have lA1:Ai.load [.row f.cs 29,.row [B,S,litI .i64 (plN f)] 32] (some 8) (.ptr 0 0)=some (.agg f.cs):=load_agg rfl rfl
   have lP1:Ai.load [.row f.cs 29,.row [B,S,litI .i64 (plN f)] 32] (some 3) (.ptr 1 0)=some (planA B S (plN f)):=load_agg rfl rfl
   have hcs:(outC a b (plN f) f.cross.length (nOps f.cross) M K A7 A8 A9).all cellA=true:=by
    simp only[xE,xX,cM,cK,c7,c8,c9];rfl
   have st2:storeAt [.row f.cs 29,.row [B,S,litI .i64 (plN f)] 32,.row (out0 0 0 0 0) 39] 10 (.ptr 2 0) (.agg (outC a b (plN f) f.cross.length (nOps f.cross) M K A7 A8 A9))=some [.row f.cs 29,.row [B,S,litI .i64 (plN f)] 32,.row (outC a b (plN f) f.cross.length (nOps f.cross) M K A7 A8 A9) 39]:=store_out rfl rfl rfl hcs
   have g7:(outC a b (plN f) f.cross.length (nOps f.cross) M K A7 A8 A9)[7]?=some A7:=rfl
   have g9:(outC a b (plN f) f.cross.length (nOps f.cross) M K A7 A8 A9)[9]?=some A9:=rfl
   have y4:∀Z,Ai.load (.row f.cs 29::.row [B,S,litI .i64 (plN f)] 32::.row (outC a b (plN f) f.cross.length (nOps f.cross) M K A7 A8 A9) 39::Z) none (.ptr 2 4)=some (litI .i64 (nOps f.cross)):=fun Z=>rfl
   generalize outC a b (plN f) f.cross.length (nOps f.cross) M K A7 A8 A9=cs at h2 st2 g7 g9 y4
   have x1:∀Z,Ai.load (.row f.cs 29::.row [B,S,litI .i64 (plN f)] 32::Z) none (.ptr 1 2)=some (litI .i64 (plN f)):=fun Z=>rfl
   have x4:∀Z,Ai.load (.row f.cs 29::Z) none (.ptr 0 4)=some (memsA f.mems):=fun Z=>rfl
   have x5:∀Z,Ai.load (.row f.cs 29::Z) none (.ptr 0 5)=some (contsA f.conts):=fun Z=>rfl
   have x2:∀Z,Ai.load (.row f.cs 29::Z) none (.ptr 0 2)=some (rowC f.outs none):=fun Z=>rfl
   have mk:∀(id n:Nat),n≤100000→mksV id 1 8 [litI .i64 0] 3 (litI .i64 n) (litI .i64 n)=some (.val (.own id 0 n 1 (some n)) (some (.row (cellsI (List.replicate n 0)) 3))):=fun id n hn=>by
    rw[mksV_ok (by omega) (by omega),reps_one,show List.replicate n (litI .i64 0)=cellsI (List.replicate n 0) by simp[cellsI]]
   have m1:=mk 5 (plN f) (by omega)
   have m2:=mk 8 (nOps f.cross) (by omega)
   have m3:=mk 12 f.mems.length (by omega)
   have m4:=mk 16 f.conts.length (by omega)
   have m5:=mk 20 f.outs.length (by omega)
   have W0:Own [.row f.cs 29,.row [B,S,litI .i64 (plN f)] 32,.row cs 39,.dead,.dead,.row (cellsI (List.replicate (plN f) 0)) 3,.dead,.dead,.row (cellsI (List.replicate (nOps f.cross) 0)) 3,.dead,.dead,.dead,.row (cellsI (List.replicate f.mems.length 0)) 3,.dead,.dead,.dead,.row (cellsI (List.replicate f.conts.length 0)) 3,.dead,.dead,.dead,.row (cellsI (List.replicate f.outs.length 0)) 3]
     (o4 5 12 16 20 ⟨List.replicate (plN f) 0,List.replicate f.mems.length 0,List.replicate f.conts.length 0,List.replicate f.outs.length 0⟩ [(8,cellsI (List.replicate (nOps f.cross) 0),3),(2,cs,39),(1,[B,S,litI .i64 (plN f)],32)]):=by
    refine⟨by simp,fun x hx=>?_⟩
    simp only[zO,yG,or_false]at hx
    rcases hx with rfl|rfl|rfl|rfl|rfl|rfl|rfl<;>rfl
   obtain⟨H1,R0,W1⟩:=write_l0 cs A7 g7 C7 I7 e7 (plN f) f.mems.length f.conts.length f.outs.length ok7 5 12 16 20 (some (plN f)) (some f.mems.length) (some f.conts.length) (some f.outs.length) (.own 8 0 (nOps f.cross) 1 (some (nOps f.cross))) _ (by simp) C7.length 0 _ _ (by omega) ⟨by simp,by simp,by simp,by simp⟩ ⟨bnd_rep _ _,bnd_rep _ _,bnd_rep _ _,bnd_rep _ _⟩ W0
   rw[zJ,hfold]at W1
   rw[show((0:Nat):Int)=0 from rfl]at R0
   have W1':=W1.perm (vL (l₁:=[(5,cellsI sl,3),(12,cellsI (((List.range f.mems.length).map fun n:Nat=>(n:Int)).foldl incL (List.replicate f.mems.length 0)),3),(16,cellsI (((List.range f.conts.length).map fun n:Nat=>(n:Int)).foldl incL (List.replicate f.conts.length 0)),3),(20,cellsI (((List.range f.outs.length).map fun n:Nat=>(n:Int)).foldl incL (List.replicate f.outs.length 0)),3)]))
   obtain⟨H2,R1,W2⟩:=write_l1 cs A9 g9 C9 I9 e9 (nOps f.cross) ok9 8 (some (nOps f.cross)) (.own 5 0 (plN f) 1 (some (plN f))) (.own 12 0 f.mems.length 1 (some f.mems.length)) (.own 16 0 f.conts.length 1 (some f.conts.length)) (.own 20 0 f.outs.length 1 (some f.outs.length)) _ (by simp) C9.length 0 H1 _ (by omega) (by simp) (bnd_rep _ _) W1'
   rw[zJ,hln]at W2
   rw[show((0:Nat):Int)=0 from rfl]at R1
   have W2':=W2.perm (List.Perm.swap ..)
   obtain⟨H3,sl',R3,W3,q1,q2⟩:=write_l3 (B:=B) hS (by rw[hl];omega) (plN f) 5 (some (plN f)) (.own 8 0 (nOps f.cross) 1 (some (nOps f.cross))) (.own 12 0 f.mems.length 1 (some f.mems.length)) (.own 16 0 f.conts.length 1 (some f.conts.length)) (.own 20 0 f.outs.length 1 (some f.outs.length)) _ (by simp) (by omega) (plN f) 0 H2 sl (by omega) hsl (fun k hk=>by omega) (fun k _ hk=>hcnt k hk) W2'
   rw[show((0:Nat):Int)=0 from rfl]at R3
   have a0:=all14_call (W3.get (5,cellsI sl',3) (by simp)) q1 (by omega) 0 (fun x hx=>by
    obtain⟨k,hk⟩:=wM hx
    have h0:=q2 k (by rw[←q1];exact(zG.1 hk).1)
    rw[zF,hk]at h0
    exact h0) (c:=some (plN f))
   have a1:=all14_call (W3.get (8,cellsI (((List.range (nOps f.cross)).map fun n:Nat=>(n:Int)).foldl incL (List.replicate (nOps f.cross) 0)),3) (by simp)) (n:=nOps f.cross) (by rw[incs_len,xM]) (by rw[incs_len,xM];omega) 1 (ones _) (c:=some (nOps f.cross))
   have a2:=all14_call (W3.get (12,cellsI (((List.range f.mems.length).map fun n:Nat=>(n:Int)).foldl incL (List.replicate f.mems.length 0)),3) (by simp)) (n:=f.mems.length) (by rw[incs_len,xM]) (by rw[incs_len,xM];omega) 1 (ones _) (c:=some f.mems.length)
   have a3:=all14_call (W3.get (16,cellsI (((List.range f.conts.length).map fun n:Nat=>(n:Int)).foldl incL (List.replicate f.conts.length 0)),3) (by simp)) (n:=f.conts.length) (by rw[incs_len,xM]) (by rw[incs_len,xM];omega) 1 (ones _) (c:=some f.conts.length)
   have a4:=all14_call (W3.get (20,cellsI (((List.range f.outs.length).map fun n:Nat=>(n:Int)).foldl incL (List.replicate f.outs.length 0)),3) (by simp)) (n:=f.outs.length) (by rw[incs_len,xM]) (by rw[incs_len,xM];omega) 1 (ones _) (c:=some f.outs.length)
   refine⟨H3,cw_of fn4 (c:=c4) rfl rfl rfl rfl ?_⟩
   simp -implicitDefEqProofs only[c4,aW,↓aP,makes,reduceLT,reduceEqDiff,reduceAdd,core_box,flat_f,zA,zC,lA0,core_build,bz,hsm,h1,st1,lA1,lP1,h2,st2,bne_self_eq_false,fadr_ptr,zB,x1,y4,m1,m2,x4,x5,x2,lenV_mems,lenV_conts,lenV_row,m3,m4,m5,R0,R1,R3,a0,a1,a2,a3,a4,haw]
   rfl
end
end Go.Proofs.Ytcgbdndkfonphaa.Ai
