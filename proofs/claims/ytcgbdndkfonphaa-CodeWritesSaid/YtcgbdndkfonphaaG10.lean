/- Seat of layers 14 and 15: maker.eq, called on a good program's equations. No condition. -/
import Derived.Test.YtcgbdndkfonphaaG9
set_option linter.unusedSimpArgs false
set_option linter.unusedVariables false
set_option linter.unusedSectionVars false
open Nat (reduceLT reduceEqDiff reduceAdd)
namespace Go.Proofs.Ytcgbdndkfonphaa.Ai
open Go Go.Ai
section
variable {call:CallF}{mt:MtF}{md:FuncId→Md}
theorem newA_nil(n:Nat):newA n []=.sl 0 [] (some 0):=if_pos rfl
theorem eqIns_call{H:List AO}{p:Nat}{f:FlatV}{O S:AV}{m:Int}{out:List AV}(hp:H[p]?=some (.row (mkC f O S m out) 70))(L:Lent H p f O S m){slots:List Int}(hS:RowA S slots)(F:FitsS f)(G:GoodF f)(hsl:slots.length=f.names.length)(q:Eqn)(hq:q∈f.eqs)(id:Nat) :
  ∃x Y o k,callV cw mds 47 [.ptr p 0,.agg q.cs] H id=some (.wr (.agg x) (H++Y))∧InsOk x o q.op (slotV slots q.var) k∧∀d,Own H d→Own (H++Y) (o++d):=by
 have a0:=F.args q hq
 have h1:q.var<slots.length:=by rw[hsl];exact(G.var q hq).2
 have h2:∀x∈q.args,x<(slots.length:Int):=fun x hx=>by rw[hsl];exact(G.args q hq x hx).2
 have h3:q.guard<slots.length:=by rw[hsl];exact G.guard q hq
 have K:=G.kok q hq
 cases k0:isS q.op [108,105,116]with
 | true =>
  obtain⟨Y,o,e⟩:=eq_wr (l2:=[]) (Z:=[]) q rfl (by rw[newA_nil]) rfl (eq_lit L hS q a0 h1 h2 h3 k0) id
  exact⟨_,Y,o,_,e⟩
 | false =>
 cases k1:isS q.op [105,110]with
 | true =>
  obtain⟨Y,o,e⟩:=eq_wr (l2:=[]) (Z:=[]) q rfl (by rw[newA_nil]) rfl (eq_in L hS q a0 h1 h2 h3 k0 k1) id
  exact⟨_,Y,o,_,e⟩
 | false =>
 cases k2:isS q.op [102,108,97,103]with
 | true =>
  obtain⟨Y,o,e⟩:=eq_wr (l2:=[]) (Z:=[]) q rfl (by rw[newA_nil]) rfl (eq_flag L hS q a0 h1 h2 h3 k0 k1 k2) id
  exact⟨_,Y,o,_,e⟩
 | false =>
 cases k3:isS q.op [109,101,109]with
 | true =>
  obtain⟨mv,e1,e2,_⟩:=iadr_memsI (K.m k3)
  have hm:=zX e1
  have r1:=F.mres mv hm
  have r2:∀x∈mv.resets,x<(slots.length:Int):=fun x hx=>by rw[hsl];exact((G.mems mv hm).2.2 x hx).2
  obtain⟨Z,ez,hz⟩:=eq_mem L hS q a0 h1 h2 h3 hp e2 (mem_h7 mv) (by omega) r2 k0 k1 k2 k3
  obtain⟨Y,o,e⟩:=eq_wr q rfl rfl hz ez id
  exact⟨_,Y,o,_,e⟩
 | false =>
 cases k4:isS q.op [99,111,110,116]with
 | true =>
  obtain⟨mv,e1,e2,_⟩:=iadr_contsI (K.k k4)
  have hm:=zX e1
  have r1:=F.cres mv hm
  have r2:∀x∈mv.resets,x<(slots.length:Int):=fun x hx=>by rw[hsl];exact((G.conts mv hm).2.2.1 x hx).2
  obtain⟨Z,ez,hz⟩:=eq_cont L hS q a0 h1 h2 h3 hp e2 (cont_h7 mv) (by omega) r2 k0 k1 k2 k3 k4
  obtain⟨Y,o,e⟩:=eq_wr q rfl rfl hz ez id
  exact⟨_,Y,o,_,e⟩
 | false =>
  obtain⟨Y,o,e⟩:=eq_wr (l2:=[]) (Z:=[]) q rfl (by rw[newA_nil]) rfl (eq_plain L hS q a0 h1 h2 h3 k0 k1 k2 k3 k4) id
  exact⟨_,Y,o,_,e⟩
end
section
variable {call:CallF}{mt:MtF}{md:FuncId→Md}
def Fz(H:List AO)(k:Nat)(a:AV):Prop:=∃p,frz H k a=some p
theorem Fz.whole{H:List AO}{a:AV}(h:Ai.whole a=true)(k:Nat):Fz H (k+1) a:=⟨_,frz_whole h k⟩
theorem frzL_ex{H:List AO}{k:Nat}:∀ {cells:List AV},(∀a∈cells,Fz H k a)→∃p,mapL (frz H k) cells=some p
 | [],_=>⟨_,rfl⟩
 | a::r,h=>by
  obtain⟨p,hp⟩:=h a (zM ..)
  obtain⟨q,hq⟩:=frzL_ex (cells:=r) fun b hb=>h b (zI _ hb)
  exact⟨(p.1::q.1,p.2++q.2),by simp only[mapL,hp,hq,zD]⟩
theorem frzR_ex{H:List AO}{k e:Nat}:∀(n:Nat){cells:List AV},(∀a∈cells,Fz H k a)→∃p,mapR (frz H k) e n cells=some p
 | 0,_,_=>⟨_,rfl⟩
 | n+1,cells,h=>by
  obtain⟨p,hp⟩:=frzL_ex (cells:=cells.take e) fun b hb=>h b (wY hb)
  obtain⟨q,hq⟩:=frzR_ex (e:=e) n (cells:=cells.drop e) fun b hb=>h b (wX hb)
  exact⟨(p.1::q.1,p.2++q.2),by simp only[mapR,hp,hq,zD]⟩
theorem Fz.own{H:List AO}{r n e k:Nat}{cap:Option Nat}{cells:List AV}{t:TypeId}(hr:H[r]?=some (.row cells t))(hb:n*e≤cells.length)(h:∀a∈cells,Fz H k a):Fz H (k+1) (.own r 0 n e cap):=by
 obtain⟨p,hp⟩:=frzR_ex (e:=e) n h
 refine⟨(.sl e p.1 cap,r::p.2),?_⟩
 rw[frz]
 simp only[hr,yH (show 0+n*e≤cells.length by omega),cond_true,zJ,hp,zD]
theorem mapL_app{f:AV→Option (AV×List Nat)}:∀ {xs ys:List AV}{p q:List AV×List Nat},mapL f xs=some p→mapL f ys=some q→mapL f (xs++ys)=some (p.1++q.1,p.2++q.2)
 | [],ys,p,q,h1,h2=>by
  simp only[mapL,sI]at h1
  subst h1
  exact h2
 | x::xs,ys,p,q,h1,h2=>by
  simp only[mapL]at h1
  obtain⟨a,e1,h1⟩:=bO.1 h1
  obtain⟨b,e2,h1⟩:=bO.1 h1
  simp only[sI]at h1
  subst h1
  simp only[xC,mapL,e1,mapL_app e2 h2,zD,zU]
theorem Lent.of{H:List AO}{p:Nat}{f:FlatV}{O S:AV}{o s:List Int}{m:Int}{out:List AV}(hp:H[p]?=some (.row (mkC f O S m out) 70))(hO:RowA O o)(hS:RowA S s)(h:∀a∈out,Fz H 15 a):Lent H p f O S m:=by
 obtain⟨q,hq⟩:=frzL_ex h
 have hw:(f.cs++[O,S,litI .i64 m]).all whole=true:=by
  rw[List.all_append]
  simp only[xE,xX,hO.whole,hS.whole]
  rfl
 have hm:=mapL_app (mapL_whole (H:=H) (k:=14) hw) hq
 refine⟨q.1,p::([]++q.2),?_⟩
 rw[show frzF=15+1 from rfl,frz]
 simp only[hp,yH (uI _),cond_true,zJ]
 rw[show mkC f O S m out=(f.cs++[O,S,litI .i64 m])++out by simp[mkC],hm]
 simp only[zD]
 rw[show(f.cs++[O,S,litI .i64 m])++q.1=mkC f O S m q.1 by simp[mkC]]
theorem IntC.fz{A:AV}{o d:List Obj1}{H:List AO}(h:IntC A o)(O:Own H (o++d))(k:Nat):Fz H (k+2) A:=by
 rcases h with⟨h1,_,rfl⟩|⟨p,l,rfl,rfl⟩
 ·simp only[cell2,zL]at h1
  exact Fz.whole h1.1 _
 ·refine Fz.own (O.get (p,cellsI l,3) (by simp)) (by simp[cellsI]) fun a ha=>?_
  have hw:=Ord.cells_whole l
  rw[yD]at hw
  exact Fz.whole (hw a ha) k
theorem InsOk.fz{x:List AV}{o d:List Obj1}{H:List AO}{op:ByteArray}{dst n:Int}(h:InsOk x o op dst n)(O:Own H (o++d))(k:Nat):∀a∈x,Fz H (k+2) a:=by
 obtain⟨a,l4,l5,l6,l7,l8,g,r,oa,or_,rfl,hw,ha,hr,rfl⟩:=h
 simp only[xE,xX,xY,zL,cell2]at hw
 obtain⟨⟨h4,_⟩,⟨h5,_⟩,⟨h6,_⟩,⟨h7,_⟩,⟨h8,_⟩⟩:=hw
 have fa:Fz H (k+2) a:=ha.fz (d:=or_++d) (by rw[←zU];exact O) k
 have fr:Fz H (k+2) r:=hr.fz (d:=oa++d) (O.perm (by
  rw[zU]
  exact(wN ..))) k
 intro b hb
 simp only[insC,zO,yG,or_false]at hb
 rcases hb with rfl|rfl|rfl|rfl|rfl|rfl|rfl|rfl|rfl|rfl|rfl
 ·exact Fz.whole rfl _
 ·exact Fz.whole rfl _
 ·exact fa
 ·exact Fz.whole rfl _
 ·exact Fz.whole h4 _
 ·exact Fz.whole h5 _
 ·exact Fz.whole h6 _
 ·exact Fz.whole h7 _
 ·exact Fz.whole h8 _
 ·exact Fz.whole rfl _
 ·exact fr
end
section
variable {call:CallF}{mt:MtF}{md:FuncId→Md}
theorem IntC.cell{A:AV}{o:List Obj1}(h:IntC A o):cellsOf A=[A]∧cellA A=true:=by
 rcases h with⟨h1,h2,_⟩|⟨p,l,rfl,_⟩
 ·simp only[cell2,zL]at h1
  exact⟨h2,h1.2⟩
 ·exact⟨rfl,rfl⟩
theorem InsOk.cells{x:List AV}{o:List Obj1}{op:ByteArray}{dst n:Int}(h:InsOk x o op dst n):x.all cellA=true:=by
 obtain⟨a,l4,l5,l6,l7,l8,g,r,oa,or_,rfl,hw,ha,hr,rfl⟩:=h
 simp only[xE,xX,xY,zL,cell2]at hw
 obtain⟨⟨_,h4⟩,⟨_,h5⟩,⟨_,h6⟩,⟨_,h7⟩,⟨_,h8⟩⟩:=hw
 simp only[insC,xE,xX,ha.cell.2,hr.cell.2,h4,h5,h6,h7,h8]
 rfl
theorem InsOk.len{x:List AV}{o:List Obj1}{op:ByteArray}{dst n:Int}(h:InsOk x o op dst n):x.length=11:=by
 obtain⟨a,l4,l5,l6,l7,l8,g,r,oa,or_,rfl,_⟩:=h
 rfl
def InsL(A:AV)(T:List (List AV))(o:List Obj1):Prop:=(A=.sl 0 [] (some 0)∧T=[]∧o=[])∨∃p,T≠[]∧A=.own p 0 T.length 11 none∧o=[(p,T.flatten,54)]
theorem InsL.nil:InsL (.sl 0 [] (some 0)) [] []:=.inl ⟨rfl,rfl,rfl⟩
theorem InsL.lenV{A:AV}{T:List (List AV)}{o:List Obj1}(h:InsL A T o):Ai.lenV A=some (litI .i64 T.length):=by
 rcases h with⟨rfl,rfl,_⟩|⟨p,_,rfl,_⟩<;>rfl
theorem InsL.cell{A:AV}{T:List (List AV)}{o:List Obj1}(h:InsL A T o):cellsOf A=[A]∧Ai.cellA A=true:=by
 rcases h with⟨rfl,rfl,_⟩|⟨p,_,rfl,_⟩<;>exact⟨rfl,rfl⟩
theorem len11:∀(T:List (List AV)),(∀c∈T,c.length=11)→T.flatten.length=T.length*11
 | [],_=>rfl
 | x::T,h=>by
  rw[wE,zN,len11 T (fun y hy=>h y (zI _ hy)),h x (zM ..),zC];omega
theorem elems_own1{H:List AO}{y:Nat}{x:List AV}{t:TypeId}(hy:H[y]?=some (.row x t))(hx:x.length=11):Ai.elems H 11 (.own y 0 1 11 (some 1))=some (1,x):=by
 simp only[Ai.elems,beq_self_eq_true,cond_true,rowAt_of hy,zD,hx,zJ,zB,Nat.one_mul]
 rw[yH (zT 11),cond_true,←hx,xR]
theorem InsL.push{A:AV}{T:List (List AV)}{o d:List Obj1}{H:List AO}(S:InsL A T o)(O:Own H (o++d)){y:Nat}{x:List AV}(hy:(y,x,54)∈d)(hx:x.length=11)(hT:∀c∈T,c.length=11)(hb:T.length≤100000) :
  ∃H',App (Ai.append H H.length 11 168 54 A (.own y 0 1 11 (some 1))) H (.own H.length 0 (T++[x]).length 11 none) H'∧Own H' ((H.length,(T++[x]).flatten,54)::d):=by
 have hY:=elems_own1 (O.get (y,x,54) (wL _ hy)) hx
 have h8:Nat.ble ((T.length+1)*168) 140737488355328=true:=yH (by omega)
 rcases S with⟨rfl,rfl,rfl⟩|⟨p,hne,rfl,rfl⟩
 ·refine⟨H++[.row x 54],.inr (.inl ⟨.row x 54,?_,rfl⟩),by simpa using O.new x 54⟩
  unfold Ai.append
  rw[hY]
  rfl
 ·have hp:H[p]?=some (.row T.flatten 54):=O.head
  refine⟨setL H p .dead++[.row (T++[x]).flatten 54],.inr (.inr ?_),?_⟩
  ·have hl:=len11 T hT
   unfold Ai.append
   rw[hY]
   simp only[zD,Nat.reduceBEq,cond_false,rowAt_of hp,beq_self_eq_true,h8,yH (show 0+T.length*11≤T.flatten.length by omega),yX,cond_true,zJ,xW (show T.flatten.length≤T.length*11 by omega)]
   simp
  ·have On:=(Own.kill O).new (T++[x]).flatten 54
   rw[setL_len]at On
   exact On
theorem core_bslT{H:List AO}{id:Nat}{fr:Fr}(e n:Nat)(z:List AV)(ps:List (Nat×X))(t:TypeId):core call mt md H id (.bslice true e n z ps t) fr=(fill (reps n z) (ps.map fun p=>(p.1*e,e,ev fr p.2))).bind fun cs=>some (.val (.own id 0 n e (some n)) (some (.row cs t))):=rfl
theorem fill_1{x:List AV}(hx:x.length=11)(hc:x.all cellA=true):fill (reps 1 z11) [(0*11,11,.agg x)]=some x:=by
 simp only[fill,cellsOf,hx,hc,beq_self_eq_true,yX,zQ]
 rw[show Nat.ble (0*11+11) (reps 1 z11).length=true from rfl,cond_true]
 show some ([]++x++[])=some x
 simp
end
section
variable {call:CallF}{mt:MtF}{md:FuncId→Md}
abbrev mkO(p:Nat)(f:FlatV)(O S:AV)(m:Int)(out:List AV):Obj1:=(p,mkC f O S m out,70)
abbrev mcO(c p:Nat):Obj1:=(c,[.ptr p 0],68)
theorem mkC_len(f:FlatV)(O S:AV)(m:Int)(out:List AV):(mkC f O S m out).length=11+out.length:=by
 unfold mkC
 rw[zN]
 simp only[zC,show f.cs.length=8 from rfl];omega
theorem mkC_at(f:FlatV)(O S:AV)(m:Int)(out:List AV)(i:Nat):(mkC f O S m out)[11+i]?=out[i]?:=by
 unfold mkC
 rw[wJ (by rw[show f.cs.length=8 from rfl];omega),show 11+i-f.cs.length=i+3 by rw[show f.cs.length=8 from rfl];omega]
 rfl
theorem mkC_set(f:FlatV)(O S:AV)(m:Int)(out:List AV)(i:Nat)(a:AV):(mkC f O S m out).set (11+i) a=mkC f O S m (out.set i a):=by
 unfold mkC
 rw[List.set_append_right _ _ (by rw[show f.cs.length=8 from rfl];omega),show 11+i-f.cs.length=i+3 by rw[show f.cs.length=8 from rfl];omega]
 rfl
theorem put_tells{H:List AO}{p c:Nat}{f:FlatV}{O S:AV}{m:Int}{out:List AV}{o d:List Obj1}{A:AV}{T:List (List AV)}(W:Own H (mkO p f O S m out::mcO c p::(o++d)))(hA:out[7]?=some A)(SA:InsL A T o)(hT:∀c∈T,c.length=11)(hb:T.length≤100000)
  {x:List AV}(hx:x.length=11)(hc:x.all cellA=true) :
  ∃H' p',cw 46 [.agg x,.ptr c 0] H=some (.ret (.tup []),H')∧H.length≤p'∧Own H' (mkO p f O S m (out.set 7 (.own p' 0 (T++[x]).length 11 none))::mcO c p::(p',(T++[x]).flatten,54)::d):=by
 have hbx:∀id,boxV id 11 (.agg x) 54=some (.val (.ptr id 0) (some (.row x 54))):=fun id=>boxV_agg hx hc
 have W2:=Own.obs [.row x 54,.dead,.dead,.dead,.dead,.dead,.dead,.dead,.row x 54] W
 have W3:Own (H++[.row x 54,.dead,.dead,.dead,.dead,.dead,.dead,.dead,.row x 54]) (o++(mkO p f O S m out::mcO c p::(H.length+8,x,54)::d)):=by
  refine(W2.sub (d':=(H.length+8,x,54)::mkO p f O S m out::mcO c p::(o++d)) ?_).perm ?_
  ·simp[rowsOf]
  ·have e1:((H.length+8,x,54)::mkO p f O S m out::mcO c p::(o++d)).Perm (mkO p f O S m out::mcO c p::(H.length+8,x,54)::(o++d)) :=
    (List.Perm.swap ..).trans (List.Perm.cons _ (List.Perm.swap ..))
   refine e1.trans ?_
   have e2:(mkO p f O S m out::mcO c p::(H.length+8,x,54)::(o++d))=[mkO p f O S m out,mcO c p,(H.length+8,x,54)]++(o++d):=rfl
   have e3:(o++(mkO p f O S m out::mcO c p::(H.length+8,x,54)::d))=o++([mkO p f O S m out,mcO c p,(H.length+8,x,54)]++d):=rfl
   rw[e2,e3]
   exact wN ..
 obtain⟨H4,ap,W4⟩:=SA.push W3 (y:=H.length+8) (x:=x) (by simp) hx hT hb
 have hlen:(H++[AO.row x 54,AO.dead,AO.dead,AO.dead,AO.dead,AO.dead,AO.dead,AO.dead,AO.row x 54]).length=H.length+9:=by simp
 rw[hlen]at ap W4
 generalize hN:(AV.own (H.length+9) 0 (T++[x]).length 11 none)=N at ap
 have hNc:cellsOf N=[N]∧cellA N=true:=by rw[←hN];exact⟨rfl,rfl⟩
 have W5:Own H4 (mkO p f O S m out::mcO c p::(H.length+9,(T++[x]).flatten,54)::(H.length+8,x,54)::d) :=
  W4.perm ((List.Perm.swap ..).trans (List.Perm.cons _ (List.Perm.swap ..)))
 have st:storeAt H4 1 (.ptr p 18) N=some (setL H4 p (.row (mkC f O S m (out.set 7 N)) 70)):=by
  rw[store_ptr W5.head (by rw[mkC_len];have:=(zG.1 hA).1;omega) hNc.1 hNc.2,←mkC_set]
 have W6:Own (setL H4 p (.row (mkC f O S m (out.set 7 N)) 70)) (mkO p f O S m (out.set 7 N)::mcO c p::(H.length+9,(T++[x]).flatten,54)::(H.length+8,x,54)::d):=W5.set _ 70
 refine⟨_,H.length+9,cw_of (r:=(.ret (.tup []),setL H4 p (.row (mkC f O S m (out.set 7 N)) 70))) fn46 (c:=c46) rfl rfl rfl rfl ?_,by omega,?_⟩
 ·have W1:=Own.obs [.row x 54] W
  have q1:Ai.load (H++[.row x 54]) none (.ptr c 0)=some (.ptr p 0):=by rw[load_ptr (W1.get (mcO c p) (by simp))];rfl
  have q2:Ai.load (H++[.row x 54]) none (.ptr p 18)=some A:=by rw[load_ptr (W1.get (mkO p f O S m out) (by simp))];exact(mkC_at f O S m out 7).trans hA
  have q3:Ai.load (H++[.row x 54]) (some 11) (.ptr H.length 0)=some (.agg x):=by
   rw[load_app0];exact load_agg (cs:=x) (t:=54) rfl hx
  have q4:Ai.load (H++[.row x 54,.dead,.dead,.dead,.dead,.dead,.dead,.dead,.row x 54]) none (.ptr c 0)=some (.ptr p 0):=by rw[load_ptr (W3.get (mcO c p) (by simp))];rfl
  have q5:Ai.load H4 none (.ptr c 0)=some (.ptr p 0):=by rw[load_ptr (W5.get (mcO c p) (by simp))];rfl
  have q6:Ai.load (setL H4 p (.row (mkC f O S m (out.set 7 N)) 70)) none (.ptr c 0)=some (.ptr p 0):=by rw[load_ptr (W6.get (mcO c p) (by simp))];rfl
  have n1:nilck (.ptr p 0)=some (.ptr p 0):=rfl
  have fl:=fill_1 hx hc
  simp -implicitDefEqProofs only[c46,aW,↓aP,makes,reduceLT,reduceEqDiff,reduceAdd,core_box,hbx,zN,zC,zA,zU,xK,fadr_ptr,q1,core_nilck,n1,q2,q3,core_bslT,fl,zD,q4,core_app,ap.tlS,q5,st,q6]
  rfl
 ·rw[hN]
  refine W6.sub ?_
  exact List.Sublist.cons_cons _ (List.Sublist.cons_cons _ (List.Sublist.cons_cons _ (yU ..)))
end
section
variable {call:CallF}{mt:MtF}{md:FuncId→Md}
theorem put_call{H:List AO}{p c:Nat}{f:FlatV}{O S:AV}{m:Int}{out:List AV}{o d:List Obj1}{A:AV}{T:List (List AV)}(W:Own H (mkO p f O S m out::mcO c p::(o++d)))(hA:out[7]?=some A)(SA:InsL A T o)(hT:∀c∈T,c.length=11)(hb:T.length≤100000)
  {x:List AV}(hx:x.length=11)(hc:x.all cellA=true)(id:Nat) :
  ∃H' p',fnV cw mds (.fn (.func 46) [] [.ptr c 0]) [.agg x] H id=some (.wr (.tup []) H')∧Own H' (mkO p f O S m (out.set 7 (.own p' 0 (T++[x]).length 11 none))::mcO c p::(p',(T++[x]).flatten,54)::d):=by
 obtain⟨H',p',h,hp',W'⟩:=put_tells W hA SA hT hb hx hc
 refine⟨H',p',?_,W'⟩
 show callV cw mds 46 [.agg x,.ptr c 0] H id=_
 refine callV_new rfl h W'.head (W.lt _ (zM ..)) ?_
 have h7:7<out.length:=(zG.1 hA).1
 have hm:AV.own p' 0 (T++[x]).length 11 none∈mkC f O S m (out.set 7 (.own p' 0 (T++[x]).length 11 none)):=by
  refine zX (i:=11+7) ?_
  rw[mkC_at,yK h7]
 rw[yO]
 intro e
 simp only[belowO,yD]at e
 have:=e _ hm
 have h2:Nat.blt p' H.length=true:=this
 rw[wQ]at h2
 omega
end
section
variable {call:CallF}{mt:MtF}{md:FuncId→Md}
structure InsV where
 x:List AV
 o:List Obj1
 op:ByteArray
 dst:Int
 k:Int
def ilOk(L:List InsV):Prop:=∀e∈L,InsOk e.x e.o e.op e.dst e.k
def ilC(L:List InsV):List (List AV):=L.map (·.x)
def ilO(L:List InsV):List Obj1:=(L.map (·.o)).flatten
theorem ilC_len{L:List InsV}(h:ilOk L):∀c∈ilC L,c.length=11:=by
 intro c hc
 obtain⟨e,he,rfl⟩:=zW.1 hc
 exact(h e he).len
theorem ilC_add(L:List InsV)(e:InsV):ilC (L++[e])=ilC L++[e.x]:=by simp[ilC]
theorem ilO_add(L:List InsV)(e:InsV):ilO (L++[e])=ilO L++e.o:=by simp[ilO]
theorem ilOk.add{L:List InsV}(h:ilOk L){e:InsV}(he:InsOk e.x e.o e.op e.dst e.k):ilOk (L++[e]):=by
 intro y hy
 rcases zY.1 hy with hy|hy
 ·exact h y hy
 ·rw[xP.1 hy];exact he
theorem il_fz{H:List AO}{L:List InsV}{A:AV}{o d:List Obj1}(S:InsL A (ilC L) o)(hL:ilOk L)(O:Own H (o++(ilO L++d)))(k:Nat):Fz H (k+3) A:=by
 rcases S with⟨rfl,_,_⟩|⟨p,hne,rfl,rfl⟩
 ·exact Fz.whole rfl _
 ·refine Fz.own (k:=k+2) (O.get (p,(ilC L).flatten,54) (by simp)) (by rw[len11 _ (ilC_len hL)];exact zT _) fun a ha=>?_
  obtain⟨c,hc,hac⟩:=List.mem_flatten.1 ha
  obtain⟨e,he,rfl⟩:=zW.1 hc
  have hs:e.o.Sublist (ilO L):=List.sublist_flatten_of_mem (zW.2 ⟨e,he,rfl⟩)
  have Oe:Own H (e.o++[]):=O.sub (by
   rw[zZ]
   exact(hs.trans (xZ ..)).trans (yE ..))
  exact(hL e he).fz Oe k a hac
def OutOk(H:List AO)(out:List AV)(A:AV):Prop:=out[7]?=some A∧∀(i:Nat)(a:AV),out[i]?=some a→i≠7→Fz H 15 a
theorem OutOk.lent{H:List AO}{p:Nat}{f:FlatV}{O S:AV}{os ss:List Int}{m:Int}{out:List AV}{A:AV}(hp:H[p]?=some (.row (mkC f O S m out) 70))(hO:RowA O os)(hS:RowA S ss)(h:OutOk H out A)(hA:Fz H 15 A):Lent H p f O S m:=by
 refine Lent.of hp hO hS fun a ha=>?_
 obtain⟨i,hi⟩:=wM ha
 by_cases e:i=7
 ·subst e
  have:=h.1
  rw[hi]at this
  cases this
  exact hA
 ·exact h.2 i a hi e
end
section
variable {call:CallF}{mt:MtF}{md:FuncId→Md}
def FzD(d:List Obj1)(a:AV):Prop:=∀H,Own H d→Fz H 15 a
def OutD(d:List Obj1)(out:List AV):Prop:=∀(i:Nat)(a:AV),out[i]?=some a→i≠7→FzD d a
theorem OutD.set{d:List Obj1}{out:List AV}(h:OutD d out)(a:AV):OutD d (out.set 7 a):=fun i b hb hi=>h i b (by rwa [yT (fun e=>hi e.symm)]at hb) hi
theorem callV_ref_id{f:FuncId}{args:List AV}{H:List AO}(hm:mds f=.ref)(i j:Nat):callV cw mds f args H i=callV cw mds f args H j:=by
 unfold callV
 rw[hm]
section
variable(p c t:Nat)(f:FlatV){O S:AV}(m:Int){ord slots:List Int}(hO:RowA O ord)(hS:RowA S slots)(F:FitsS f)(G:GoodF f)(hsl:slots.length=f.names.length)(Tab:List (List AV))(hT:∀x∈Tab,x.length=10)(hTq:∀q∈f.eqs,Tab[q.var.toNat]?=some q.cs)(hr:∀x∈ord,0≤x∧x<(f.names.length:Int))(hol:ord.length≤1000)(d:List Obj1)
include hO hS F G hsl hT hTq hr hol
theorem step_l1:∀(j i:Nat)(H:List AO)(out:List AV)(A:AV)(oS:List Obj1)(L:List InsV),j+i=ord.length→Own H (mkO p f O S m out::mcO c p::(oS++(ilO L++((t,Tab.flatten,60)::d))))→out[7]?=some A→OutD d out→InsL A (ilC L) oS→ilOk L→L.length≤i →
  ∃(H':List AO)(A':AV)(oS':List Obj1)(L':List InsV)(Q:List Eqn),loopW (codeW cw (lookM mtl) mds c28l1) [1,2,5,44,45,46] [(1,.ptr c 0),(2,.own t 0 f.names.length 10 (some f.names.length)),(5,.fn (.func 46) [] [.ptr c 0]),(44,O),(45,litI .i64 ord.length),(46,litI .i64 i)] H =
   some (.exit 2,[(1,.ptr c 0),(2,.own t 0 f.names.length 10 (some f.names.length)),(5,.fn (.func 46) [] [.ptr c 0]),(44,O),(45,litI .i64 ord.length),(46,litI .i64 ord.length),(47,litB false)],H') ∧
   Own H' (mkO p f O S m (out.set 7 A')::mcO c p::(oS'++(ilO L'++((t,Tab.flatten,60)::d))))∧InsL A' (ilC L') oS'∧ilOk L' ∧
   (∀q∈Q,q∈f.eqs)∧Q.map (·.var)=ord.drop i∧L'.map (fun e=>(e.op,e.dst))=L.map (fun e=>(e.op,e.dst))++Q.map fun q=>(q.op,slotV slots q.var)
 | 0,i,H,out,A,oS,L,h,W,hA,hD,SA,hL,hb=>by
  have hi:i=ord.length:=by omega
  subst hi
  have hs:out.set 7 A=out:=by
   obtain⟨h1,h2⟩:=zG.1 hA
   rw[←h2,vF]
  refine⟨H,A,oS,L,[],loopW_out ?_ (by simp),by rw[hs];exact W,SA,hL,by simp,by simp,by simp⟩
  simp -implicitDefEqProofs only[c28l1,aW,↓aP,makes,reduceLT,reduceEqDiff,reduceAdd,zR]
 | j+1,i,H,out,A,oS,L,h,W,hA,hD,SA,hL,hb=>by
  have hi:i<ord.length:=by omega
  have hlt:(i:Int)<ord.length:=by omega
  have hg:ord[i]?=some ord[i]:=zE hi
  have hv:=hr _ (zV hi)
  rw[zS hi]
  generalize ord[i]=v at hg hv
  obtain⟨q,hq,hqv⟩:=G.all v.toNat (by omega)
  have hqr:=G.var q hq
  have e0:q.var=v:=by omega
  have hqT:=hTq q hq
  rw[hqv]at hqT
  have hp:H[p]?=some (.row (mkC f O S m out) 70):=W.head
  have Wd:Own H d:=W.sub (by
   refine List.Sublist.trans ?_ (yU ..)
   refine List.Sublist.trans ?_ (yU ..)
   refine List.Sublist.trans ?_ (yE ..)
   refine List.Sublist.trans ?_ (yE ..)
   exact yU ..)
  have W0:Own H (oS++(ilO L++((t,Tab.flatten,60)::d))):=W.tail.tail
  have Lt:Lent H p f O S m:=OutOk.lent hp hO hS ⟨hA,fun i a h1 h2=>hD i a h1 h2 H Wd⟩ (il_fz SA hL W0 12)
  obtain⟨x,Y,ox,k,hc,hx,hY⟩:=eqIns_call hp Lt hS F G hsl q hq H.length
  obtain⟨x2,Y2,ox2,k2,hc2,hx2,hY2⟩:∃x Y o k,(∀id,callV cw mds 47 [.ptr p 0,.agg q.cs] H id=some (.wr (.agg x) (H++Y)))∧InsOk x o q.op (slotV slots q.var) k∧∀d,Own H d→Own (H++Y) (o++d) :=
   ⟨x,Y,ox,k,fun id=>(callV_ref_id rfl id H.length).trans hc,hx,hY⟩
  have W1:=hY2 _ W
  have W2:Own (H++Y2) (mkO p f O S m out::mcO c p::(oS++(ilO (L++[InsV.mk x2 ox2 q.op (slotV slots q.var) k2])++((t,Tab.flatten,60)::d)))):=by
   refine W1.perm ?_
   rw[ilO_add]
   have e1:(ox2++(mkO p f O S m out::mcO c p::(oS++(ilO L++((t,Tab.flatten,60)::d)))))=ox2++((mkO p f O S m out::mcO c p::(oS++ilO L))++((t,Tab.flatten,60)::d)):=by simp
   have e2:(mkO p f O S m out::mcO c p::(oS++((ilO L++ox2)++((t,Tab.flatten,60)::d))))=(mkO p f O S m out::mcO c p::(oS++ilO L))++(ox2++((t,Tab.flatten,60)::d)):=by simp
   rw[e1,e2]
   exact wN ..
  obtain⟨H',p',hput,W3⟩:=put_call W2 hA SA (ilC_len hL) (by rw[ilC,yV];omega) hx2.len hx2.cells (H++Y2).length
  obtain⟨H'',p'',hput2,W4⟩:∃H' p',(∀id,fnV cw mds (.fn (.func 46) [] [.ptr c 0]) [.agg x2] (H++Y2) id=some (.wr (.tup []) H'))∧Own H' (mkO p f O S m (out.set 7 (.own p' 0 (ilC L++[x2]).length 11 none))::mcO c p::(p',(ilC L++[x2]).flatten,54)::(ilO (L++[InsV.mk x2 ox2 q.op (slotV slots q.var) k2])++((t,Tab.flatten,60)::d))) :=
   ⟨H',p',fun id=>(callV_ref_id (f:=46) rfl id (H++Y2).length).trans hput,W3⟩
  have h7:7<out.length:=(zG.1 hA).1
  have S4:InsL (.own p'' 0 (ilC L++[x2]).length 11 none) (ilC (L++[InsV.mk x2 ox2 q.op (slotV slots q.var) k2])) [(p'',(ilC L++[x2]).flatten,54)]:=by
   rw[ilC_add];exact .inr ⟨p'',by simp,rfl,rfl⟩
  obtain⟨H5,A5,o5,L5,Q5,R5,W5,S5,K5,q1,q2,q3⟩:=step_l1 j (i+1) H'' (out.set 7 (.own p'' 0 (ilC L++[x2]).length 11 none)) _ [(p'',(ilC L++[x2]).flatten,54)] (L++[InsV.mk x2 ox2 q.op (slotV slots q.var) k2]) (by omega) W4 (yK h7) (hD.set _) S4 (hL.add hx2) (by simp;omega)
  rw[wG]at W5
  refine⟨H5,A5,o5,L5,q::Q5,loopW_round ?_ R5,W5,S5,K5,?_,by rw[yJ,q2,e0],?_⟩
  ·have l1:Ai.load H none (.ptr c 0)=some (.ptr p 0):=by rw[load_ptr (W.get (mcO c p) (by simp))];rfl
   have ia:=iadr_own10 (r:=t) (n:=f.names.length) (c:=some f.names.length) hv.1 hv.2
   have lq:=cat_load (W.get (t,Tab.flatten,60) (by simp)) hT hqT
   rw[zB]at ia lq
   simp -implicitDefEqProofs only[c28l1,aW,↓aP,makes,reduceLT,reduceEqDiff,reduceAdd,hlt,hO.iadr hg,load_ip1,l1,ia,lq,show mds 47=Md.ref from rfl,hc2,hput2,wrap1 (show i<4611686018427387904 by omega)]
  ·intro y hy
   rcases zO.1 hy with rfl|hy
   ·exact hq
   ·exact q1 y hy
  ·rw[q3];simp
end
end
section
variable {call:CallF}{mt:MtF}{md:FuncId→Md}
theorem put_new{H:List AO}{p c:Nat}{f:FlatV}{O S:AV}{m:Int}{out:List AV}{oS d ox:List Obj1}{A:AV}{L:List InsV}(W:Own H (ox++(mkO p f O S m out::mcO c p::(oS++(ilO L++d)))))(hA:out[7]?=some A)(SA:InsL A (ilC L) oS)(hL:ilOk L)(hb:L.length≤100000)
  {x:List AV}{op:ByteArray}{dst k:Int}(hx:InsOk x ox op dst k) :
  ∃H' A' oS',(∀id,fnV cw mds (.fn (.func 46) [] [.ptr c 0]) [.agg x] H id=some (.wr (.tup []) H'))∧Own H' (mkO p f O S m (out.set 7 A')::mcO c p::(oS'++(ilO (L++[InsV.mk x ox op dst k])++d)))∧InsL A' (ilC (L++[InsV.mk x ox op dst k])) oS':=by
 have W2:Own H (mkO p f O S m out::mcO c p::(oS++(ilO (L++[InsV.mk x ox op dst k])++d))):=by
  refine W.perm ?_
  rw[ilO_add]
  have e1:(ox++(mkO p f O S m out::mcO c p::(oS++(ilO L++d))))=ox++((mkO p f O S m out::mcO c p::(oS++ilO L))++d):=by simp
  have e2:(mkO p f O S m out::mcO c p::(oS++((ilO L++ox)++d)))=(mkO p f O S m out::mcO c p::(oS++ilO L))++(ox++d):=by simp
  rw[e1,e2]
  exact wN ..
 obtain⟨H',p',hput,W3⟩:=put_call W2 hA SA (ilC_len hL) (by rw[ilC,yV];omega) hx.len hx.cells H.length
 refine⟨H',_,[(p',(ilC L++[x]).flatten,54)],fun id=>(callV_ref_id (f:=46) rfl id H.length).trans hput,W3,?_⟩
 rw[ilC_add];exact .inr ⟨p',by simp,rfl,rfl⟩
theorem build_1(op:ByteArray)(k:Int)(r n:Nat)(g:Int):buildV z11 [(0,1,litS op),(3,1,litI .i64 k),(2,1,.own r 0 n 1 none),(9,1,litI .i64 g)]=some (.val (.agg (insC op 0 (.own r 0 n 1 none) k (litI .i64 0) (litB false) (.sl 0 [] (some 0)) (.sl 0 [] (some 0)) (litS (bs [])) g (.sl 0 [] (some 0)))) none):=rfl
theorem build_2(op:ByteArray)(r n:Nat)(g:Int):buildV z11 [(0,1,litS op),(2,1,.own r 0 n 1 none),(9,1,litI .i64 g)]=some (.val (.agg (insC op 0 (.own r 0 n 1 none) 0 (litI .i64 0) (litB false) (.sl 0 [] (some 0)) (.sl 0 [] (some 0)) (litS (bs [])) g (.sl 0 [] (some 0)))) none):=rfl
theorem ins_own(op:ByteArray)(k:Int)(r:Nat)(l:List Int)(g:Int):InsOk (insC op 0 (.own r 0 l.length 1 none) k (litI .i64 0) (litB false) (.sl 0 [] (some 0)) (.sl 0 [] (some 0)) (litS (bs [])) g (.sl 0 [] (some 0))) [(r,cellsI l,3)] op 0 k :=
 ⟨_,_,_,_,_,_,_,_,[(r,cellsI l,3)],[],rfl,rfl,.inr ⟨r,l,rfl,rfl⟩,.inl ⟨rfl,rfl,rfl⟩,rfl⟩
section
variable(p c:Nat)(f:FlatV){O S:AV}(m:Int){ord slots:List Int}(hO:RowA O ord)(hS:RowA S slots)(d:List Obj1)(Y:AV){vs:List Int}(hY:RowA Y vs)(hr:∀x∈vs,x<(slots.length:Int))(hvl:vs.length≤1000)
include hO hS hY hr hvl
theorem step_l5:∀(j i:Nat)(H:List AO)(out:List AV)(A:AV)(oS:List Obj1)(L:List InsV),j+i=vs.length→Own H (mkO p f O S m out::mcO c p::(oS++(ilO L++d)))→out[7]?=some A→OutD d out→InsL A (ilC L) oS→ilOk L→L.length≤10000+i →
  ∃(H':List AO)(A':AV)(oS':List Obj1)(L':List InsV),loopW (codeW cw (lookM mtl) mds c28l5) [1,5,167,168,169] [(1,.ptr c 0),(5,.fn (.func 46) [] [.ptr c 0]),(167,Y),(168,litI .i64 vs.length),(169,litI .i64 i)] H =
   some (.exit 10,[(1,.ptr c 0),(5,.fn (.func 46) [] [.ptr c 0]),(167,Y),(168,litI .i64 vs.length),(169,litI .i64 vs.length),(170,litB false)],H') ∧
   Own H' (mkO p f O S m (out.set 7 A')::mcO c p::(oS'++(ilO L'++d)))∧InsL A' (ilC L') oS'∧ilOk L' ∧
   L'.map (fun e=>(e.op,e.dst,e.k))=L.map (fun e=>(e.op,e.dst,e.k))++(vs.drop i).map fun _=>(bs [97,103,97,105,110],0,0)
 | 0,i,H,out,A,oS,L,h,W,hA,hD,SA,hL,hb=>by
  have hi:i=vs.length:=by omega
  subst hi
  have hs:out.set 7 A=out:=by
   obtain⟨h1,h2⟩:=zG.1 hA
   rw[←h2,vF]
  refine⟨H,A,oS,L,loopW_out ?_ (by simp),by rw[hs];exact W,SA,hL,by simp⟩
  simp -implicitDefEqProofs only[c28l5,aW,↓aP,makes,reduceLT,reduceEqDiff,reduceAdd,zR]
 | j+1,i,H,out,A,oS,L,h,W,hA,hD,SA,hL,hb=>by
  have hi:i<vs.length:=by omega
  have hlt:(i:Int)<vs.length:=by omega
  have hg:vs[i]?=some vs[i]:=zE hi
  have hv:=hr _ (zV hi)
  rw[zS hi]
  generalize vs[i]=v at hg hv
  have Wd:Own H d:=W.sub (by
   refine List.Sublist.trans ?_ (yU ..)
   refine List.Sublist.trans ?_ (yU ..)
   refine List.Sublist.trans ?_ (yE ..)
   exact yE ..)
  have Lt:Lent H p f O S m:=OutOk.lent W.head hO hS ⟨hA,fun i a h1 h2=>hD i a h1 h2 H Wd⟩ (il_fz SA hL W.tail.tail 12)
  have hc:∀id,callV cw mds 48 [.ptr p 0,rowC [v] (some 1)] H id=some (.val (.own id 0 [slotV slots v].length 1 none) (some (.row (cellsI [slotV slots v]) 3))):=fun id=>by
   rw[slots_call Lt hS (RowA.of [v] (some 1)) (by simp) (fun y hy=>by rw[xP.1 hy];exact hv) id]
   rfl
  have W1:=W.new (cellsI [slotV slots v]) 3
  obtain⟨H',A',oS',hput,W2,S2⟩:=put_new (ox:=[(H.length,cellsI [slotV slots v],3)]) W1 hA SA hL (by omega) (ins_own (bs [97,103,97,105,110]) 0 H.length [slotV slots v] (-1))
  have h7:7<out.length:=(zG.1 hA).1
  obtain⟨H5,A5,o5,L5,R5,W5,S5,K5,q3⟩:=step_l5 j (i+1) H' (out.set 7 A') A' oS' _ (by omega) W2 (yK h7) (hD.set _) S2 (hL.add (ins_own (bs [97,103,97,105,110]) 0 H.length [slotV slots v] (-1))) (by simp;omega)
  rw[wG]at W5
  refine⟨H5,A5,o5,L5,loopW_round ?_ R5,W5,S5,K5,by rw[q3];simp⟩
  have l1:Ai.load H none (.ptr c 0)=some (.ptr p 0):=by rw[load_ptr (W.get (mcO c p) (by simp))];rfl
  have bu:=build_2 (bs [97,103,97,105,110]) H.length [slotV slots v].length (-1)
  simp -implicitDefEqProofs only[c28l5,aW,↓aP,makes,reduceLT,reduceEqDiff,reduceAdd,hlt,hY.iadr hg,load_ip1,l1,core_bsl,bslV_1r,hc,core_build,bu,hput,wrap1 (show i<4611686018427387904 by omega)]
theorem step_l4:∀(j i:Nat)(H:List AO)(out:List AV)(A:AV)(oS:List Obj1)(L:List InsV),j+i=vs.length→Own H (mkO p f O S m out::mcO c p::(oS++(ilO L++d)))→out[7]?=some A→OutD d out→InsL A (ilC L) oS→ilOk L→L.length≤10000+i →
  ∃(H':List AO)(A':AV)(oS':List Obj1)(L':List InsV),loopW (codeW cw (lookM mtl) mds c28l4) [1,5,147,148,149] [(1,.ptr c 0),(5,.fn (.func 46) [] [.ptr c 0]),(147,Y),(148,litI .i64 vs.length),(149,litI .i64 i)] H =
   some (.exit 8,[(1,.ptr c 0),(5,.fn (.func 46) [] [.ptr c 0]),(147,Y),(148,litI .i64 vs.length),(149,litI .i64 vs.length),(150,litB false)],H') ∧
   Own H' (mkO p f O S m (out.set 7 A')::mcO c p::(oS'++(ilO L'++d)))∧InsL A' (ilC L') oS'∧ilOk L' ∧
   L'.map (fun e=>(e.op,e.dst,e.k))=L.map (fun e=>(e.op,e.dst,e.k))++(List.range (vs.length-i)).map fun n=>(bs [111,117,116],0,((i+n:Nat):Int))
 | 0,i,H,out,A,oS,L,h,W,hA,hD,SA,hL,hb=>by
  have hi:i=vs.length:=by omega
  subst hi
  have hs:out.set 7 A=out:=by
   obtain⟨h1,h2⟩:=zG.1 hA
   rw[←h2,vF]
  refine⟨H,A,oS,L,loopW_out ?_ (by simp),by rw[hs];exact W,SA,hL,by simp⟩
  simp -implicitDefEqProofs only[c28l4,aW,↓aP,makes,reduceLT,reduceEqDiff,reduceAdd,zR]
 | j+1,i,H,out,A,oS,L,h,W,hA,hD,SA,hL,hb=>by
  have hi:i<vs.length:=by omega
  have hlt:(i:Int)<vs.length:=by omega
  have hg:vs[i]?=some vs[i]:=zE hi
  have hv:=hr _ (zV hi)
  generalize vs[i]=v at hg hv
  have Wd:Own H d:=W.sub (by
   refine List.Sublist.trans ?_ (yU ..)
   refine List.Sublist.trans ?_ (yU ..)
   refine List.Sublist.trans ?_ (yE ..)
   exact yE ..)
  have Lt:Lent H p f O S m:=OutOk.lent W.head hO hS ⟨hA,fun i a h1 h2=>hD i a h1 h2 H Wd⟩ (il_fz SA hL W.tail.tail 12)
  have hc:∀id,callV cw mds 48 [.ptr p 0,rowC [v] (some 1)] H id=some (.val (.own id 0 [slotV slots v].length 1 none) (some (.row (cellsI [slotV slots v]) 3))):=fun id=>by
   rw[slots_call Lt hS (RowA.of [v] (some 1)) (by simp) (fun y hy=>by rw[xP.1 hy];exact hv) id]
   rfl
  have W1:=W.new (cellsI [slotV slots v]) 3
  obtain⟨H',A',oS',hput,W2,S2⟩:=put_new (ox:=[(H.length,cellsI [slotV slots v],3)]) W1 hA SA hL (by omega) (ins_own (bs [111,117,116]) i H.length [slotV slots v] (-1))
  have h7:7<out.length:=(zG.1 hA).1
  obtain⟨H5,A5,o5,L5,R5,W5,S5,K5,q3⟩:=step_l4 j (i+1) H' (out.set 7 A') A' oS' _ (by omega) W2 (yK h7) (hD.set _) S2 (hL.add (ins_own (bs [111,117,116]) i H.length [slotV slots v] (-1))) (by simp;omega)
  rw[wG]at W5
  refine⟨H5,A5,o5,L5,loopW_round ?_ R5,W5,S5,K5,?_⟩
  rotate_left
  ·rw[q3,show vs.length-i=(vs.length-(i+1))+1 by omega,vQ]
   simp only[vG,yJ,vE,yZ,zU,xC,yF,zK]
   congr 2
   refine wK fun n _=>?_
   simp only[Function.comp]
   rw[show i+1+n=i+(n+1) by omega]
  have l1:Ai.load H none (.ptr c 0)=some (.ptr p 0):=by rw[load_ptr (W.get (mcO c p) (by simp))];rfl
  have bu:=build_1 (bs [111,117,116]) i H.length [slotV slots v].length (-1)
  simp -implicitDefEqProofs only[c28l4,aW,↓aP,makes,reduceLT,reduceEqDiff,reduceAdd,hlt,hY.iadr hg,load_ip1,l1,core_bsl,bslV_1r,hc,core_build,bu,hput,wrap1 (show i<4611686018427387904 by omega)]
end
end
section
variable {call:CallF}{mt:MtF}{md:FuncId→Md}
def RowsE(e:Nat)(t:TypeId)(A:AV)(T:List (List AV))(o:List Obj1):Prop:=(A=.sl 0 [] (some 0)∧T=[]∧o=[])∨∃p,T≠[]∧A=.own p 0 T.length e none∧o=[(p,T.flatten,t)]
theorem RowsE.nil(e:Nat)(t:TypeId):RowsE e t (.sl 0 [] (some 0)) [] []:=.inl ⟨rfl,rfl,rfl⟩
theorem RowsE.cell{e:Nat}{t:TypeId}{A:AV}{T:List (List AV)}{o:List Obj1}(h:RowsE e t A T o):cellsOf A=[A]∧Ai.cellA A=true:=by
 rcases h with⟨rfl,rfl,_⟩|⟨p,_,rfl,_⟩<;>exact⟨rfl,rfl⟩
theorem lenE{e:Nat}:∀(T:List (List AV)),(∀c∈T,c.length=e)→T.flatten.length=T.length*e
 | [],_=>by simp
 | x::T,h=>by
  rw[wE,zN,lenE T (fun y hy=>h y (zI _ hy)),h x (zM ..),zC,xH];omega
theorem RowsE.push{e b:Nat}{t:TypeId}{A:AV}{T:List (List AV)}{o d:List Obj1}{H:List AO}(S:RowsE e t A T o)(O:Own H (o++d)){x:List AV}(hT:∀c∈T,c.length=e)(hb:(T.length+1)*b≤140737488355328) :
  ∃H',App (Ai.append H H.length e b t A (.sl e [x] (some 1))) H (.own H.length 0 (T++[x]).length e none) H'∧Own H' ((H.length,(T++[x]).flatten,t)::d):=by
 have hY:Ai.elems H e (.sl e [x] (some 1))=some (1,x):=by
  simp only[Ai.elems,beq_self_eq_true,xI,cond_true,zC,zA,wE,List.flatten_nil,zZ]
 have h8:Nat.ble ((T.length+1)*b) 140737488355328=true:=yH hb
 rcases S with⟨rfl,rfl,rfl⟩|⟨p,hne,rfl,rfl⟩
 ·refine⟨H++[.row x t],.inr (.inl ⟨.row x t,?_,rfl⟩),by simpa using O.new x t⟩
  unfold Ai.append
  rw[hY]
  simp only[zA,zB]at h8
  simp only[zD,Nat.reduceBEq,cond_false,zA,beq_self_eq_true,uN,xD,xY,zQ,zB,h8,cond_true,List.flatten_nil,yF,zC]
 ·have hp:H[p]?=some (.row T.flatten t):=O.head
  refine⟨setL H p .dead++[.row (T++[x]).flatten t],.inr (.inr ?_),?_⟩
  ·have hl:=lenE T hT
   unfold Ai.append
   rw[hY]
   simp only[zD,Nat.reduceBEq,cond_false,rowAt_of hp,beq_self_eq_true,h8,yH (show 0+T.length*e≤T.flatten.length by omega),yX,cond_true,zJ,xW (show T.flatten.length≤T.length*e by omega)]
   simp
  ·have On:=(Own.kill O).new (T++[x]).flatten t
   rw[setL_len]at On
   exact On
theorem RowsE.fzD{e:Nat}{t:TypeId}{A:AV}{T:List (List AV)}{o:List Obj1}(S:RowsE e t A T o)(hT:∀c∈T,c.length=e)(hw:∀c∈T,c.all whole=true):FzD o A:=by
 intro H O
 rcases S with⟨rfl,_,_⟩|⟨p,hne,rfl,rfl⟩
 ·exact Fz.whole rfl _
 ·refine Fz.own (k:=14) O.head (by rw[lenE T hT];exact zT _) fun a ha=>?_
  obtain⟨c,hc,hac⟩:=List.mem_flatten.1 ha
  have:=hw c hc
  rw[yD]at this
  exact Fz.whole (this a hac) 13
theorem FzD.sub{d d':List Obj1}{a:AV}(h:FzD d a)(s:d.Sublist d'):FzD d' a:=fun H O=>h H (O.sub s)
end
section
variable {call:CallF}{mt:MtF}{md:FuncId→Md}
theorem newS_app(H:List AO)(id:Nat)(l:List Int):App (newS id l) H (newA id l) (if l=[]then H else H++[.row (cellsI l) 3]):=by
 unfold newS newA
 by_cases e:l=[]
 ·rw[if_pos e,if_pos e,if_pos e];exact .inl ⟨rfl,rfl⟩
 ·rw[if_neg e,if_neg e,if_neg e];exact .inr (.inl ⟨_,rfl,rfl⟩)
theorem build_3(op:ByteArray)(k:Int)(r n:Nat)(g:Int)(id:Nat)(l:List Int):buildV z11 [(0,1,litS op),(3,1,litI .i64 k),(2,1,.own r 0 n 1 none),(9,1,litI .i64 g),(10,1,newA id l)]=some (.val (.agg (insC op 0 (.own r 0 n 1 none) k (litI .i64 0) (litB false) (.sl 0 [] (some 0)) (.sl 0 [] (some 0)) (litS (bs [])) g (newA id l))) none):=by
 unfold newA
 split<;>rfl
theorem ins_keep(op:ByteArray)(k:Int)(r:Nat)(l:List Int)(g:Int)(id:Nat)(l2:List Int):InsOk (insC op 0 (.own r 0 l.length 1 none) k (litI .i64 0) (litB false) (.sl 0 [] (some 0)) (.sl 0 [] (some 0)) (litS (bs [])) g (newA id l2)) ([(r,cellsI l,3)]++(if l2=[]then []else [(id,cellsI l2,3)])) op 0 k:=by
 obtain⟨o,ho,eo⟩:=newA_int id l2
 exact⟨_,_,_,_,_,_,_,_,[(r,cellsI l,3)],o,rfl,rfl,.inr ⟨r,l,rfl,rfl⟩,ho,by rw[eo]⟩
abbrev keepY(cs:List AV)(t:TypeId)(s:Int):List AO:=[.row cs t,.dead,.dead,.dead,.dead,.dead,.dead,.row (cellsI [s]) 3,.dead,.dead,.dead,.dead,.dead,.dead,.dead]
theorem keep_own{H:List AO}{cs:List AV}{t:TypeId}{s:Int}{l2:List Int}{d:List Obj1}(W:Own H d):Own (if l2=[]then H++keepY cs t s else(H++keepY cs t s)++[.row (cellsI l2) 3]) (([(H.length+7,cellsI [s],3)]++(if l2=[]then []else [(H.length+15,cellsI l2,3)]))++((H.length,cs,t)::d)):=by
 have W1:=Own.obs (keepY cs t s) W
 have W2:Own (H++keepY cs t s) ((H.length+7,cellsI [s],3)::(H.length,cs,t)::d):=by
  refine W1.perm ?_
  simp only[rowsOf,xC,yF]
  exact List.Perm.swap ..
 by_cases e:l2=[]
 ·rw[if_pos e,if_pos e];exact W2
 ·rw[if_neg e,if_neg e]
  have:=W2.new (cellsI l2) 3
  have hl:(H++keepY cs t s).length=H.length+15:=by simp
  rw[hl]at this
  exact this.perm (List.Perm.swap ..)
theorem perm_front{a b o1 o2:List Obj1}{x:Obj1}:(a++(b++(x::(o1++o2)))).Perm (o1++(a++(b++(x::o2)))):=by
 have e1:(a++(b++(x::(o1++o2))))=(a++b++[x])++(o1++o2):=by simp
 have e2:(o1++(a++(b++(x::o2))))=o1++((a++b++[x])++o2):=by simp
 rw[e1,e2]
 exact wN ..
theorem put_more{H:List AO}{p c:Nat}{f:FlatV}{O S:AV}{m:Int}{out:List AV}{oS d ox:List Obj1}{A:AV}{L:List InsV}(W:Own H (ox++(mkO p f O S m out::mcO c p::(oS++(ilO L++d)))))(hA:out[7]?=some A)(SA:InsL A (ilC L) oS)(hL:ilOk L)(hb:L.length≤100000)
  {x:List AV}{op:ByteArray}{dst k:Int}(hx:InsOk x ox op dst k) :
  ∃H' A' oS' L2,(∀id,fnV cw mds (.fn (.func 46) [] [.ptr c 0]) [.agg x] H id=some (.wr (.tup []) H'))∧Own H' (mkO p f O S m (out.set 7 A')::mcO c p::(oS'++(ilO L2++d)))∧InsL A' (ilC L2) oS'∧ilOk L2∧L2.length=L.length+1∧L2.map (fun e=>(e.op,e.dst,e.k))=L.map (fun e=>(e.op,e.dst,e.k))++[(op,dst,k)]:=by
 obtain⟨H',A',oS',h1,h2,h3⟩:=put_new W hA SA hL hb hx
 exact⟨H',A',oS',_,h1,h2,h3,hL.add hx,by simp,by simp⟩
theorem bslV_5(H:List AO)(l:LitV):bslV H 5 1 [litI .i64 0,litB false,.sl 0 [] (some 0),.sl 0 [] (some 0),litS (bs [])] [(0,.agg (l.cs []))]=some (.val (.sl 5 [l.cs []] (some 1)) none):=rfl
theorem load_5{H:List AO}{r:Nat}{l:LitV}{rest:List AV}{t:TypeId}(h:H[r]?=some (.row (l.cs rest) t)):Ai.load H (some 5) (.ptr r 0)=some (.agg (l.cs [])):=by
 simp only[Ai.load,rowAt_of h,zD]
 rfl
section
variable(p c:Nat)(f:FlatV){O S:AV}(m:Int){ord slots:List Int}(hO:RowA O ord)(hS:RowA S slots)(d:List Obj1)(hn:∀x∈f.mems,x.next<slots.length∧x.guard<slots.length∧x.resets.length≤100∧∀y∈x.resets,y<(slots.length:Int))(hml:f.mems.length≤1000)
include hO hS hn hml
theorem step_l2:∀(j i:Nat)(H:List AO)(out:List AV)(A M:AV)(oS oM:List Obj1)(L:List InsV)(T:List (List AV)),j+i=f.mems.length→Own H (mkO p f O S m out::mcO c p::(oS++(ilO L++(oM++d))))→out[7]?=some A→out[5]?=some M→(∀(i:Nat)(a:AV),out[i]?=some a→i≠7→i≠5→FzD d a)→InsL A (ilC L) oS→ilOk L→L.length≤10000+i →
  RowsE 5 52 M T oM→(∀x∈T,x.length=5)→(∀x∈T,x.all whole=true)→T.length≤i →
  ∃(H':List AO)(A' M':AV)(oS' oM':List Obj1)(L':List InsV)(T':List (List AV)),loopW (codeW cw (lookM mtl) mds c28l2) [1,5,63,64,65] [(1,.ptr c 0),(5,.fn (.func 46) [] [.ptr c 0]),(63,memsA f.mems),(64,litI .i64 f.mems.length),(65,litI .i64 i)] H =
   some (.exit 4,[(1,.ptr c 0),(5,.fn (.func 46) [] [.ptr c 0]),(63,memsA f.mems),(64,litI .i64 f.mems.length),(65,litI .i64 f.mems.length),(66,litB false)],H') ∧
   Own H' (mkO p f O S m ((out.set 7 A').set 5 M')::mcO c p::(oS'++(ilO L'++(oM'++d))))∧InsL A' (ilC L') oS'∧ilOk L'∧RowsE 5 52 M' T' oM'∧(∀x∈T',x.length=5)∧(∀x∈T',x.all whole=true) ∧
   L'.map (fun e=>(e.op,e.dst,e.k))=L.map (fun e=>(e.op,e.dst,e.k))++(List.range (f.mems.length-i)).map fun n=>(bs [107,101,101,112],0,((i+n:Nat):Int))
 | 0,i,H,out,A,M,oS,oM,L,T,h,W,hA,hM,hD,SA,hL,hb,SM,hT,hw,hTl=>by
  have hi:i=f.mems.length:=by omega
  subst hi
  have hs:(out.set 7 A).set 5 M=out:=by
   obtain⟨h1,h2⟩:=zG.1 hA
   obtain⟨h3,h4⟩:=zG.1 hM
   rw[←h2,vF,←h4,vF]
  refine⟨H,A,M,oS,oM,L,T,loopW_out ?_ (by simp),by rw[hs];exact W,SA,hL,SM,hT,hw,by simp⟩
  simp -implicitDefEqProofs only[c28l2,aW,↓aP,makes,reduceLT,reduceEqDiff,reduceAdd,zR]
 | j+1,i,H,out,A,M,oS,oM,L,T,h,W,hA,hM,hD,SA,hL,hb,SM,hT,hw,hTl=>by
  have hi:i<f.mems.length:=by omega
  have hlt:(i:Int)<f.mems.length:=by omega
  have hg:f.mems[i]?=some f.mems[i]:=zE hi
  obtain⟨n1,n2,n3,n4⟩:=hn _ (zV hi)
  generalize f.mems[i]=mv at hg n1 n2 n3 n4
  have Wd:Own H (oM++d):=W.sub (by
   refine List.Sublist.trans ?_ (yU ..)
   refine List.Sublist.trans ?_ (yU ..)
   refine List.Sublist.trans ?_ (yE ..)
   exact yE ..)
  have Lt:Lent H p f O S m:=OutOk.lent W.head hO hS ⟨hA,fun i a h1 h2=>by
   by_cases e5:i=5
   ·subst e5
    rw[hM]at h1;cases h1
    exact(SM.fzD hT hw).sub (xZ oM d) H Wd
   ·exact(hD i a h1 h2 e5).sub (yE oM d) H Wd⟩ (il_fz SA hL W.tail.tail 12)
  have l1:∀Y,Ai.load (H++Y) none (.ptr c 0)=some (.ptr p 0):=fun Y=>by
   have:=W.get (mcO c p) (by simp)
   rw[load_ptr (cs:=[.ptr p 0]) (t:=68) (by rw[yC (zG.1 this).1];exact this)];rfl
  have g5:Ai.load (H++[.row mv.cs 87]) none (.ptr H.length 5)=some (litI .i64 mv.next):=by rw[load_app0];rfl
  have g6:Ai.load (H++[.row mv.cs 87]) none (.ptr H.length 6)=some (litI .i64 mv.guard):=by rw[load_app0];rfl
  have g7:Ai.load (H++[.row mv.cs 87]) none (.ptr H.length 7)=some (rowC mv.resets none):=by rw[load_app0];rfl
  have st0:∀z:List AV,z.length=8→storeAt (H++[.row z 87]) 8 (.ptr H.length 0) (.agg mv.cs)=some (H++[.row mv.cs 87]):=fun z hz=>by
   have:=store_app H [.row z 87] 8 0 0 (.agg mv.cs)
   rw[zK]at this
   rw[this,storeAt_agg (n:=8) (H:=[.row z 87]) (r:=0) (cs:=z) (xs:=mv.cs) (t:=87) rfl hz rfl rfl];rfl
  have c76:∀id,callV cw mds 48 [.ptr p 0,rowC [mv.next] (some 1)] (H++[.row mv.cs 87]) id=some (.val (.own id 0 [slotV slots mv.next].length 1 none) (some (.row (cellsI [slotV slots mv.next]) 3))):=fun id=>by
   rw[slots_call (Lt.ext _) hS (RowA.of [mv.next] (some 1)) (by simp) (fun y hy=>by rw[xP.1 hy];exact n1) id]
   rfl
  have c80:=fun id=>slot_call (Lt.ext [.row mv.cs 87]) hS mv.guard n2 id
  have c84:=fun id=>slots_call (Lt.ext (keepY mv.cs 87 (slotV slots mv.next))) hS (RowA.of mv.resets none) (by omega) n4 id
  have ap:=newS_app (H++keepY mv.cs 87 (slotV slots mv.next)) (H.length+15) (mv.resets.map (slotV slots))
  rw[←c84]at ap
  have W2:=keep_own (cs:=mv.cs) (t:=87) (s:=slotV slots mv.next) (l2:=mv.resets.map (slotV slots)) W
  have hins:=ins_keep (bs [107,101,101,112]) i (H.length+7) [slotV slots mv.next] (slotV slots mv.guard) (H.length+15) (mv.resets.map (slotV slots))
  have bu:=build_3 (bs [107,101,101,112]) i (H.length+7) [slotV slots mv.next].length (slotV slots mv.guard) (H.length+15) (mv.resets.map (slotV slots))
  generalize mv.resets.map (slotV slots)=l2 at ap W2 hins bu
  generalize (if l2=[]then H++keepY mv.cs 87 (slotV slots mv.next)else(H++keepY mv.cs 87 (slotV slots mv.next))++[.row (cellsI l2) 3])=H2 at ap W2
  have W3:Own H2 (([(H.length+7,cellsI [slotV slots mv.next],3)]++(if l2=[]then []else [(H.length+15,cellsI l2,3)]))++(mkO p f O S m out::mcO c p::(oS++(ilO L++((H.length,mv.cs,87)::(oM++d)))))):=by
   refine W2.perm (List.Perm.append_left _ ?_)
   have e1:((H.length,mv.cs,87)::mkO p f O S m out::mcO c p::(oS++(ilO L++(oM++d))))=[(H.length,mv.cs,87)]++((mkO p f O S m out::mcO c p::(oS++ilO L))++(oM++d)):=by simp
   have e2:(mkO p f O S m out::mcO c p::(oS++(ilO L++((H.length,mv.cs,87)::(oM++d)))))=(mkO p f O S m out::mcO c p::(oS++ilO L))++([(H.length,mv.cs,87)]++(oM++d)):=by simp
   rw[e1,e2]
   exact wN ..
  obtain⟨H3,A3,o3,L2,hput,W4,S4,K4,len4,map4⟩:=put_more W3 hA SA hL (by omega) hins
  have h7:7<out.length:=(zG.1 hA).1
  have m5:(out.set 7 A3)[5]?=some M:=by rw[yT (by omega)];exact hM
  have q1:Ai.load H3 none (.ptr c 0)=some (.ptr p 0):=by rw[load_ptr (W4.get (mcO c p) (zI _ (zM ..)))];rfl
  have q2:Ai.load H3 none (.ptr p 16)=some M:=by rw[load_ptr W4.head];exact(mkC_at f O S m (out.set 7 A3) 5).trans m5
  have q3:Ai.load H3 (some 5) (.ptr H.length 0)=some (.agg (mv.init.cs [])):=load_5 (l:=mv.init) (W4.get (H.length,mv.cs,87) (zI _ (zI _ (wL _ (wL _ (zM ..))))))
  have W5:Own H3 (oM++(mkO p f O S m (out.set 7 A3)::mcO c p::(o3++(ilO L2++((H.length,mv.cs,87)::d))))) :=
   W4.perm (perm_front (a:=mkO p f O S m (out.set 7 A3)::mcO c p::o3))
  obtain⟨H4,ap2,W6⟩:=SM.push (b:=80) W5 (x:=mv.init.cs []) hT (by omega)
  generalize hN:(AV.own H3.length 0 (T++[mv.init.cs []]).length 5 none)=N at ap2
  have hNc:cellsOf N=[N]∧cellA N=true:=by rw[←hN];exact⟨rfl,rfl⟩
  have W7:=W6.perm (List.Perm.swap ..)
  have st:storeAt H4 1 (.ptr p 16) N=some (setL H4 p (.row (mkC f O S m ((out.set 7 A3).set 5 N)) 70)):=by
   rw[store_ptr W7.head (by rw[mkC_len,yW];omega) hNc.1 hNc.2,←mkC_set f O S m (out.set 7 A3) 5 N]
  have q4:Ai.load H4 none (.ptr c 0)=some (.ptr p 0):=by rw[load_ptr (W7.get (mcO c p) (zI _ (zI _ (zM ..))))];rfl
  have W8:=W7.set (mkC f O S m ((out.set 7 A3).set 5 N)) 70
  have q5:Ai.load (setL H4 p (.row (mkC f O S m ((out.set 7 A3).set 5 N)) 70)) none (.ptr c 0)=some (.ptr p 0):=by rw[load_ptr (W8.get (mcO c p) (zI _ (zI _ (zM ..))))];rfl
  have W9:Own (setL H4 p (.row (mkC f O S m ((out.set 7 A3).set 5 N)) 70)) (mkO p f O S m ((out.set 7 A3).set 5 N)::mcO c p::(o3++(ilO L2++([(H3.length,(T++[mv.init.cs []]).flatten,52)]++d)))):=by
   refine(W8.sub (d':=mkO p f O S m ((out.set 7 A3).set 5 N)::(H3.length,(T++[mv.init.cs []]).flatten,52)::mcO c p::(o3++(ilO L2++d))) ?_).perm ?_
   ·refine List.Sublist.cons_cons _ (List.Sublist.cons_cons _ (List.Sublist.cons_cons _ ?_))
    exact List.Sublist.append_left (List.Sublist.append_left (yU ..) _) _
   ·refine List.Perm.cons _ ?_
    have e1:∀(X:Obj1)(a b:List Obj1),(X::mcO c p::(a++(b++d)))=[X]++((mcO c p::(a++b))++d):=fun X a b=>by simp
    have e2:∀(X:Obj1)(a b:List Obj1),(mcO c p::(a++(b++([X]++d))))=(mcO c p::(a++b))++([X]++d):=fun X a b=>by simp
    rw[e1,e2]
    exact wN ..
  have S9:RowsE 5 52 N (T++[mv.init.cs []]) [(H3.length,(T++[mv.init.cs []]).flatten,52)]:=.inr ⟨H3.length,by simp,hN.symm,rfl⟩
  have h5:5<out.length:=by omega
  obtain⟨H6,A6,M6,o6,oM6,L6,T6,R6,W10,S10,K10,SM10,hT10,hw10,q10⟩:=step_l2 j (i+1) _ ((out.set 7 A3).set 5 N) A3 N o3 _ _ _ (by omega) W9
   (by rw[yT (by omega),yK h7]) (by rw[yK (by rw[yW];exact h5)])
   (fun k a hk k7 k5=>hD k a (by rwa [yT (fun e=>k5 e.symm),yT (fun e=>k7 e.symm)]at hk) k7 k5)
   S4 K4 (by omega) S9
   (fun x hx=>by
    rcases zY.1 hx with hx|hx
    ·exact hT x hx
    ·rw[xP.1 hx];rfl)
   (fun x hx=>by
    rcases zY.1 hx with hx|hx
    ·exact hw x hx
    ·rw[xP.1 hx];rfl) (by simp;omega)
  have hset:((((out.set 7 A3).set 5 N).set 7 A6).set 5 M6)=(out.set 7 A6).set 5 M6:=by
   rw[List.set_comm N A6 (show(5:Nat)≠7 by omega),wG,wG]
  rw[hset]at W10
  refine⟨H6,A6,M6,o6,oM6,L6,T6,loopW_round ?_ R6,W10,S10,K10,SM10,hT10,hw10,?_⟩
  ·have lm:=load_ipA (H:=H) (show mv.cs.length=8 from rfl)
   have n1:nilck (.ptr p 0)=some (.ptr p 0):=rfl
   have la:=l1 [.row mv.cs 87]
   simp only[zC,zA,zB]at c76 bu hput
   have sz:=st0 [litI .i64 0,litB false,.sl 0 [] (some 0),.sl 0 [] (some 0),litS (bs []),litI .i64 0,litI .i64 0,.sl 0 [] (some 0)] rfl
   simp -implicitDefEqProofs only[c28l2,aW,↓aP,makes,reduceLT,reduceEqDiff,reduceAdd,hlt,iadr_mems,hg,lm,zN,zC,zA,zU,xK,sz,fadr_ptr,la,g5,core_bsl,bslV_1r,c76,g6,c80,g7,show mds 48=Md.own from rfl,show mds 49=Md.pure from rfl,ap.tlS,core_build,bu,hput,q1,core_nilck,n1,q2,q3,bslV_5,core_app,ap2.tlS,q4,st,q5,wrap1 (show i<4611686018427387904 by omega)]
  ·rw[q10,map4,show f.mems.length-i=(f.mems.length-(i+1))+1 by omega,vQ]
   simp only[vG,yJ,vE,yZ,zU,xC,yF,zK]
   congr 2
   refine wK fun n _=>?_
   simp only[Function.comp]
   rw[show i+1+n=i+(n+1) by omega]
end
end
section
variable {call:CallF}{mt:MtF}{md:FuncId→Md}
section
variable(p c:Nat)(f:FlatV){O S:AV}(m:Int){ord slots:List Int}(hO:RowA O ord)(hS:RowA S slots)(d:List Obj1)(hn:∀x∈f.conts,x.var<slots.length∧x.guard<slots.length∧x.resets.length≤100∧∀y∈x.resets,y<(slots.length:Int))(hml:f.conts.length≤1000)
include hO hS hn hml
theorem step_l3:∀(j i:Nat)(H:List AO)(out:List AV)(A M:AV)(oS oM:List Obj1)(L:List InsV)(T:List (List AV)),j+i=f.conts.length→Own H (mkO p f O S m out::mcO c p::(oS++(ilO L++(oM++d))))→out[7]?=some A→out[6]?=some M→(∀(i:Nat)(a:AV),out[i]?=some a→i≠7→i≠6→FzD d a)→InsL A (ilC L) oS→ilOk L→L.length≤10000+i →
  RowsE 5 52 M T oM→(∀x∈T,x.length=5)→(∀x∈T,x.all whole=true)→T.length≤i →
  ∃(H':List AO)(A' M':AV)(oS' oM':List Obj1)(L':List InsV)(T':List (List AV)),loopW (codeW cw (lookM mtl) mds c28l3) [1,5,105,106,107] [(1,.ptr c 0),(5,.fn (.func 46) [] [.ptr c 0]),(105,contsA f.conts),(106,litI .i64 f.conts.length),(107,litI .i64 i)] H =
   some (.exit 6,[(1,.ptr c 0),(5,.fn (.func 46) [] [.ptr c 0]),(105,contsA f.conts),(106,litI .i64 f.conts.length),(107,litI .i64 f.conts.length),(108,litB false)],H') ∧
   Own H' (mkO p f O S m ((out.set 7 A').set 6 M')::mcO c p::(oS'++(ilO L'++(oM'++d))))∧InsL A' (ilC L') oS'∧ilOk L'∧RowsE 5 52 M' T' oM'∧(∀x∈T',x.length=5)∧(∀x∈T',x.all whole=true) ∧
   L'.map (fun e=>(e.op,e.dst,e.k))=L.map (fun e=>(e.op,e.dst,e.k))++(List.range (f.conts.length-i)).map fun n=>(bs [115,116,97,116,101],0,((i+n:Nat):Int))
 | 0,i,H,out,A,M,oS,oM,L,T,h,W,hA,hM,hD,SA,hL,hb,SM,hT,hw,hTl=>by
  have hi:i=f.conts.length:=by omega
  subst hi
  have hs:(out.set 7 A).set 6 M=out:=by
   obtain⟨h1,h2⟩:=zG.1 hA
   obtain⟨h3,h4⟩:=zG.1 hM
   rw[←h2,vF,←h4,vF]
  refine⟨H,A,M,oS,oM,L,T,loopW_out ?_ (by simp),by rw[hs];exact W,SA,hL,SM,hT,hw,by simp⟩
  simp -implicitDefEqProofs only[c28l3,aW,↓aP,makes,reduceLT,reduceEqDiff,reduceAdd,zR]
 | j+1,i,H,out,A,M,oS,oM,L,T,h,W,hA,hM,hD,SA,hL,hb,SM,hT,hw,hTl=>by
  have hi:i<f.conts.length:=by omega
  have hlt:(i:Int)<f.conts.length:=by omega
  have hg:f.conts[i]?=some f.conts[i]:=zE hi
  obtain⟨n1,n2,n3,n4⟩:=hn _ (zV hi)
  generalize f.conts[i]=mv at hg n1 n2 n3 n4
  have Wd:Own H (oM++d):=W.sub (by
   refine List.Sublist.trans ?_ (yU ..)
   refine List.Sublist.trans ?_ (yU ..)
   refine List.Sublist.trans ?_ (yE ..)
   exact yE ..)
  have Lt:Lent H p f O S m:=OutOk.lent W.head hO hS ⟨hA,fun i a h1 h2=>by
   by_cases e5:i=6
   ·subst e5
    rw[hM]at h1;cases h1
    exact(SM.fzD hT hw).sub (xZ oM d) H Wd
   ·exact(hD i a h1 h2 e5).sub (yE oM d) H Wd⟩ (il_fz SA hL W.tail.tail 12)
  have l1:∀Y,Ai.load (H++Y) none (.ptr c 0)=some (.ptr p 0):=fun Y=>by
   have:=W.get (mcO c p) (by simp)
   rw[load_ptr (cs:=[.ptr p 0]) (t:=68) (by rw[yC (zG.1 this).1];exact this)];rfl
  have g5:Ai.load (H++[.row mv.cs 90]) none (.ptr H.length 5)=some (litI .i64 mv.var):=by rw[load_app0];rfl
  have g6:Ai.load (H++[.row mv.cs 90]) none (.ptr H.length 6)=some (litI .i64 mv.guard):=by rw[load_app0];rfl
  have g7:Ai.load (H++[.row mv.cs 90]) none (.ptr H.length 7)=some (rowC mv.resets none):=by rw[load_app0];rfl
  have st0:∀z:List AV,z.length=9→storeAt (H++[.row z 90]) 9 (.ptr H.length 0) (.agg mv.cs)=some (H++[.row mv.cs 90]):=fun z hz=>by
   have:=store_app H [.row z 90] 9 0 0 (.agg mv.cs)
   rw[zK]at this
   rw[this,storeAt_agg (n:=9) (H:=[.row z 90]) (r:=0) (cs:=z) (xs:=mv.cs) (t:=90) rfl hz rfl rfl];rfl
  have c76:∀id,callV cw mds 48 [.ptr p 0,rowC [mv.var] (some 1)] (H++[.row mv.cs 90]) id=some (.val (.own id 0 [slotV slots mv.var].length 1 none) (some (.row (cellsI [slotV slots mv.var]) 3))):=fun id=>by
   rw[slots_call (Lt.ext _) hS (RowA.of [mv.var] (some 1)) (by simp) (fun y hy=>by rw[xP.1 hy];exact n1) id]
   rfl
  have c80:=fun id=>slot_call (Lt.ext [.row mv.cs 90]) hS mv.guard n2 id
  have c84:=fun id=>slots_call (Lt.ext (keepY mv.cs 90 (slotV slots mv.var))) hS (RowA.of mv.resets none) (by omega) n4 id
  have ap:=newS_app (H++keepY mv.cs 90 (slotV slots mv.var)) (H.length+15) (mv.resets.map (slotV slots))
  rw[←c84]at ap
  have W2:=keep_own (cs:=mv.cs) (t:=90) (s:=slotV slots mv.var) (l2:=mv.resets.map (slotV slots)) W
  have hins:=ins_keep (bs [115,116,97,116,101]) i (H.length+7) [slotV slots mv.var] (slotV slots mv.guard) (H.length+15) (mv.resets.map (slotV slots))
  have bu:=build_3 (bs [115,116,97,116,101]) i (H.length+7) [slotV slots mv.var].length (slotV slots mv.guard) (H.length+15) (mv.resets.map (slotV slots))
  generalize mv.resets.map (slotV slots)=l2 at ap W2 hins bu
  generalize (if l2=[]then H++keepY mv.cs 90 (slotV slots mv.var)else(H++keepY mv.cs 90 (slotV slots mv.var))++[.row (cellsI l2) 3])=H2 at ap W2
  have W3:Own H2 (([(H.length+7,cellsI [slotV slots mv.var],3)]++(if l2=[]then []else [(H.length+15,cellsI l2,3)]))++(mkO p f O S m out::mcO c p::(oS++(ilO L++((H.length,mv.cs,90)::(oM++d)))))):=by
   refine W2.perm (List.Perm.append_left _ ?_)
   have e1:((H.length,mv.cs,90)::mkO p f O S m out::mcO c p::(oS++(ilO L++(oM++d))))=[(H.length,mv.cs,90)]++((mkO p f O S m out::mcO c p::(oS++ilO L))++(oM++d)):=by simp
   have e2:(mkO p f O S m out::mcO c p::(oS++(ilO L++((H.length,mv.cs,90)::(oM++d)))))=(mkO p f O S m out::mcO c p::(oS++ilO L))++([(H.length,mv.cs,90)]++(oM++d)):=by simp
   rw[e1,e2]
   exact wN ..
  obtain⟨H3,A3,o3,L2,hput,W4,S4,K4,len4,map4⟩:=put_more W3 hA SA hL (by omega) hins
  have h7:7<out.length:=(zG.1 hA).1
  have m5:(out.set 7 A3)[6]?=some M:=by rw[yT (by omega)];exact hM
  have q1:Ai.load H3 none (.ptr c 0)=some (.ptr p 0):=by rw[load_ptr (W4.get (mcO c p) (zI _ (zM ..)))];rfl
  have q2:Ai.load H3 none (.ptr p 17)=some M:=by rw[load_ptr W4.head];exact(mkC_at f O S m (out.set 7 A3) 6).trans m5
  have q3:Ai.load H3 (some 5) (.ptr H.length 0)=some (.agg (mv.init.cs [])):=load_5 (l:=mv.init) (W4.get (H.length,mv.cs,90) (zI _ (zI _ (wL _ (wL _ (zM ..))))))
  have W5:Own H3 (oM++(mkO p f O S m (out.set 7 A3)::mcO c p::(o3++(ilO L2++((H.length,mv.cs,90)::d))))) :=
   W4.perm (perm_front (a:=mkO p f O S m (out.set 7 A3)::mcO c p::o3))
  obtain⟨H4,ap2,W6⟩:=SM.push (b:=80) W5 (x:=mv.init.cs []) hT (by omega)
  generalize hN:(AV.own H3.length 0 (T++[mv.init.cs []]).length 5 none)=N at ap2
  have hNc:cellsOf N=[N]∧cellA N=true:=by rw[←hN];exact⟨rfl,rfl⟩
  have W7:=W6.perm (List.Perm.swap ..)
  have st:storeAt H4 1 (.ptr p 17) N=some (setL H4 p (.row (mkC f O S m ((out.set 7 A3).set 6 N)) 70)):=by
   rw[store_ptr W7.head (by rw[mkC_len,yW];omega) hNc.1 hNc.2,←mkC_set f O S m (out.set 7 A3) 6 N]
  have q4:Ai.load H4 none (.ptr c 0)=some (.ptr p 0):=by rw[load_ptr (W7.get (mcO c p) (zI _ (zI _ (zM ..))))];rfl
  have W8:=W7.set (mkC f O S m ((out.set 7 A3).set 6 N)) 70
  have q5:Ai.load (setL H4 p (.row (mkC f O S m ((out.set 7 A3).set 6 N)) 70)) none (.ptr c 0)=some (.ptr p 0):=by rw[load_ptr (W8.get (mcO c p) (zI _ (zI _ (zM ..))))];rfl
  have W9:Own (setL H4 p (.row (mkC f O S m ((out.set 7 A3).set 6 N)) 70)) (mkO p f O S m ((out.set 7 A3).set 6 N)::mcO c p::(o3++(ilO L2++([(H3.length,(T++[mv.init.cs []]).flatten,52)]++d)))):=by
   refine(W8.sub (d':=mkO p f O S m ((out.set 7 A3).set 6 N)::(H3.length,(T++[mv.init.cs []]).flatten,52)::mcO c p::(o3++(ilO L2++d))) ?_).perm ?_
   ·refine List.Sublist.cons_cons _ (List.Sublist.cons_cons _ (List.Sublist.cons_cons _ ?_))
    exact List.Sublist.append_left (List.Sublist.append_left (yU ..) _) _
   ·refine List.Perm.cons _ ?_
    have e1:∀(X:Obj1)(a b:List Obj1),(X::mcO c p::(a++(b++d)))=[X]++((mcO c p::(a++b))++d):=fun X a b=>by simp
    have e2:∀(X:Obj1)(a b:List Obj1),(mcO c p::(a++(b++([X]++d))))=(mcO c p::(a++b))++([X]++d):=fun X a b=>by simp
    rw[e1,e2]
    exact wN ..
  have S9:RowsE 5 52 N (T++[mv.init.cs []]) [(H3.length,(T++[mv.init.cs []]).flatten,52)]:=.inr ⟨H3.length,by simp,hN.symm,rfl⟩
  have h5:6<out.length:=by omega
  obtain⟨H6,A6,M6,o6,oM6,L6,T6,R6,W10,S10,K10,SM10,hT10,hw10,q10⟩:=step_l3 j (i+1) _ ((out.set 7 A3).set 6 N) A3 N o3 _ _ _ (by omega) W9
   (by rw[yT (by omega),yK h7]) (by rw[yK (by rw[yW];exact h5)])
   (fun k a hk k7 k5=>hD k a (by rwa [yT (fun e=>k5 e.symm),yT (fun e=>k7 e.symm)]at hk) k7 k5)
   S4 K4 (by omega) S9
   (fun x hx=>by
    rcases zY.1 hx with hx|hx
    ·exact hT x hx
    ·rw[xP.1 hx];rfl)
   (fun x hx=>by
    rcases zY.1 hx with hx|hx
    ·exact hw x hx
    ·rw[xP.1 hx];rfl) (by simp;omega)
  have hset:((((out.set 7 A3).set 6 N).set 7 A6).set 6 M6)=(out.set 7 A6).set 6 M6:=by
   rw[List.set_comm N A6 (show(6:Nat)≠7 by omega),wG,wG]
  rw[hset]at W10
  refine⟨H6,A6,M6,o6,oM6,L6,T6,loopW_round ?_ R6,W10,S10,K10,SM10,hT10,hw10,?_⟩
  ·have lm:=load_ipA (H:=H) (show mv.cs.length=9 from rfl)
   have n1:nilck (.ptr p 0)=some (.ptr p 0):=rfl
   have la:=l1 [.row mv.cs 90]
   simp only[zC,zA,zB]at c76 bu hput
   have sz:=st0 [litI .i64 0,litB false,.sl 0 [] (some 0),.sl 0 [] (some 0),litS (bs []),litI .i64 0,litI .i64 0,.sl 0 [] (some 0),.sl 0 [] (some 0)] rfl
   simp -implicitDefEqProofs only[c28l3,aW,↓aP,makes,reduceLT,reduceEqDiff,reduceAdd,hlt,iadr_conts,hg,lm,zN,zC,zA,zU,xK,sz,fadr_ptr,la,g5,core_bsl,bslV_1r,c76,g6,c80,g7,show mds 48=Md.own from rfl,show mds 49=Md.pure from rfl,ap.tlS,core_build,bu,hput,q1,core_nilck,n1,q2,q3,bslV_5,core_app,ap2.tlS,q4,st,q5,wrap1 (show i<4611686018427387904 by omega)]
  ·rw[q10,map4,show f.conts.length-i=(f.conts.length-(i+1))+1 by omega,vQ]
   simp only[vG,yJ,vE,yZ,zU,xC,yF,zK]
   congr 2
   refine wK fun n _=>?_
   simp only[Function.comp]
   rw[show i+1+n=i+(n+1) by omega]
end
end
section
variable {call:CallF}{mt:MtF}{md:FuncId→Md}
theorem step_l0(f:FlatV)(F:FitsS f)(G:GoodF f)(v1:AV)(t:Nat)(d:List Obj1):∀(j i:Nat)(H:List AO)(T:List (List AV)),j+i=f.eqs.length→T.length=f.names.length→(∀x∈T,x.length=10)→Own H ((t,T.flatten,60)::d) →
  ∃H',loopW (codeW cw (lookM mtl) mds c28l0) [1,2,27,28,29] [(1,v1),(2,.own t 0 f.names.length 10 (some f.names.length)),(27,eqsA f.eqs),(28,litI .i64 f.eqs.length),(29,litI .i64 i)] H =
   some (.exit 0,[(1,v1),(2,.own t 0 f.names.length 10 (some f.names.length)),(27,eqsA f.eqs),(28,litI .i64 f.eqs.length),(29,litI .i64 f.eqs.length),(30,litB false)],H')∧Own H' ((t,(setT T (f.eqs.drop i)).flatten,60)::d)
 | 0,i,H,T,h,hl,hT,W=>by
  have hi:i=f.eqs.length:=by omega
  subst hi
  refine⟨H,loopW_out ?_ (by simp),by rw[yB,setT];exact W⟩
  simp -implicitDefEqProofs only[c28l0,aW,↓aP,makes,reduceLT,reduceEqDiff,reduceAdd,zR]
 | j+1,i,H,T,h,hl,hT,W=>by
  have hi:i<f.eqs.length:=by omega
  have hg:f.eqs[i]?=some f.eqs[i]:=zE hi
  have hlt:(i:Int)<f.eqs.length:=by omega
  have hmem:=zV hi
  rw[zS hi,setT]
  generalize f.eqs[i]=q at hg hmem
  have hv:=G.var q hmem
  have hle:=F.eqs
  have lq:=load_ipA (H:=H) (show q.cs.length=10 from rfl)
  have st0:∀z:List AV,z.length=10→storeAt (H++[.row z 60]) 10 (.ptr H.length 0) (.agg q.cs)=some (H++[.row q.cs 60]):=fun z hz=>by
   have:=store_app H [.row z 60] 10 0 0 (.agg q.cs)
   rw[zK]at this
   rw[this,storeAt_agg (n:=10) (H:=[.row z 60]) (r:=0) (cs:=z) (xs:=q.cs) (t:=60) rfl hz rfl rfl];rfl
  have sz:=st0 [litI .i64 0,litS (bs []),.sl 0 [] (some 0),litI .i64 0,litI .i64 0,litB false,.sl 0 [] (some 0),.sl 0 [] (some 0),litS (bs []),litI .i64 0] rfl
  have g0:Ai.load (H++[.row q.cs 60]) none (.ptr H.length 0)=some (litI .i64 q.var):=by rw[load_app0];rfl
  have g10:Ai.load (H++[.row q.cs 60]) (some 10) (.ptr H.length 0)=some (.agg q.cs):=by rw[load_app0];exact load_agg (cs:=q.cs) (t:=60) rfl rfl
  have W1:=Own.pad W (.row q.cs 60)
  have ia:=iadr_own10 (r:=t) (n:=f.names.length) (c:=some f.names.length) hv.1 hv.2
  have st:=cat_store (x:=q.cs) W1.head hT (v:=q.var.toNat) (by omega) rfl (eqn_cells q)
  rw[zB]at ia st
  obtain⟨H',L,W'⟩:=step_l0 f F G v1 t d j (i+1) _ (T.set q.var.toNat q.cs) (by omega) (by simpa using hl) (fun x hx=>by
   rcases tB hx with hx|rfl
   ·exact hT x hx
   ·rfl) (W1.set _ 60)
  refine⟨H',loopW_round ?_ L,W'⟩
  simp -implicitDefEqProofs only[c28l0,aW,↓aP,makes,reduceLT,reduceEqDiff,reduceAdd,hlt,iadr_eqs,hg,lq,sz,fadr_ptr,g0,g10,ia,st,wrap1 (show i<4611686018427387904 by omega)]
end
section
variable {call:CallF}{mt:MtF}{md:FuncId→Md}
abbrev n0:AV:=.sl 0 [] (some 0)
abbrev z10:List AV:=[litI .i64 0,litS (bs []),.sl 0 [] (some 0),litI .i64 0,litI .i64 0,litB false,.sl 0 [] (some 0),.sl 0 [] (some 0),litS (bs []),litI .i64 0]
abbrev out0(a b c e:Int):List AV:=[litI .i64 a,litI .i64 b,litI .i64 c,litI .i64 e,litI .i64 0,n0,n0,n0,n0,n0]
theorem FzD.whole{d:List Obj1}{a:AV}(h:Ai.whole a=true):FzD d a:=fun H _=>Fz.whole h _
theorem InsL.fzD{A:AV}{L:List InsV}{o d:List Obj1}(S:InsL A (ilC L) o)(hL:ilOk L):FzD (o++(ilO L++d)) A:=fun H W=>il_fz S hL W 12
theorem z10_set(f:FlatV)(G:GoodF f):(∀x∈setT (List.replicate f.names.length z10) f.eqs,x.length=10)∧∀q∈f.eqs,(setT (List.replicate f.names.length z10) f.eqs)[q.var.toNat]?=some q.cs :=
 ⟨setT_10 f.eqs _ fun x hx=>by rw[vV hx];rfl,setT_get f.eqs (List.replicate f.names.length z10) (fun q hq=>by rw[xM];exact G.var q hq) G.nodup⟩
def StepOk(f:FlatV)(ord slots:List Int)(L:List InsV):Prop :=
 ∃(L1:List InsV)(Q:List Eqn),(∀q∈Q,q∈f.eqs)∧Q.map (·.var)=ord∧L1.map (fun e=>(e.op,e.dst))=Q.map (fun q=>(q.op,slotV slots q.var)) ∧
  L.map (fun e=>(e.op,e.dst,e.k))=L1.map (fun e=>(e.op,e.dst,e.k))++((List.range f.mems.length).map fun n=>(bs [107,101,101,112],0,((n:Nat):Int)))++((List.range f.conts.length).map fun n=>(bs [115,116,97,116,101],0,((n:Nat):Int)))++((List.range f.outs.length).map fun n=>(bs [111,117,116],0,((n:Nat):Int)))++(f.again.map fun _=>(bs [97,103,97,105,110],0,0))
theorem step_tells(p:Nat)(f:FlatV){O S:AV}(m:Int){ord slots:List Int}(hO:RowA O ord)(hS:RowA S slots)(F:FitsS f)(G:GoodF f)(hsl:slots.length=f.names.length)(hr:∀x∈ord,0≤x∧x<(f.names.length:Int))(hol:ord.length≤1000)(d:List Obj1)(a b c e:Int)(H:List AO)(W:Own H (mkO p f O S m (out0 a b c e)::d)) :
  ∃(H':List AO)(A M K:AV)(oS oM oK:List Obj1)(L:List InsV)(TM TK:List (List AV)),cw 28 [.ptr p 0] H=some (.ret (.tup []),H')∧Own H' (mkO p f O S m [litI .i64 a,litI .i64 b,litI .i64 c,litI .i64 e,litI .i64 0,M,K,A,n0,n0]::(oS++(ilO L++(oK++(oM++d))))) ∧
   InsL A (ilC L) oS∧ilOk L∧RowsE 5 52 M TM oM∧(∀x∈TM,x.length=5)∧(∀x∈TM,x.all whole=true)∧RowsE 5 52 K TK oK∧(∀x∈TK,x.length=5)∧(∀x∈TK,x.all whole=true)∧L.length≤10000∧StepOk f ord slots L:=by
 have F1:=F.eqs
 have F2:=F.mems
 have F3:=F.conts
 have F4:=F.outs
 have F5:=F.again
 have F6:=F.names
 have hF7:=G.len
 have hw0:∀(i:Nat)(x:AV),(out0 a b c e)[i]?=some x→whole x=true:=fun i x hx=>by
  have hm:=zX hx
  simp only[zO,yG,or_false]at hm
  rcases hm with rfl|rfl|rfl|rfl|rfl|rfl|rfl|rfl|rfl|rfl<;>rfl
 have W1:=W.new [.ptr p 0] 68
 have hb0:boxV H.length 1 (.ptr p 0) 68=some (.val (.ptr H.length 0) (some (.row [.ptr p 0] 68))):=rfl
 have hm2:=mksV_ok (id:=(H++[AO.row [.ptr p 0] 68]).length) (e:=10) (bytes:=144) (z:=z10) (t:=60) (n:=f.eqs.length) (by omega) (by omega)
 rw[reps_cat]at hm2
 have W2:=W1.new (List.replicate f.eqs.length z10).flatten 60
 rw[hF7]at hm2 W2
 have hl1:(H++[AO.row [.ptr p 0] 68]).length=H.length+1:=by simp
 rw[hl1]at hm2 W2
 obtain⟨H3,L3,W3⟩:=step_l0 f F G (.ptr H.length 0) (H.length+1) _ f.eqs.length 0 _ (List.replicate f.names.length z10) (by omega) (by simp) (fun x hx=>by rw[vV hx];rfl) W2
 rw[show((0:Nat):Int)=0 from rfl]at L3
 rw[zJ]at W3
 obtain⟨hT,hTq⟩:=z10_set f G
 generalize setT (List.replicate f.names.length z10) f.eqs=Tab at W3 hT hTq
 have W4:Own H3 (mkO p f O S m (out0 a b c e)::mcO H.length p::([]++(ilO []++((H.length+1,Tab.flatten,60)::d)))):=by
  refine W3.perm ?_
  show((H.length+1,Tab.flatten,60)::mcO H.length p::mkO p f O S m (out0 a b c e)::d).Perm (mkO p f O S m (out0 a b c e)::mcO H.length p::(H.length+1,Tab.flatten,60)::d)
  refine List.Perm.trans ?_ (List.Perm.swap ..)
  refine List.Perm.trans (List.Perm.swap ..) ?_
  exact List.Perm.cons _ (List.Perm.swap ..)
 obtain⟨H5,A5,o5,L5,Q,R5,W5,S5,K5,q1,q2,q3⟩:=step_l1 p H.length (H.length+1) f m hO hS F G hsl Tab hT hTq hr hol d ord.length 0 H3 (out0 a b c e) n0 [] [] (by omega) W4 rfl (fun i x hx _=>FzD.whole (hw0 i x hx)) InsL.nil (by intro y hy;cases hy) (by simp)
 rw[show((0:Nat):Int)=0 from rfl]at R5
 rw[zJ]at q2
 rw[vE,yF]at q3
 have hl5:L5.length≤1000:=by
  have:=congrArg List.length q3
  have h2:=congrArg List.length q2
  simp only[yV]at this h2
  omega
 have W6:Own H5 (mkO p f O S m ((out0 a b c e).set 7 A5)::mcO H.length p::(o5++(ilO L5++([]++d)))):=W5.sub (List.Sublist.cons_cons _ (List.Sublist.cons_cons _ (List.Sublist.append_left (List.Sublist.append_left (yU ..) _) _)))
 have sl:∀x:Int,x<(f.names.length:Int)→x<(slots.length:Int):=fun x hx=>by rw[hsl];exact hx
 obtain⟨H7,A7,M7,o7,oM7,L7,T7,R7,W7,S7,K7,SM7,hT7,hw7,q7⟩:=step_l2 p H.length f m hO hS d (fun x hx=>⟨sl _ (G.mems x hx).1.2,sl _ (G.mems x hx).2.1,by have:=F.mres x hx;omega,fun y hy=>sl _ ((G.mems x hx).2.2 y hy).2⟩) (by omega) f.mems.length 0 H5 _ A5 n0 o5 [] L5 [] (by omega) W6 rfl rfl (fun i x hx h7 h5=>FzD.whole (hw0 i x (by rwa [yT (fun e=>h7 e.symm)]at hx))) S5 K5 (by omega) (RowsE.nil 5 52) (by simp) (by simp) (by simp)
 rw[show((0:Nat):Int)=0 from rfl]at R7
 have hl7:L7.length≤1100:=by
  have:=congrArg List.length q7
  simp only[yV,zN,uU]at this
  omega
 have W8:Own H7 (mkO p f O S m [litI .i64 a,litI .i64 b,litI .i64 c,litI .i64 e,litI .i64 0,M7,n0,A7,n0,n0]::mcO H.length p::(o7++(ilO L7++([]++(oM7++d))))):=W7
 have F7:FzD (oM7++d) M7:=(SM7.fzD hT7 hw7).sub (xZ ..)
 obtain⟨H9,A9,M9,o9,oM9,L9,T9,R9,W9,S9,K9,SM9,hT9,hw9,q9⟩:=step_l3 p H.length f m hO hS (oM7++d) (fun x hx=>⟨sl _ (G.conts x hx).1.2,sl _ (G.conts x hx).2.1,by have:=F.cres x hx;omega,fun y hy=>sl _ ((G.conts x hx).2.2.1 y hy).2⟩) (by omega) f.conts.length 0 H7 _ A7 n0 o7 [] L7 [] (by omega) W8 rfl rfl (fun i x hx h7 h6=>by
   by_cases e5:i=5
   ·subst e5;cases hx;exact F7
   ·exact FzD.whole (hw0 i x (by rw[←hx];rcases i with _|_|_|_|_|_|_|_|i<;>first|rfl|omega))) S7 K7 (by omega) (RowsE.nil 5 52) (by simp) (by simp) (by simp)
 rw[show((0:Nat):Int)=0 from rfl]at R9
 have hl9:L9.length≤1200:=by
  have:=congrArg List.length q9
  simp only[yV,zN,uU]at this
  omega
 have W10:Own H9 (mkO p f O S m [litI .i64 a,litI .i64 b,litI .i64 c,litI .i64 e,litI .i64 0,M7,M9,A9,n0,n0]::mcO H.length p::(o9++(ilO L9++(oM9++(oM7++d))))):=W9
 have D9:∀A,OutD (oM9++(oM7++d)) [litI .i64 a,litI .i64 b,litI .i64 c,litI .i64 e,litI .i64 0,M7,M9,A,n0,n0]:=fun A i x hx h7=>by
  by_cases e5:i=5
  ·subst e5;cases hx;exact F7.sub (yE ..)
  ·by_cases e6:i=6
   ·subst e6;cases hx;exact(SM9.fzD hT9 hw9).sub (xZ ..)
   ·exact FzD.whole (hw0 i x (by rw[←hx];rcases i with _|_|_|_|_|_|_|_|i<;>first|rfl|omega))
 obtain⟨H11,A11,o11,L11,R11,W11,S11,K11,q11⟩:=step_l4 p H.length f m hO hS (oM9++(oM7++d)) (rowC f.outs none) (RowA.of f.outs none) (fun x hx=>sl _ (G.outs x hx).2) (by omega) f.outs.length 0 H9 _ A9 o9 L9 (by omega) W10 rfl (D9 A9) S9 K9 (by omega)
 rw[show((0:Nat):Int)=0 from rfl]at R11
 have hl11:L11.length≤1300:=by
  have:=congrArg List.length q11
  simp only[yV,zN,uU]at this
  omega
 have W12:Own H11 (mkO p f O S m [litI .i64 a,litI .i64 b,litI .i64 c,litI .i64 e,litI .i64 0,M7,M9,A11,n0,n0]::mcO H.length p::(o11++(ilO L11++(oM9++(oM7++d))))):=W11
 obtain⟨H13,A13,o13,L13,R13,W13,S13,K13,q13⟩:=step_l5 p H.length f m hO hS (oM9++(oM7++d)) (rowC f.again none) (RowA.of f.again none) (fun x hx=>sl _ (G.again x hx).2) (by omega) f.again.length 0 H11 _ A11 o11 L11 (by omega) W12 rfl (D9 A11) S11 K11 (by omega)
 rw[show((0:Nat):Int)=0 from rfl]at R13
 have hl13:L13.length≤10000:=by
  have:=congrArg List.length q13
  simp only[yV,zN,vA]at this
  omega
 have W14:Own H13 (mkO p f O S m [litI .i64 a,litI .i64 b,litI .i64 c,litI .i64 e,litI .i64 0,M7,M9,A13,n0,n0]::mcO H.length p::(o13++(ilO L13++(oM9++(oM7++d))))):=W13
 refine⟨H13,A13,M7,M9,o13,oM7,oM9,L13,T7,T9,cw_of fn28 (c:=c28) rfl rfl rfl rfl ?_,W14.sub (List.Sublist.cons_cons _ (yU ..)),S13,K13,SM7,hT7,hw7,SM9,hT9,hw9,hl13,L5,Q,q1,q2,q3,?_⟩
 ·have n1:nilck (.ptr p 0)=some (.ptr p 0):=rfl
  have g1:Ai.load (H++[.row [.ptr p 0] 68]) none (.ptr H.length 0)=some (.ptr p 0):=by rw[load_ptr W1.head];rfl
  have g1b:Ai.load (H++[.row [.ptr p 0] 68]) none (.ptr p 3)=some (eqsA f.eqs):=by rw[load_ptr (W1.get (mkO p f O S m (out0 a b c e)) (zI _ (zM ..)))];rfl
  have g2:Ai.load (H++[.row [.ptr p 0] 68]++[.row (List.replicate f.names.length z10).flatten 60]) none (.ptr H.length 0)=some (.ptr p 0):=by rw[load_ptr (W2.get (mcO H.length p) (by simp))];rfl
  have g2b:Ai.load (H++[.row [.ptr p 0] 68]++[.row (List.replicate f.names.length z10).flatten 60]) none (.ptr p 3)=some (eqsA f.eqs):=by rw[load_ptr (W2.get (mkO p f O S m (out0 a b c e)) (by simp))];rfl
  have g3:Ai.load H3 none (.ptr H.length 0)=some (.ptr p 0):=by rw[load_ptr (W4.get (mcO H.length p) (by simp))];rfl
  have g3b:Ai.load H3 none (.ptr p 8)=some O:=by rw[load_ptr W4.head];rfl
  have g5:Ai.load H5 none (.ptr H.length 0)=some (.ptr p 0):=by rw[load_ptr (W6.get (mcO H.length p) (by simp))];rfl
  have g5b:Ai.load H5 none (.ptr p 4)=some (memsA f.mems):=by rw[load_ptr W6.head];rfl
  have g7:Ai.load H7 none (.ptr H.length 0)=some (.ptr p 0):=by rw[load_ptr (W8.get (mcO H.length p) (by simp))];rfl
  have g7b:Ai.load H7 none (.ptr p 5)=some (contsA f.conts):=by rw[load_ptr W8.head];rfl
  have g9:Ai.load H9 none (.ptr H.length 0)=some (.ptr p 0):=by rw[load_ptr (W10.get (mcO H.length p) (by simp))];rfl
  have g9b:Ai.load H9 none (.ptr p 2)=some (rowC f.outs none):=by rw[load_ptr W10.head];rfl
  have g11:Ai.load H11 none (.ptr H.length 0)=some (.ptr p 0):=by rw[load_ptr (W12.get (mcO H.length p) (by simp))];rfl
  have g11b:Ai.load H11 none (.ptr p 7)=some (rowC f.again none):=by rw[load_ptr W12.head];rfl
  rw[hF7]at L3
  simp only[zU,xC,yF]at g2 g2b L3
  have hle:=hO.lenV
  simp -implicitDefEqProofs only[c28,aW,↓aP,makes,reduceLT,reduceEqDiff,reduceAdd,core_box,hb0,g1,core_nilck,n1,fadr_ptr,zK,g1b,lenV_eqs,hF7,hm2,hl1,zN,zC,zA,zU,xC,yF,xK,g2,g2b,L3,core_mkf,g3,g3b,hle,R5,g5,g5b,lenV_mems,R7,g7,g7b,lenV_conts,R9,g9,g9b,lenV_row,R11,g11,g11b,R13]
  rfl
 ·rw[q13,q11,q9,q7]
  simp only[Nat.sub_zero,zB,zJ]
end
section
variable {call:CallF}{mt:MtF}{md:FuncId→Md}
theorem grow{H:List AO}{p:Nat}{f:FlatV}{O S:AV}{m:Int}{out:List AV}{oS d ox:List Obj1}{A:AV}{L:List InsV}{y idx:Nat}{x:List AV}{op:ByteArray}{dst k:Int}(W:Own H (mkO p f O S m out::(oS++(ilO L++((y,x,54)::(ox++d))))))(hA:out[idx]?=some A)(SA:InsL A (ilC L) oS)(hL:ilOk L)(hb:L.length≤100000)(hx:InsOk x ox op dst k) :
  ∃H' H'',App (Ai.append H H.length 11 168 54 A (.own y 0 1 11 (some 1))) H (.own H.length 0 (L.length+1) 11 none) H'∧storeAt H' 1 (.ptr p (11+idx)) (.own H.length 0 (L.length+1) 11 none)=some H'' ∧
   Own H'' (mkO p f O S m (out.set idx (.own H.length 0 (L.length+1) 11 none))::([(H.length,(ilC (L++[InsV.mk x ox op dst k])).flatten,54)]++(ilO (L++[InsV.mk x ox op dst k])++d))) ∧
   InsL (.own H.length 0 (L.length+1) 11 none) (ilC (L++[InsV.mk x ox op dst k])) [(H.length,(ilC (L++[InsV.mk x ox op dst k])).flatten,54)]∧ilOk (L++[InsV.mk x ox op dst k]):=by
 have W2:Own H (oS++(mkO p f O S m out::(ilO L++((y,x,54)::(ox++d))))):=W.perm vL.symm
 have hl:(ilC L).length=L.length:=by rw[ilC,yV]
 obtain⟨H',ap,W3⟩:=SA.push W2 (y:=y) (x:=x) (by simp) hx.len (ilC_len hL) (by omega)
 rw[←ilC_add L (InsV.mk x ox op dst k)]at ap W3
 have hl2:(ilC (L++[InsV.mk x ox op dst k])).length=L.length+1:=by rw[ilC_add,zN,hl];rfl
 rw[hl2]at ap
 have W4:Own H' (mkO p f O S m out::([(H.length,(ilC (L++[InsV.mk x ox op dst k])).flatten,54)]++(ilO (L++[InsV.mk x ox op dst k])++d))):=by
  refine(W3.sub (d':=(H.length,(ilC (L++[InsV.mk x ox op dst k])).flatten,54)::mkO p f O S m out::(ilO L++(ox++d))) ?_).perm ?_
  ·refine List.Sublist.cons_cons _ (List.Sublist.cons_cons _ ?_)
   exact List.Sublist.append_left (yU ..) _
  ·rw[ilO_add]
   refine(List.Perm.swap ..).trans (List.Perm.cons _ ?_)
   simp
 have st:storeAt H' 1 (.ptr p (11+idx)) (.own H.length 0 (L.length+1) 11 none)=some (setL H' p (.row (mkC f O S m (out.set idx (.own H.length 0 (L.length+1) 11 none))) 70)):=by
  rw[store_ptr W4.head (by rw[mkC_len];have:=(zG.1 hA).1;omega) rfl rfl,←mkC_set]
 refine⟨H',_,ap,st,W4.set _ 70,.inr ⟨H.length,?_,by rw[hl2],rfl⟩,hL.add hx⟩
 rw[ilC_add];simp
theorem lentAt{H:List AO}{p:Nat}{f:FlatV}{O S:AV}{os ss:List Int}{m:Int}{out:List AV}{A:AV}{idx:Nat}{oS d:List Obj1}{L:List InsV}(hO:RowA O os)(hS:RowA S ss)(W:Own H (mkO p f O S m out::(oS++(ilO L++d))))(hA:out[idx]?=some A)(hD:∀(i:Nat)(a:AV),out[i]?=some a→i≠idx→FzD d a)(SA:InsL A (ilC L) oS)(hL:ilOk L):Lent H p f O S m:=by
 refine Lent.of W.head hO hS fun a ha=>?_
 obtain⟨i,hi⟩:=wM ha
 have Wd:Own H d:=W.tail.sub (by
  refine List.Sublist.trans ?_ (yE ..)
  exact yE ..)
 by_cases e:i=idx
 ·subst e
  rw[hA]at hi
  cases hi
  exact il_fz SA hL W.tail 12
 ·exact hD i a hi e H Wd
theorem Own.take{H:List AO}{d:List Obj1}(W:Own H d)(n:Nat)(h:∀x∈d,x.1<n):Own (H.take n) d:=⟨W.1,fun x hx=>by rw[yI,if_pos (h x hx)];exact W.2 x hx⟩
theorem callV_refO{f:FuncId}{args:List AV}{H H':List AO}{d:List Obj1}{id:Nat}(hm:mds f=.ref)(h:cw f args H=some (.ret (.tup []),H'))(W:Own H' d)(hin:(H'.take H.length).all (belowO H.length)=true→∀x∈d,x.1<H.length) :
  ∃H'',callV cw mds f args H id=some (.wr (.tup []) H'')∧Own H'' d:=by
 unfold callV
 rw[hm]
 simp only
 rw[h]
 simp only[zD]
 cases hb:(below H.length frzF (.tup [])&&(H'.take H.length).all (belowO H.length))with
 | true =>
  rw[zL]at hb
  exact⟨_,rfl,Own.take W _ (hin hb.2)⟩
 | false=>exact⟨_,rfl,W⟩
theorem belowC{H:List AO}{n r:Nat}{cs:List AV}{t:TypeId}(h:(H.take n).all (belowO n)=true)(hr:r<n)(hg:H[r]?=some (.row cs t)):∀a∈cs,below n frzF a=true:=by
 rw[yD]at h
 have:=h (.row cs t) (zX (i:=r) (by rw[yI,if_pos hr];exact hg))
 simp only[belowO,yD]at this
 exact this
theorem IntC.lt{A:AV}{o:List Obj1}{n:Nat}(h:IntC A o)(hb:below n frzF A=true):∀x∈o,x.1<n:=by
 rcases h with⟨_,_,rfl⟩|⟨p,l,rfl,rfl⟩
 ·intro x hx;cases hx
 ·intro x hx
  rw[xP.1 hx]
  have h':Nat.blt p n=true:=hb
  rwa [wQ]at h'
theorem InsOk.lt{x:List AV}{o:List Obj1}{op:ByteArray}{dst k:Int}{n:Nat}(h:InsOk x o op dst k)(hb:∀a∈x,below n frzF a=true):∀y∈o,y.1<n:=by
 obtain⟨a,l4,l5,l6,l7,l8,g,r,oa,or_,rfl,hw,ha,hr,rfl⟩:=h
 intro y hy
 rcases zY.1 hy with hy|hy
 ·exact ha.lt (hb a (by simp[insC])) y hy
 ·exact hr.lt (hb r (by simp[insC])) y hy
theorem InsL.lt{H:List AO}{n:Nat}{A:AV}{L:List InsV}{o d:List Obj1}(S:InsL A (ilC L) o)(hL:ilOk L)(W:Own H (o++(ilO L++d)))(h:(H.take n).all (belowO n)=true)(hb:below n frzF A=true):∀x∈o++ilO L,x.1<n:=by
 rcases S with⟨rfl,h0,rfl⟩|⟨p,hne,rfl,rfl⟩
 ·have:L=[]:=by
   cases L with
   | nil=>rfl
   | cons a l=>simp[ilC]at h0
  subst this
  intro x hx;cases hx
 ·have hp:p<n:=by
   have h':Nat.blt p n=true:=hb
   rwa [wQ]at h'
  have hc:=belowC h hp (W.get (p,(ilC L).flatten,54) (by simp))
  intro x hx
  rcases zY.1 hx with hx|hx
  ·rw[xP.1 hx];exact hp
  ·obtain⟨o,ho,hxo⟩:=List.mem_flatten.1 hx
   obtain⟨e,he,rfl⟩:=zW.1 ho
   exact(hL e he).lt (fun a ha=>hc a (List.mem_flatten.2 ⟨e.x,zW.2 ⟨e,he,rfl⟩,ha⟩)) x hxo
theorem RowsE.lt{e:Nat}{t:TypeId}{n:Nat}{A:AV}{T:List (List AV)}{o:List Obj1}(S:RowsE e t A T o)(hb:below n frzF A=true):∀x∈o,x.1<n:=by
 rcases S with⟨rfl,h0,rfl⟩|⟨p,hne,rfl,rfl⟩
 ·intro x hx;cases hx
 ·intro x hx
  rw[xP.1 hx]
  have h':Nat.blt p n=true:=hb
  rwa [wQ]at h'
end
section
variable {call:CallF}{mt:MtF}{md:FuncId→Md}
theorem elems_ownI{H:List AO}{y:Nat}{l:List Int}(hy:H[y]?=some (.row (cellsI l) 3))(cap:Option Nat):Ai.elems H 1 (.own y 0 l.length 1 cap)=some (l.length,cellsI l):=by
 have hl:(cellsI l).length=l.length:=by simp[cellsI]
 simp only[Ai.elems,beq_self_eq_true,cond_true,rowAt_of hy,zD,zJ,zB,vB,hl]
 rw[yH (zT _),cond_true,←hl,xR]
theorem SlZ.pushO{A:AV}{l l2:List Int}{o d:List Obj1}{H:List AO}{y:Nat}{cap:Option Nat}(S:SlZ A l o)(W:Own H (o++d))(hy:(y,cellsI l2,3)∈d)(hne:l2≠[])(hb:l.length+l2.length≤100000) :
  ∃H',App (Ai.append H H.length 1 8 3 A (.own y 0 l2.length 1 cap)) H (.own H.length 0 (l++l2).length 1 none) H'∧Own H' ((H.length,cellsI (l++l2),3)::d):=by
 have hY:=elems_ownI (W.get (y,cellsI l2,3) (wL _ hy)) cap
 have h0:(l2.length==0)=false:=by
  cases l2 with
  | nil=>exact absurd rfl hne
  | cons a r=>rfl
 have h8:Nat.ble ((l.length+l2.length)*8) 140737488355328=true:=yH (by omega)
 rcases S with⟨rfl,rfl,rfl⟩|⟨p,hne,rfl,rfl⟩
 ·refine⟨H++[.row (cellsI l2) 3],.inr (.inl ⟨.row (cellsI l2) 3,?_,rfl⟩),by simpa using W.new (cellsI l2) 3⟩
  simp only[zA,zB]at h8
  unfold Ai.append
  rw[hY]
  simp only[zD,h0,cond_false,zA,beq_self_eq_true,uN,xD,xY,zQ,h8,cond_true,List.flatten_nil,yF,zB]
 ·have hp:H[p]?=some (.row (cellsI l) 3):=W.head
  refine⟨setL H p .dead++[.row (cellsI (l++l2)) 3],.inr (.inr ?_),?_⟩
  ·have hl:(cellsI l).length=l.length:=by simp[cellsI]
   unfold Ai.append
   rw[hY]
   simp only[zD,h0,cond_false,rowAt_of hp,beq_self_eq_true,h8,yH (show 0+l.length*1≤(cellsI l).length by omega),yX,cond_true,zJ,xW (show(cellsI l).length≤l.length*1 by omega)]
   simp[cellsI]
  ·have On:=(Own.kill W).new (cellsI (l++l2)) 3
   rw[setL_len]at On
   exact On
theorem SlZ.intC{A:AV}{l:List Int}{o:List Obj1}(S:SlZ A l o):IntC A o:=by
 rcases S with⟨rfl,rfl,rfl⟩|⟨p,hne,rfl,rfl⟩
 ·exact .inl ⟨rfl,rfl,rfl⟩
 ·exact .inr ⟨p,l,rfl,rfl⟩
abbrev dvC(k g:Int)(A:AV):List AV:=insC (bs [115,108,111,112,101]) 0 A k (litI .i64 0) (litB false) n0 n0 (litS (bs [])) g n0
theorem dvC_ok{k g:Int}{A:AV}{o:List Obj1}(h:IntC A o):InsOk (dvC k g A) o (bs [115,108,111,112,101]) 0 k :=
 ⟨_,_,_,_,_,_,_,_,o,[],rfl,rfl,h,.inl ⟨rfl,rfl,rfl⟩,by simp⟩
abbrev slY(s:SlopeV)(a b:Int):List AO:=[.row s.cs 92,.dead,.dead,.dead,.dead,.dead,.dead,.dead,.dead,.row (cellsI [a,b]) 3]
section
variable(p:Nat)(f:FlatV){O S:AV}(m:Int){ord slots:List Int}(hO:RowA O ord)(hS:RowA S slots)
include hO hS
theorem slope_loop(out:List AV)(d0:List Obj1)(hLt:∀H,Own H (mkO p f O S m out::d0)→Lent H p f O S m)(sl:List SlopeV)(hv:∀s∈sl,s.var<slots.length∧s.guard<slots.length)(hsl:sl.length≤1000)(k g:Int)(xr:Nat)(V1 V2 V3:AV):∀(j i:Nat)(H:List AO)(A:AV)(l:List Int)(oA:List Obj1),j+i=sl.length→l.length≤2*i→SlZ A l oA→Own H ((xr,dvC k g A,54)::(oA++(mkO p f O S m out::d0))) →
  ∃(H':List AO)(A':AV)(l':List Int)(oA':List Obj1),loopW (codeW cw (lookM mtl) mds c29l0) [0,4,11,12,13,25,26,27] [(0,.ptr p 0),(4,.ptr xr 0),(11,V1),(12,V2),(13,V3),(25,slopesA sl),(26,litI .i64 sl.length),(27,litI .i64 i)] H =
   some (.exit 2,[(0,.ptr p 0),(4,.ptr xr 0),(11,V1),(12,V2),(13,V3),(25,slopesA sl),(26,litI .i64 sl.length),(27,litI .i64 sl.length),(28,litB false)],H')∧SlZ A' l' oA'∧Own H' ((xr,dvC k g A',54)::(oA'++(mkO p f O S m out::d0)))
 | 0,i,H,A,l,oA,h,hl,SA,W=>by
  have hi:i=sl.length:=by omega
  subst hi
  refine⟨H,A,l,oA,loopW_out ?_ (by simp),SA,W⟩
  simp -implicitDefEqProofs only[c29l0,aW,↓aP,makes,reduceLT,reduceEqDiff,reduceAdd,zR]
 | j+1,i,H,A,l,oA,h,hl,SA,W=>by
  have hi:i<sl.length:=by omega
  have hg:sl[i]?=some sl[i]:=zE hi
  have hlt:(i:Int)<sl.length:=by omega
  have hvs:=hv _ (zV hi)
  generalize sl[i]=s at hg hvs
  have Lt:Lent H p f O S m:=hLt H (W.tail.sub (yE ..))
  have hc:∀id,callV cw mds 48 [.ptr p 0,rowC [s.guard,s.var] (some 2)] (H++[.row s.cs 92]) id=some (.val (.own id 0 [slotV slots s.guard,slotV slots s.var].length 1 none) (some (.row (cellsI [slotV slots s.guard,slotV slots s.var]) 3))):=fun id=>by
   rw[slots_call (Lt.ext _) hS (RowA.of [s.guard,s.var] (some 2)) (by simp) (fun y hy=>by
    simp only[zO,yG,or_false]at hy
    rcases hy with rfl|rfl
    ·exact hvs.2
    ·exact hvs.1) id]
   rfl
  generalize hga:slotV slots s.guard=a at hc
  generalize hva:slotV slots s.var=b at hc
  have W1:=Own.obs (slY s a b) W
  have W2:Own (H++slY s a b) (oA++((H.length+9,cellsI [a,b],3)::(xr,dvC k g A,54)::mkO p f O S m out::d0)):=by
   refine(W1.sub (d':=(H.length+9,cellsI [a,b],3)::(xr,dvC k g A,54)::(oA++(mkO p f O S m out::d0))) ?_).perm ?_
   ·simp[rowsOf]
   ·have e1:((H.length+9,cellsI [a,b],3)::(xr,dvC k g A,54)::(oA++(mkO p f O S m out::d0)))=[(H.length+9,cellsI [a,b],3),(xr,dvC k g A,54)]++(oA++(mkO p f O S m out::d0)):=rfl
    have e2:(oA++((H.length+9,cellsI [a,b],3)::(xr,dvC k g A,54)::mkO p f O S m out::d0))=oA++([(H.length+9,cellsI [a,b],3),(xr,dvC k g A,54)]++(mkO p f O S m out::d0)):=rfl
    rw[e1,e2]
    exact wN ..
  obtain⟨H4,ap,W3⟩:=SA.pushO W2 (y:=H.length+9) (l2:=[a,b]) (cap:=none) (by simp) (by simp) (by simp;omega)
  have hlen:(H++slY s a b).length=H.length+10:=by simp
  rw[hlen]at ap W3
  have SN:SlZ (.own (H.length+10) 0 (l++[a,b]).length 1 none) (l++[a,b]) [(H.length+10,cellsI (l++[a,b]),3)]:=.inr ⟨H.length+10,by simp,rfl,rfl⟩
  generalize hN:(AV.own (H.length+10) 0 (l++[a,b]).length 1 none)=N at ap SN
  have hNc:cellsOf N=[N]∧cellA N=true:=by rw[←hN];exact⟨rfl,rfl⟩
  have W4:Own H4 ((xr,dvC k g A,54)::([(H.length+10,cellsI (l++[a,b]),3)]++(mkO p f O S m out::d0))):=by
   refine(W3.sub (d':=(H.length+10,cellsI (l++[a,b]),3)::(xr,dvC k g A,54)::mkO p f O S m out::d0) ?_).perm (List.Perm.swap ..)
   exact List.Sublist.cons_cons _ (yU ..)
  have st:storeAt H4 1 (.ptr xr 2) N=some (setL H4 xr (.row (dvC k g N) 54)):=by
   rw[store_ptr W4.head (show 2<11 by omega) hNc.1 hNc.2];rfl
  obtain⟨H',A',l',oA',R,SA',W'⟩:=slope_loop out d0 hLt sl hv hsl k g xr V1 V2 V3 j (i+1) _ N _ _ (by omega) (by simp;omega) SN (W4.set (dvC k g N) 54)
  refine⟨H',A',l',oA',loopW_round ?_ R,SA',W'⟩
  have lq:=load_ipA (H:=H) (show s.cs.length=2 from rfl)
  have st0:storeAt (H++[.row [litI .i64 0,litI .i64 0] 92]) 2 (.ptr H.length 0) (.agg s.cs)=some (H++[.row s.cs 92]):=by
   have:=store_app H [.row [litI .i64 0,litI .i64 0] 92] 2 0 0 (.agg s.cs)
   rw[zK]at this
   rw[this,storeAt_agg (n:=2) (H:=[.row [litI .i64 0,litI .i64 0] 92]) (r:=0) (cs:=[litI .i64 0,litI .i64 0]) (xs:=s.cs) (t:=92) rfl rfl rfl rfl];rfl
  have lA:∀Y,Ai.load (H++Y) none (.ptr xr 2)=some A:=fun Y=>by
   have:=W.head
   rw[load_ptr (cs:=dvC k g A) (t:=54) (by rw[yC (zG.1 this).1];exact this)];rfl
  have g0:∀Z,Ai.load (H++(.row s.cs 92::Z)) none (.ptr H.length 0)=some (litI .i64 s.guard):=fun Z=>by rw[load_app0];rfl
  have g1:∀Z,Ai.load (H++(.row s.cs 92::Z)) none (.ptr H.length 1)=some (litI .i64 s.var):=fun Z=>by rw[load_app0];rfl
  simp only[zC,zA,zB]at hc ap
  simp -implicitDefEqProofs only[c29l0,aW,↓aP,makes,reduceLT,reduceEqDiff,reduceAdd,hlt,iadr_slopes,hg,lq,st0,zN,zC,zA,zU,xK,fadr_ptr,lA,g0,g1,core_bsl,bslV_2r,hc,show mds 48=Md.own from rfl,core_app,ap.tlS,st,wrap1 (show i<4611686018427387904 by omega)]
theorem deriv_loop(hn:∀x∈f.conts,x.guard<slots.length∧x.slopes.length≤1000∧∀s∈x.slopes,s.var<slots.length∧s.guard<(slots.length:Int))(hcl:f.conts.length≤1000)(d:List Obj1):∀(j i:Nat)(H:List AO)(out:List AV)(A:AV)(oS:List Obj1)(L:List InsV),j+i=f.conts.length→Own H (mkO p f O S m out::(oS++(ilO L++d)))→out[8]?=some A→(∀(i:Nat)(a:AV),out[i]?=some a→i≠8→FzD d a)→InsL A (ilC L) oS→ilOk L→L.length≤i →
  ∃(H':List AO)(A':AV)(oS':List Obj1)(L':List InsV),loopW (codeW cw (lookM mtl) mds c29l1) [0,11,12,13] [(0,.ptr p 0),(11,contsA f.conts),(12,litI .i64 f.conts.length),(13,litI .i64 i)] H =
   some (.exit 0,[(0,.ptr p 0),(11,contsA f.conts),(12,litI .i64 f.conts.length),(13,litI .i64 f.conts.length),(14,litB false)],H') ∧
   Own H' (mkO p f O S m (out.set 8 A')::(oS'++(ilO L'++d)))∧InsL A' (ilC L') oS'∧ilOk L' ∧
   L'.map (fun e=>(e.op,e.dst,e.k))=L.map (fun e=>(e.op,e.dst,e.k))++(List.range (f.conts.length-i)).map fun n=>(bs [115,108,111,112,101],0,((i+n:Nat):Int))
 | 0,i,H,out,A,oS,L,h,W,hA,hD,SA,hL,hb=>by
  have hi:i=f.conts.length:=by omega
  subst hi
  have hs:out.set 8 A=out:=by
   obtain⟨h1,h2⟩:=zG.1 hA
   rw[←h2,vF]
  refine⟨H,A,oS,L,loopW_out ?_ (by simp),by rw[hs];exact W,SA,hL,by simp⟩
  simp -implicitDefEqProofs only[c29l1,aW,↓aP,makes,reduceLT,reduceEqDiff,reduceAdd,zR]
 | j+1,i,H,out,A,oS,L,h,W,hA,hD,SA,hL,hb=>by
  have hi:i<f.conts.length:=by omega
  have hlt:(i:Int)<f.conts.length:=by omega
  have hg:f.conts[i]?=some f.conts[i]:=zE hi
  obtain⟨n1,n2,n3⟩:=hn _ (zV hi)
  generalize f.conts[i]=cv at hg n1 n2 n3
  have Lt:Lent H p f O S m:=lentAt hO hS W hA hD SA hL
  have hc:∀id,callV cw mds 49 [.ptr p 0,litI .i64 cv.guard] (H++[.row cv.cs 90]) id=some (.val (litI .i64 (slotV slots cv.guard)) none):=fun id=>slot_call (Lt.ext _) hS cv.guard n1 id
  generalize slotV slots cv.guard=g at hc
  have W1:Own (H++[.row cv.cs 90,.row (dvC i g n0) 54]) ((H.length+1,dvC i g n0,54)::([]++(mkO p f O S m out::(oS++(ilO L++d))))):=by
   refine(Own.obs [.row cv.cs 90,.row (dvC i g n0) 54] W).sub ?_
   simp[rowsOf]
  obtain⟨H5,A5,l5,oA5,R5,S5,W5⟩:=slope_loop p f m hO hS out (oS++(ilO L++d)) (fun H W=>lentAt hO hS W hA hD SA hL) cv.slopes n3 n2 i g (H.length+1) (contsA f.conts) (litI .i64 f.conts.length) (litI .i64 i) cv.slopes.length 0 _ n0 [] [] (by omega) (by simp) SlZ.nil W1
  rw[show((0:Nat):Int)=0 from rfl]at R5
  have hx:=dvC_ok (k:=i) (g:=g) S5.intC
  have W6:=Own.obs [.dead,.dead,.dead,.dead,.dead,.dead,.dead,.row (dvC i g A5) 54] W5
  have W7:Own (H5++[.dead,.dead,.dead,.dead,.dead,.dead,.dead,.row (dvC i g A5) 54]) (mkO p f O S m out::(oS++(ilO L++((H5.length+7,dvC i g A5,54)::(oA5++d))))):=by
   refine(W6.sub (d':=(H5.length+7,dvC i g A5,54)::(oA5++(mkO p f O S m out::(oS++(ilO L++d))))) ?_).perm ?_
   ·simp only[rowsOf,xC,yF]
    exact List.Sublist.cons_cons _ (yU ..)
   ·have e1:((H5.length+7,dvC i g A5,54)::(oA5++(mkO p f O S m out::(oS++(ilO L++d)))))=((H5.length+7,dvC i g A5,54)::oA5)++((mkO p f O S m out::(oS++ilO L))++d):=by simp
    have e2:(mkO p f O S m out::(oS++(ilO L++((H5.length+7,dvC i g A5,54)::(oA5++d)))))=(mkO p f O S m out::(oS++ilO L))++(((H5.length+7,dvC i g A5,54)::oA5)++d):=by simp
    rw[e1,e2]
    exact wN ..
  obtain⟨H8,H9,ap,st,W9,S9,K9⟩:=grow W7 hA SA hL (by omega) hx
  have hlen:(H5++[AO.dead,AO.dead,AO.dead,AO.dead,AO.dead,AO.dead,AO.dead,AO.row (dvC i g A5) 54]).length=H5.length+8:=by simp
  rw[hlen]at ap st W9 S9
  generalize hN:(AV.own (H5.length+8) 0 (L.length+1) 11 none)=N at ap st W9 S9
  have h8:8<out.length:=(zG.1 hA).1
  obtain⟨H',A',oS',L',R',W',S',K',q'⟩:=deriv_loop hn hcl d j (i+1) H9 (out.set 8 N) N _ _ (by omega) W9 (yK h8) (fun k a hk k8=>hD k a (by rwa [yT (fun e=>k8 e.symm)]at hk) k8) S9 K9 (by simp;omega)
  rw[wG]at W'
  refine⟨H',A',oS',L',loopW_round ?_ R',W',S',K',?_⟩
  ·have lm:=load_ipA (H:=H) (show cv.cs.length=9 from rfl)
   have nk:nilck (.ptr p 0)=some (.ptr p 0):=rfl
   have st0:∀z:List AV,z.length=9→storeAt (H++[.row z 90]) 9 (.ptr H.length 0) (.agg cv.cs)=some (H++[.row cv.cs 90]):=fun z hz=>by
    have:=store_app H [.row z 90] 9 0 0 (.agg cv.cs)
    rw[zK]at this
    rw[this,storeAt_agg (n:=9) (H:=[.row z 90]) (r:=0) (cs:=z) (xs:=cv.cs) (t:=90) rfl hz rfl rfl];rfl
   have sz:=st0 [litI .i64 0,litB false,.sl 0 [] (some 0),.sl 0 [] (some 0),litS (bs []),litI .i64 0,litI .i64 0,.sl 0 [] (some 0),.sl 0 [] (some 0)] rfl
   have st1:storeAt (H++[.row cv.cs 90,.row z11 54]) 11 (.ptr (H.length+1) 0) (.agg (dvC i g n0))=some (H++[.row cv.cs 90,.row (dvC i g n0) 54]):=by
    rw[store_app,storeAt_agg (n:=11) (H:=[.row cv.cs 90,.row z11 54]) (r:=1) (cs:=z11) (xs:=dvC i g n0) (t:=54) rfl rfl rfl rfl];rfl
   have g6:Ai.load (H++[.row cv.cs 90]) none (.ptr H.length 6)=some (litI .i64 cv.guard):=by rw[load_app0];rfl
   have g8:Ai.load (H++[.row cv.cs 90,.row (dvC i g n0) 54]) none (.ptr H.length 8)=some (slopesA cv.slopes):=by rw[load_app0];rfl
   have bu:buildV z11 [(0,1,litS (bs [115,108,111,112,101])),(3,1,litI .i64 i),(9,1,litI .i64 g)]=some (.val (.agg (dvC i g n0)) none):=rfl
   have m1:∀Y,Ai.load (H5++Y) none (.ptr p 19)=some A:=fun Y=>by
    have:=W5.get (mkO p f O S m out) (by simp)
    rw[load_ptr (cs:=mkC f O S m out) (t:=70) (by rw[yC (zG.1 this).1];exact this)]
    exact(mkC_at f O S m out 8).trans hA
   have m2:∀Y,Ai.load (H5++Y) (some 11) (.ptr (H.length+1) 0)=some (.agg (dvC i g A5)):=fun Y=>by
    have:=W5.head
    exact load_agg (cs:=dvC i g A5) (t:=54) (by rw[yC (zG.1 this).1];exact this) rfl
   have m1:=m1 []
   have m2:=m2 []
   rw[zZ]at m1 m2
   have fl:=fill_1 hx.len hx.cells
   have st':storeAt H8 1 (.ptr p 19) N=some H9:=st
   simp -implicitDefEqProofs only[c29l1,aW,↓aP,makes,reduceLT,reduceEqDiff,reduceAdd,hlt,iadr_conts,hg,lm,sz,zN,zC,zA,zU,xC,yF,xK,fadr_ptr,g6,hc,core_build,bu,st1,g8,lenV_slopes,R5,core_nilck,nk,m1,m2,core_bslT,fl,zD,core_app,ap.tlS,st',wrap1 (show i<4611686018427387904 by omega)]
  ·rw[q',show f.conts.length-i=(f.conts.length-(i+1))+1 by omega,vQ]
   simp only[vG,yJ,vE,yZ,zU,xC,yF,zK]
   congr 2
   refine wK fun n _=>?_
   simp only[Function.comp]
   rw[show i+1+n=i+(n+1) by omega]
end
theorem deriv_tells(p:Nat)(f:FlatV){O S:AV}(m:Int){ord slots:List Int}(hO:RowA O ord)(hS:RowA S slots)(F:FitsS f)(G:GoodF f)(hsl:slots.length=f.names.length)(d:List Obj1)(H:List AO)(out:List AV)(W:Own H (mkO p f O S m out::d))(hA:out[8]?=some n0)(hD:∀(i:Nat)(a:AV),out[i]?=some a→i≠8→FzD d a) :
  ∃(H':List AO)(A':AV)(oS':List Obj1)(L':List InsV),cw 29 [.ptr p 0] H=some (.ret (.tup []),H')∧Own H' (mkO p f O S m (out.set 8 A')::(oS'++(ilO L'++d)))∧InsL A' (ilC L') oS'∧ilOk L' ∧
   L'.map (fun e=>(e.op,e.dst,e.k))=(List.range f.conts.length).map fun n=>(bs [115,108,111,112,101],0,((n:Nat):Int)):=by
 have F3:=F.conts
 obtain⟨H',A',oS',L',R,W',S',K',q'⟩:=deriv_loop p f m hO hS (fun x hx=>by
  obtain⟨c1,c2,c3,c4⟩:=G.conts x hx
  have:=F.slopes x hx
  rw[hsl]
  exact⟨c2,by omega,fun s hs=>⟨(c4 s hs).1.2,(c4 s hs).2⟩⟩) (by omega) d f.conts.length 0 H out n0 [] [] (by omega) W hA hD InsL.nil (by intro y hy;cases hy) (by simp)
 rw[show((0:Nat):Int)=0 from rfl]at R
 refine⟨H',A',oS',L',cw_of fn29 (c:=c29) rfl rfl rfl rfl ?_,W',S',K',?_⟩
 ·have nk:nilck (.ptr p 0)=some (.ptr p 0):=rfl
  have l1:Ai.load H none (.ptr p 5)=some (contsA f.conts):=by rw[load_ptr W.head];rfl
  simp -implicitDefEqProofs only[c29,aW,↓aP,makes,reduceLT,reduceEqDiff,reduceAdd,core_nilck,nk,fadr_ptr,l1,lenV_conts,R]
  rfl
 ·rw[q']
  simp only[Nat.sub_zero,zB,vE,yF]
end
section
variable {call:CallF}{mt:MtF}{md:FuncId→Md}
theorem SlZ.appendR{A:AV}{l:List Int}{o d:List Obj1}{H:List AO}{Y:AV}{ys:List Int}(S:SlZ A l o)(O:Own H (o++d))(hY:RowA Y ys)(hb:l.length+ys.length≤1000000) :
  ∃A' o' H',App (Ai.append H H.length 1 8 3 A Y) H A' H'∧SlZ A' (l++ys) o'∧Own H' (o'++d):=by
 cases hys:ys with
 | nil =>
  subst hys
  refine⟨A,o,H,.inl ⟨?_,rfl⟩,by rw[zZ];exact S,O⟩
  unfold Ai.append
  rw[hY.elems]
  rcases S with⟨rfl,rfl,_⟩|⟨p,_,rfl,_⟩<;>rfl
 | cons y r =>
  have hn:(ys.length==0)=false:=by rw[hys];rfl
  have hne:ys≠[]:=by rw[hys];simp
  have h8:Nat.ble ((l.length+ys.length)*8) 140737488355328=true:=yH (by omega)
  rw[←hys]
  rcases S with⟨rfl,rfl,rfl⟩|⟨p,hz,rfl,rfl⟩
  ·refine⟨.own H.length 0 ys.length 1 none,[(H.length,cellsI ys,3)],H++[.row (cellsI ys) 3],.inr (.inl ⟨.row (cellsI ys) 3,?_,rfl⟩),.inr ⟨H.length,by simpa using hne,by simp,by simp⟩,O.new (cellsI ys) 3⟩
   unfold Ai.append
   rw[hY.elems]
   simp only[zD,hn,cond_false,zA,BEq.rfl,uN,xD,xY,zQ,zB,List.flatten_nil,yF]
   rw[zA,zB]at h8
   rw[h8];rfl
  ·have hp:H[p]?=some (.row (cellsI l) 3):=O.head
   refine⟨.own H.length 0 (l++ys).length 1 none,[(H.length,cellsI (l++ys),3)],setL H p .dead++[.row (cellsI (l++ys)) 3],.inr (.inr ?_),.inr ⟨H.length,by simp[hne],rfl,rfl⟩,?_⟩
   ·have h2:(cellsI l).take (l.length*1)=cellsI l:=xW (by simp[cellsI])
    have h3:Nat.ble (0+l.length*1) (cellsI l).length=true:=yH (by simp[cellsI])
    unfold Ai.append
    rw[hY.elems]
    simp only[zD,hn,cond_false,rowAt_of hp,BEq.rfl,h3,h8,yX,cond_true,zJ,h2]
    simp[cellsI]
   ·have On:=(Own.kill O).new (cellsI (l++ys)) 3
    rw[setL_len]at On
    exact On
theorem concat2_tells{X Y:AV}{a:Int}{ys:List Int}(hX:RowA X [a])(hY:RowA Y ys)(hl:ys.length≤1000)(c:Option Nat) :
  ∃A o H',cw 51 [.sl 1 [[X],[Y]] c] []=some (.ret A,H')∧SlZ A (a::ys) o∧Own H' o:=by
 have hc:Rows.cat [(X,[a]),(Y,ys)]=a::ys:=by simp[Rows.cat]
 have hok:Rows.ok [(X,[a]),(Y,ys)]:=by
  intro q hq
  simp only[zO,yG,or_false]at hq
  rcases hq with rfl|rfl
  ·exact hX
  ·exact hY
 have L0:=cat_loop0 (call:=cw) (mt:=lookM mtl) (md:=mds) [(X,[a]),(Y,ys)] c hok [] (by simp) 2 0 0 rfl (by rw[zJ,hc];simp;omega)
 rw[show((0:Nat):Int)=0 from rfl,zJ,zB,hc]at L0
 have g1:=fun id=>grow1_call (a::ys).length (by simp) (by simp;omega) [] id
 have ap1:Ai.append [AO.row (List.replicate (a::ys).length (litI .i64 0)) 3] 1 1 8 3 (.own 0 0 0 1 none) X=some (.wr (.own 1 0 1 1 none) [.dead,.row (cellsI [a]) 3]):=by
  unfold Ai.append
  rw[hX.elems]
  rfl
 have S1:SlZ (.own 1 0 1 1 none) [a] [(1,cellsI [a],3)]:=.inr ⟨1,by simp,rfl,rfl⟩
 have O1:Own [.dead,.row (cellsI [a]) 3] ([(1,cellsI [a],3)]++[]):=⟨by simp,fun x hx=>by
  simp only[zZ,zO,yG,or_false]at hx
  subst hx;rfl⟩
 obtain⟨A',o',H',ap2,S2,O2⟩:=S1.appendR O1 hY (by simp;omega)
 rw[zZ]at O2
 refine⟨A',o',H',cw_of fn51 (c:=c51) rfl rfl rfl rfl ?_,S2,O2⟩
 have R2:loopW (codeW cw (lookM mtl) mds c51l1) [6,25,26,27] [(6,A'),(25,catA [(X,[a]),(Y,ys)] c),(26,litI .i64 2),(27,litI .i64 2)] H'=some (EX.exit 2,[(6,A'),(25,catA [(X,[a]),(Y,ys)] c),(26,litI .i64 2),(27,litI .i64 2),(28,litB false)],H'):=by
  refine loopW_out ?_ (by simp)
  simp -implicitDefEqProofs only[c51l1,aW,↓aP,makes,reduceLT,reduceEqDiff,reduceAdd,zR]
 have R1:loopW (codeW cw (lookM mtl) mds c51l1) [6,25,26,27] [(6,.own 1 0 1 1 none),(25,catA [(X,[a]),(Y,ys)] c),(26,litI .i64 2),(27,litI .i64 1)] [.dead,.row (cellsI [a]) 3]=some (EX.exit 2,[(6,A'),(25,catA [(X,[a]),(Y,ys)] c),(26,litI .i64 2),(27,litI .i64 2),(28,litB false)],H'):=by
  refine loopW_round ?_ R2
  have i1:iadr 1 (catA [(X,[a]),(Y,ys)] c) (litI .i64 1)=some (.ip [Y]):=iadr_cat _ c 1
  have ap2':App (Ai.append [.dead,.row (cellsI [a]) 3] 2 1 8 3 (.own 1 0 1 1 none) Y) [.dead,.row (cellsI [a]) 3] A' H':=ap2
  simp -implicitDefEqProofs only[c51l1,aW,↓aP,makes,reduceLT,reduceEqDiff,reduceAdd,show((1:Int)<2)=True from by simp,i1,ap2'.opS,zC,zA,show IntKind.wrap .i64 (1+1)=2 from rfl]
 have R0:loopW (codeW cw (lookM mtl) mds c51l1) [6,25,26,27] [(6,.own 0 0 0 1 none),(25,catA [(X,[a]),(Y,ys)] c),(26,litI .i64 2),(27,litI .i64 0)] [AO.row (List.replicate (a::ys).length (litI .i64 0)) 3]=some (EX.exit 2,[(6,A'),(25,catA [(X,[a]),(Y,ys)] c),(26,litI .i64 2),(27,litI .i64 2),(28,litB false)],H'):=by
  refine loopW_round ?_ R1
  have i1:iadr 1 (catA [(X,[a]),(Y,ys)] c) (litI .i64 0)=some (.ip [X]):=iadr_cat _ c 0
  generalize hg:List.replicate (a::ys).length (litI .i64 0)=zs at ap1
  simp -implicitDefEqProofs only[c51l1,aW,↓aP,makes,reduceLT,reduceEqDiff,reduceAdd,show((0:Int)<2)=True from by simp,i1,ap1,zC,zA,show IntKind.wrap .i64 (0+1)=1 from rfl]
 have lv:lenV (.sl 1 [[X],[Y]] c)=some (litI .i64 2):=rfl
 have e0:(.sl 1 [[X],[Y]] c:AV)=catA [(X,[a]),(Y,ys)] c:=rfl
 rw[e0]at lv ⊢
 rw[show litI .i64 (([(X,[a]),(Y,ys)]:Rows).length:Int)=litI .i64 2 from rfl]at L0
 generalize catA [(X,[a]),(Y,ys)] c=Z at lv L0 R0
 generalize (a::ys).length=n at L0 g1 R0
 simp -implicitDefEqProofs only[c51,aW,↓aP,makes,reduceLT,reduceEqDiff,reduceAdd,lv,L0,g1,zA,R0]
 rfl
theorem frz_ints{H:List AO}{r:Nat}{l:List Int}(h:H[r]?=some (.row (cellsI l) 3))(k:Nat)(cap:Option Nat):∃ids,frz H (k+2) (.own r 0 l.length 1 cap)=some (rowC l cap,ids):=by
 have hl:(cellsI l).length=l.length:=by simp[cellsI]
 have hm:∀l:List Int,mapR (frz H (k+1)) 1 l.length (cellsI l)=some (l.map fun i=>[litI .i64 i],[]):=by
  intro l
  induction l with
  | nil=>rfl
  | cons x l ih =>
   have e:cellsI (x::l)=litI .i64 x::cellsI l:=rfl
   rw[e,zC,mapR]
   simp only[vS,List.take_zero,uZ,zJ,ih,zD]
   rfl
 refine⟨r::[],?_⟩
 rw[frz]
 simp only[h,yH (show 0+l.length*1≤(cellsI l).length by omega),cond_true,zJ,hm,zD]
 rfl
theorem concat2_call{H:List AO}{y r1 r2:Nat}{a:Int}{ys:List Int}{t:TypeId}(hy:H[y]?=some (.row [.own r1 0 1 1 none,.own r2 0 ys.length 1 none] t))(h1:H[r1]?=some (.row (cellsI [a]) 3))(h2:H[r2]?=some (.row (cellsI ys) 3))(hl:ys.length≤1000)(id:Nat) :
  callV cw mds 51 [.own y 0 2 1 (some 2)] H id=newS id (a::ys):=by
 obtain⟨i1,e1⟩:=frz_ints h1 13 none
 obtain⟨i2,e2⟩:=frz_ints h2 13 none
 obtain⟨A,o,H',h,S,O⟩:=concat2_tells (RowA.of [a] none) (RowA.of ys none) hl (some 2)
 have e1':frz H 15 (.own r1 0 1 1 none)=some (rowC [a] none,i1):=e1
 refine callV_newS (ys:=[.sl 1 [[rowC [a] none],[rowC ys none]] (some 2)]) (ids:=(y::((i1++[])++((i2++[])++[])))++[]) rfl ?_ h S O
 have hr:mapR (frz H 15) 1 2 [.own r1 0 1 1 none,.own r2 0 ys.length 1 none]=some ([[rowC [a] none],[rowC ys none]],(i1++[])++((i2++[])++[])):=by
  simp only[mapR,vS,List.take_zero,uZ,zJ,mapL,e1',e2,zD]
 have hz:frz H frzF (.own y 0 2 1 (some 2))=some (.sl 1 [[rowC [a] none],[rowC ys none]] (some 2),y::((i1++[])++((i2++[])++[]))):=by
  rw[show frzF=15+1 from rfl,frz]
  simp only[hy,zC,zA,show Nat.ble (0+2*1) (0+1+1)=true from rfl,cond_true,zJ,hr,zD]
 simp only[mapL,hz,zD]
theorem clo_tells(b x:Int)(hb:0≤b)(hb2:b≤100000)(hx:0≤x)(hx2:x≤100000):cw 50 [litI .i64 x,.ip [litI .i64 b]] []=some (.ret (litI .i64 (b+x)),[]):=by
 refine cw_of fn50 (c:=c50) rfl rfl rfl rfl ?_
 have hw:IntKind.wrap .i64 (b+x)=b+x:=by rw[Go.Ai.wrap_small]<;>omega
 simp -implicitDefEqProofs only[c50,aW,↓aP,makes,reduceLT,reduceEqDiff,reduceAdd,load_ip1,hw]
 rfl
theorem cloIp_call(b x:Int)(hb:0≤b)(hb2:b≤100000)(hx:0≤x)(hx2:x≤100000)(H:List AO)(id:Nat):callV cw mds 50 [litI .i64 x,.ip [litI .i64 b]] H id=some (.val (litI .i64 (b+x)) none) :=
 callV_flat (p:=([litI .i64 x,.ip [litI .i64 b]],[])) rfl (by rw[show frzF=15+1 from rfl,mapL_whole rfl]) (clo_tells b x hb hb2 hx hx2)
theorem frz_cell{H:List AO}{r:Nat}{b:Int}{t:TypeId}(h:H[r]?=some (.row [litI .i64 b] t))(k:Nat):frz H (k+2) (.ptr r 0)=some (.ip [litI .i64 b],[r]):=by
 rw[frz]
 simp only[h,zC,zA,show Nat.ble 0 (0+1)=true from rfl,cond_true,zJ]
 rfl
theorem clo_call{H:List AO}{r:Nat}{b x:Int}{t:TypeId}(h:H[r]?=some (.row [litI .i64 b] t))(hb:0≤b)(hb2:b≤100000)(hx:0≤x)(hx2:x≤100000)(id:Nat):callV cw mds 50 [litI .i64 x,.ptr r 0] H id=some (.val (litI .i64 (b+x)) none) :=
 callV_flat (p:=([litI .i64 x,.ip [litI .i64 b]],[]++([r]++[]))) rfl (by
  have:=frz_cell h 14
  simp only[mapL,show frzF=14+2 from rfl,this,zD]
  rfl) (clo_tells b x hb hb2 hx hx2)
theorem mapC_call{H:List AO}{r:Nat}{b:Int}{t:TypeId}(h:H[r]?=some (.row [litI .i64 b] t))(hb:0≤b)(hb2:b≤100000){Y:AV}{l:List Int}(hY:RowA Y l)(hl:l.length≤100000)(hx:∀x∈l,0≤x∧x≤100000)(id:Nat) :
  callV cw mds 52 [Y,.fn (.func 50) [] [.ptr r 0]] H id=newS id (l.map fun x=>b+x) :=
 map_call (fv':=.fn (.func 50) [] [.ip [litI .i64 b]]) (ids:=[]++([r]++[])) hY (by
  have:=frz_cell h 13
  rw[show frzF=15+1 from rfl,frz]
  simp only[mapL,zD,this]) (fun x hx2 H id=>cloIp_call b x hb hb2 (hx x hx2).1 (hx x hx2).2 H id) hl id
end
section
variable {call:CallF}{mt:MtF}{md:FuncId→Md}
def c30sw:C :=
 (.seq
     (.reg [⟨some 38,.fadr 0 (.s 10),none⟩,
      ⟨some 39,.load none (.s 38),none⟩]
      [0,1,5,7,8,10,11,23,24,25,39])
     (.block 2
      (.seq
       (.reg [⟨some 46,.bin .eql (.s 39) (.k (litS (bs [118,97,114]))),none⟩,
        ⟨some 45,.mv (.s 46),none⟩]
        [0,1,5,7,8,10,11,23,24,25,39,45])
       (.cond (.s 45)
        (.reg [⟨some 47,.mv (.s 0),none⟩,
         ⟨some 48,.fadr 1 (.s 10),none⟩,
         ⟨some 49,.load none (.s 48),none⟩,
         ⟨some 50,.call (.k (.fn (.func 48) [] [])) [.s 47,.s 49],none⟩,
         ⟨some 51,.fadr 2 (.s 11),none⟩,
         ⟨none,.store 1 (.s 51) (.s 50),none⟩]
         [0,1,5,7,8,11,23,24,25])
        (.seq
         (.reg [⟨some 53,.bin .eql (.s 39) (.k (litS (bs [99,111,110,116]))),none⟩,
          ⟨some 52,.mv (.s 53),none⟩]
          [0,1,5,7,8,10,11,23,24,25,39,52])
         (.cond (.s 52)
          (.reg [⟨some 54,.fadr 1 (.s 10),none⟩,
           ⟨some 55,.load none (.s 54),none⟩,
           ⟨some 56,.iadr 1 (.s 55) (.k (litI .i64 0)),none⟩,
           ⟨some 57,.load none (.s 56),none⟩,
           ⟨some 58,.fadr 3 (.s 11),none⟩,
           ⟨none,.store 1 (.s 58) (.s 57),none⟩]
           [0,1,5,7,8,11,23,24,25])
          (.seq
           (.reg [⟨some 60,.bin .eql (.s 39) (.k (litS (bs [115,101,108]))),none⟩,
            ⟨some 59,.mv (.s 60),none⟩]
            [0,1,5,7,8,10,11,23,24,25,39,59])
           (.cond (.s 59)
            (.draw [⟨some 61,.mv (.s 0),none⟩,
             ⟨some 62,.fadr 1 (.s 10),none⟩,
             ⟨some 63,.load none (.s 62),none⟩,
             ⟨some 64,.iadr 1 (.s 63) (.k (litI .i64 0)),none⟩,
             ⟨some 65,.load none (.s 64),none⟩,
             ⟨some 66,.bslice false 1 1 [litI .i64 0] [(0,.s 65)] 3,none⟩,
             ⟨some 67,.call (.k (.fn (.func 48) [] [])) [.s 61,.s 66],none⟩,
             ⟨some 68,.fadr 1 (.s 10),none⟩,
             ⟨some 69,.load none (.s 68),none⟩]
             [⟨some 70,.sli 1 (.s 69) (some (.k (litI .i64 1))) none none,none⟩,
             ⟨some 71,.mv (.s 8),none⟩,
             ⟨some 72,.call (.k (.fn (.func 52) [] [])) [.s 70,.s 71],none⟩,
             ⟨some 73,.bslice true 1 2 [.sl 0 [] (some 0)] [(0,.s 67),(1,.s 72)] 23,none⟩,
             ⟨some 74,.call (.k (.fn (.func 51) [] [])) [.s 73],none⟩,
             ⟨some 75,.fadr 2 (.s 11),none⟩,
             ⟨none,.store 1 (.s 75) (.s 74),none⟩] [0,1,5,7,8,11,23,24,25])
            (.seq
             (.reg [⟨some 77,.bin .eql (.s 39) (.k (litS (bs [42]))),none⟩,
              ⟨some 76,.mv (.s 77),none⟩]
              [0,1,5,7,8,10,11,23,24,25,76])
             (.cond (.s 76)
              (.draw [⟨some 78,.fadr 1 (.s 10),none⟩,
               ⟨some 79,.load none (.s 78),none⟩,
               ⟨some 80,.sli 1 (.s 79) none (some (.k (litI .i64 2))) none,none⟩,
               ⟨some 81,.mv (.s 8),none⟩,
               ⟨some 82,.call (.k (.fn (.func 52) [] [])) [.s 80,.s 81],none⟩,
               ⟨some 83,.fadr 1 (.s 10),none⟩,
               ⟨some 84,.load none (.s 83),none⟩,
               ⟨some 85,.iadr 1 (.s 84) (.k (litI .i64 2)),none⟩,
               ⟨some 86,.load none (.s 85),none⟩,
               ⟨some 87,.fadr 2 (.s 11),none⟩]
               [⟨none,.store 1 (.s 87) (.s 82),none⟩,
               ⟨some 88,.fadr 3 (.s 11),none⟩,
               ⟨none,.store 1 (.s 88) (.s 86),none⟩] [0,1,5,7,8,11,23,24,25]
               [⟨some 84,.load none (.s 83),none⟩,
               ⟨some 86,.load none (.s 85),none⟩])
              (.reg [⟨some 40,.fadr 1 (.s 10),none⟩,
               ⟨some 41,.load none (.s 40),none⟩,
               ⟨some 42,.mv (.s 8),none⟩,
               ⟨some 43,.call (.k (.fn (.func 52) [] [])) [.s 41,.s 42],none⟩,
               ⟨some 44,.fadr 2 (.s 11),none⟩,
               ⟨none,.store 1 (.s 44) (.s 43),none⟩]
               [0,1,5,7,8,11,23,24,25])))))))))))
theorem c30l0_eq:c30l0 =
 (.seq
  (.reg [⟨some 26,.bin .lss (.s 25) (.s 24),none⟩]
   [0,1,5,7,8,23,24,25,26])
  (.seq
   (.cond (.s 26)
    .skip
    (.exit 0))
   (.seq
    (.block 1
     (.seq
      (.reg [⟨some 27,.mv (.s 25),none⟩,
       ⟨some 28,.iadr 2 (.s 23) (.s 25),none⟩,
       ⟨some 29,.load (some 2) (.s 28),none⟩,
       ⟨some 10,.alloc [litS (bs []),.sl 0 [] (some 0)] 94,none⟩,
       ⟨some 9,.mv (.s 27),none⟩,
       ⟨none,.store 2 (.s 10) (.s 29),none⟩]
       [0,1,5,7,8,9,10,23,24,25])
      (.seq
       (.draw [⟨some 30,.fadr 0 (.s 10),none⟩,
        ⟨some 31,.load none (.s 30),none⟩,
        ⟨some 32,.bin .add (.k (litS (bs [108]))) (.s 31),none⟩,
        ⟨some 33,.mv (.s 8),none⟩,
        ⟨some 34,.mv (.s 9),none⟩,
        ⟨some 35,.call (.s 33) [.s 34],none⟩,
        ⟨some 36,.mv (.s 7),none⟩,
        ⟨some 37,.build [litS (bs []),litI .i64 0,.sl 0 [] (some 0),litI .i64 0,litI .i64 0,litB false,.sl 0 [] (some 0),.sl 0 [] (some 0),litS (bs []),litI .i64 0,.sl 0 [] (some 0)] [(0,1,.s 32),(1,1,.s 35),(9,1,.s 36)],none⟩,
        ⟨some 11,.alloc [litS (bs []),litI .i64 0,.sl 0 [] (some 0),litI .i64 0,litI .i64 0,litB false,.sl 0 [] (some 0),.sl 0 [] (some 0),litS (bs []),litI .i64 0,.sl 0 [] (some 0)] 54,none⟩]
        [⟨none,.store 11 (.s 11) (.s 37),none⟩] [0,1,5,7,8,10,11,23,24,25])
       (.seq
        c30sw
        (.draw [⟨some 89,.mv (.s 0),none⟩,
         ⟨some 90,.mv (.s 0),none⟩,
         ⟨some 91,.nilck (.s 90),none⟩,
         ⟨some 92,.fadr 11 (.s 91),none⟩,
         ⟨some 93,.fadr 9 (.s 92),none⟩,
         ⟨some 94,.load none (.s 93),none⟩,
         ⟨some 95,.load (some 11) (.s 11),none⟩,
         ⟨some 96,.bslice true 11 1 [litS (bs []),litI .i64 0,.sl 0 [] (some 0),litI .i64 0,litI .i64 0,litB false,.sl 0 [] (some 0),.sl 0 [] (some 0),litS (bs []),litI .i64 0,.sl 0 [] (some 0)] [(0,.s 95)] 54,none⟩]
         [⟨some 97,.app 11 168 54 (.s 94) (.s 96),none⟩,
         ⟨some 98,.nilck (.s 89),none⟩,
         ⟨some 99,.fadr 11 (.s 98),none⟩,
         ⟨some 100,.fadr 9 (.s 99),none⟩,
         ⟨none,.store 1 (.s 100) (.s 97),none⟩] [0,1,5,7,8,23,24,25])))))
    (.reg [⟨some 101,.bin .add (.s 25) (.k (litI .i64 1)),none⟩,
     ⟨some 25,.mv (.s 101),none⟩]
     [0,1,5,7,8,23,24,25])))):=rfl
abbrev lnC(op:ByteArray)(dst:Int)(A:AV)(k g:Int):List AV:=insC op dst A k (litI .i64 0) (litB false) n0 n0 (litS (bs [])) g n0
theorem lnC_ok{op:ByteArray}{dst k g:Int}{A:AV}{o:List Obj1}(h:IntC A o):InsOk (lnC op dst A k g) o op dst k :=
 ⟨_,_,_,_,_,_,_,_,o,[],rfl,rfl,h,.inl ⟨rfl,rfl,rfl⟩,by simp⟩
theorem list1(l:List Int)(h:((l.length:Int)==1)=true):∃x,l=[x]:=by
 have:l.length=1:=by have:=eq_of_beq h;omega
 match l,this with
 | [x],_=>exact⟨x,rfl⟩
theorem list2(l:List Int)(h:((l.length:Int)==2)=true):∃x y,l=[x,y]:=by
 have:l.length=2:=by have:=eq_of_beq h;omega
 match l,this with
 | [x,y],_=>exact⟨x,y,rfl⟩
theorem isS_size{s:ByteArray}{l:List Nat}(h:isS s l=true):s.size=(bs l).size:=by
 have:=congrArg List.length (eq_of_beq h)
 rw[wO,wO]at this
 exact this
inductive OpK(f:FlatV)(n i:Nat)(o:COpV):Prop
 | var (x:Int)(h:isS o.op [118,97,114]=true)(e:o.args=[x])(hx:0≤x∧x<(n:Int))
 | cnt (x:Int)(h0:isS o.op [118,97,114]=false)(h:isS o.op [99,111,110,116]=true)(e:o.args=[x])
 | sel (x y z:Int)(h0:isS o.op [118,97,114]=false)(h1:isS o.op [99,111,110,116]=false)(h:isS o.op [115,101,108]=true)(e:o.args=[x,y,z])(hx:0≤x∧x<(n:Int))(hy:0≤y∧y<(i:Int))(hz:0≤z∧z<(i:Int))
 | mul (x y z:Int)(h0:isS o.op [118,97,114]=false)(h1:isS o.op [99,111,110,116]=false)(h2:isS o.op [115,101,108]=false)(h:isS o.op [42]=true)(e:o.args=[x,y,z])(hx:0≤x∧x<(i:Int))(hy:0≤y∧y<(i:Int))
 | rst (h0:isS o.op [118,97,114]=false)(h1:isS o.op [99,111,110,116]=false)(h2:isS o.op [115,101,108]=false)(h3:isS o.op [42]=false)(hl:o.args.length≤2)(hx:∀x∈o.args,0≤x∧x<(i:Int))
theorem opK_of{f:FlatV}{n i:Nat}{o:COpV}(h:opOk f n i o=true):OpK f n i o∧o.op.size≤5:=by
 unfold opOk at h
 cases k0:isS o.op [118,97,114]with
 | true =>
  rw[k0,cond_true,zL]at h
  obtain⟨x,e⟩:=list1 _ h.1
  refine⟨.var x k0 e (within_iff.1 h.2 x (by rw[e];simp)),by rw[isS_size k0];decide⟩
 | false =>
 rw[k0,cond_false]at h
 cases k1:isS o.op [99,111,110,116]with
 | true =>
  rw[k1,cond_true,zL]at h
  obtain⟨x,e⟩:=list1 _ h.1
  exact⟨.cnt x k0 k1 e,by rw[isS_size k1];decide⟩
 | false =>
 rw[k1,cond_false]at h
 cases k2:isS o.op [110,101,103]with
 | true =>
  rw[k2,cond_true,zL]at h
  obtain⟨x,e⟩:=list1 _ h.1
  exact⟨.rst k0 k1 (isS_ne k2 rfl) (isS_ne k2 rfl) (by rw[e];simp) fun x hx=>within_iff.1 h.2 x hx,by rw[isS_size k2];decide⟩
 | false =>
 rw[k2,cond_false]at h
 cases k3:(isS o.op [43]||isS o.op [45]||isS o.op [47])with
 | true =>
  rw[k3,cond_true,zL]at h
  obtain⟨x,y,e⟩:=list2 _ h.1
  rw[vC,vC]at k3
  have hr:∀x∈o.args,0≤x∧x<(i:Int):=fun x hx=>within_iff.1 h.2 x hx
  rcases k3 with(k3|k3)|k3
  ·exact⟨.rst k0 k1 (isS_ne k3 rfl) (isS_ne k3 rfl) (by rw[e];simp) hr,by rw[isS_size k3];decide⟩
  ·exact⟨.rst k0 k1 (isS_ne k3 rfl) (isS_ne k3 rfl) (by rw[e];simp) hr,by rw[isS_size k3];decide⟩
  ·exact⟨.rst k0 k1 (isS_ne k3 rfl) (isS_ne k3 rfl) (by rw[e];simp) hr,by rw[isS_size k3];decide⟩
 | false =>
 rw[k3,cond_false]at h
 cases k4:isS o.op [42]with
 | true =>
  rw[k4,cond_true,zL,zL]at h
  obtain⟨x,y,z,e⟩:=list3 _ h.1.1
  have hr:=within_iff.1 h.1.2
  rw[e]at hr
  exact⟨.mul x y z k0 k1 (isS_ne k4 rfl) k4 e (hr x (by simp)) (hr y (by simp)),by rw[isS_size k4];decide⟩
 | false =>
 rw[k4,cond_false]at h
 cases k5:isS o.op [115,101,108]with
 | true =>
  rw[k5,cond_true,zL,zL]at h
  obtain⟨x,y,z,e⟩:=list3 _ h.1.1
  have hr1:=within_iff.1 h.1.2
  have hr2:=within_iff.1 h.2
  rw[e]at hr1 hr2
  exact⟨.sel x y z k0 k1 k5 e (hr1 x (by simp)) (hr2 y (by simp)) (hr2 z (by simp)),by rw[isS_size k5];decide⟩
 | false=>rw[k5,cond_false]at h;cases h
abbrev swF(p q b xr orr:Nat)(v1 v23 v24 v25:AV)(g:Int):Fr:=[(0,.ptr p 0),(1,v1),(5,.ptr q 0),(7,litI .i64 g),(8,.fn (.func 50) [] [.ptr b 0]),(10,.ptr orr 0),(11,.ptr xr 0),(23,v23),(24,v24),(25,v25)]
abbrev swG(p q b xr:Nat)(v1 v23 v24 v25:AV)(g:Int):Fr:=[(0,.ptr p 0),(1,v1),(5,.ptr q 0),(7,litI .i64 g),(8,.fn (.func 50) [] [.ptr b 0]),(11,.ptr xr 0),(23,v23),(24,v24),(25,v25)]
section
variable(p:Nat)(f:FlatV){O S:AV}(m:Int){ord slots:List Int}(hO:RowA O ord)(hS:RowA S slots)
include hO hS
theorem cross_sw(D:List Obj1)(hLt:∀H,Own H D→Lent H p f O S m)(b:Nat)(base:Int)(hb0:0≤base)(hb1:base≤10000)(hbD:(b,[litI .i64 base],3)∈D)(n i:Nat)(hn:n=slots.length)(hi:i≤1000)(o:COpV)(ho:OpK f n i o)(q xr orr:Nat)(v1 v23 v24 v25:AV)(g:Int)(op:ByteArray)(dst:Int)(H:List AO)(W:Own H ((xr,lnC op dst n0 0 g,54)::(orr,o.cs,94)::D)) :
  ∃(H':List AO)(A:AV)(k:Int)(oA:List Obj1),codeW cw (lookM mtl) mds c30sw (swF p q b xr orr v1 v23 v24 v25 g) H=some (.normal,swG p q b xr v1 v23 v24 v25 g,H')∧IntC A oA∧Own H' ((xr,lnC op dst A k g,54)::(oA++D)):=by
 have WD:Own H D:=W.tail.tail
 have Lt:Lent H p f O S m:=hLt H WD
 have f0:Ai.load H none (.ptr orr 0)=some (litS o.op):=by rw[load_ptr (W.get (orr,o.cs,94) (by simp))];rfl
 have f1:∀Y,Ai.load (H++Y) none (.ptr orr 1)=some (rowC o.args none):=fun Y=>by
  have:=W.get (orr,o.cs,94) (by simp)
  rw[load_ptr (cs:=o.cs) (t:=94) (by rw[yC (zG.1 this).1];exact this)];rfl
 have f1':=f1 []
 rw[zZ]at f1'
 have hbH:∀Y,(H++Y)[b]?=some (.row [litI .i64 base] 3):=fun Y=>by
  have:=W.get (b,[litI .i64 base],3) (by simp[hbD])
  rw[yC (zG.1 this).1];exact this
 have hbH':=hbH []
 rw[zZ]at hbH'
 have fin1:∀ {H':List AO}{A:AV}{oA:List Obj1},IntC A oA→Own H' ((xr,lnC op dst n0 0 g,54)::(oA++D))→storeAt H' 1 (.ptr xr 2) A=some (setL H' xr (.row (lnC op dst A 0 g) 54))∧Own (setL H' xr (.row (lnC op dst A 0 g) 54)) ((xr,lnC op dst A 0 g,54)::(oA++D)):=fun hA W'=>by
  refine⟨?_,W'.set _ 54⟩
  rw[store_ptr W'.head (show 2<11 by omega) hA.cell.1 hA.cell.2];rfl
 cases ho with
 | var x h e hx =>
  rw[e]at f1 f1'
  have hc:∀id,callV cw mds 48 [.ptr p 0,rowC [x] none] H id=some (.val (.own id 0 1 1 none) (some (.row (cellsI [slotV slots x]) 3))):=fun id=>by
   rw[slots_call Lt hS (RowA.of [x] none) (by simp) (fun y hy=>by rw[xP.1 hy,←hn];exact hx.2) id]
   rfl
  have W1:Own (H++[.row (cellsI [slotV slots x]) 3]) ((xr,lnC op dst n0 0 g,54)::([(H.length,cellsI [slotV slots x],3)]++D)):=by
   refine((W.new (cellsI [slotV slots x]) 3).sub (d':=(H.length,cellsI [slotV slots x],3)::(xr,lnC op dst n0 0 g,54)::D) ?_).perm (List.Perm.swap ..)
   exact List.Sublist.cons_cons _ (List.Sublist.cons_cons _ (yU ..))
  have hI:IntC (.own H.length 0 1 1 none) [(H.length,cellsI [slotV slots x],3)]:=.inr ⟨H.length,[slotV slots x],rfl,rfl⟩
  obtain⟨st,W2⟩:=fin1 hI W1
  refine⟨_,_,0,_,?_,hI,W2⟩
  simp -implicitDefEqProofs only[c30sw,aW,↓aP,makes,reduceLT,reduceEqDiff,reduceAdd,fadr_ptr,f0,bin_isS,h,f1',hc,show mds 48=Md.own from rfl,st]
 | cnt x h0 h e =>
  rw[e]at f1 f1'
  have ia:iadr 1 (rowC [x] none) (litI .i64 0)=some (.ip [litI .i64 x]):=rfl
  have st:storeAt H 1 (.ptr xr 3) (litI .i64 x)=some (setL H xr (.row (lnC op dst n0 x g) 54)):=by
   rw[store_ptr W.head (show 3<11 by omega) rfl rfl];rfl
  refine⟨setL H xr (.row (lnC op dst n0 x g) 54),n0,x,[],?_,.inl ⟨rfl,rfl,rfl⟩,((W.set (lnC op dst n0 x g) 54).sub (List.Sublist.cons_cons _ (yU ..)))⟩
  simp -implicitDefEqProofs only[c30sw,aW,↓aP,makes,reduceLT,reduceEqDiff,reduceAdd,fadr_ptr,f0,bin_isS,h0,h,f1',ia,load_ip1,st]
 | sel x y z h0 h1 h e hx hy hz =>
  rw[e]at f1 f1'
  have hc:∀id,callV cw mds 48 [.ptr p 0,rowC [x] (some 1)] H id=some (.val (.own id 0 1 1 none) (some (.row (cellsI [slotV slots x]) 3))):=fun id=>by
   rw[slots_call Lt hS (RowA.of [x] (some 1)) (by simp) (fun y hy=>by rw[xP.1 hy,←hn];exact hx.2) id]
   rfl
  generalize slotV slots x=s at hc
  have ia:iadr 1 (rowC [x,y,z] none) (litI .i64 0)=some (.ip [litI .i64 x]):=rfl
  have hm:∀id,callV cw mds 52 [rowC [y,z] none,.fn (.func 50) [] [.ptr b 0]] (H++[.dead,.dead,.dead,.dead,.dead,.dead,.row (cellsI [s]) 3,.dead,.dead]) id=some (.val (.own id 0 [base+y,base+z].length 1 none) (some (.row (cellsI [base+y,base+z]) 3))):=fun id=>by
   rw[mapC_call (hbH _) hb0 (by omega) (RowA.of [y,z] none) (by simp) (fun x hx=>by
    simp only[zO,yG,or_false]at hx
    rcases hx with rfl|rfl<;>omega) id]
   rfl
  have fl:fill (reps 2 [.sl 0 [] (some 0)]) [(0*1,1,.own (H.length+6) 0 1 1 none),(1*1,1,.own (H.length+9) 0 [base+y,base+z].length 1 none)]=some [.own (H.length+6) 0 1 1 none,.own (H.length+9) 0 [base+y,base+z].length 1 none]:=rfl
  have gY:∀j x,([.dead,.dead,.dead,.dead,.dead,.dead,.row (cellsI [s]) 3,.dead,.dead,.row (cellsI [base+y,base+z]) 3,.row [.own (H.length+6) 0 1 1 none,.own (H.length+9) 0 [base+y,base+z].length 1 none] 23]:List AO)[j]?=some x→(H++[.dead,.dead,.dead,.dead,.dead,.dead,.row (cellsI [s]) 3,.dead,.dead,.row (cellsI [base+y,base+z]) 3,.row [.own (H.length+6) 0 1 1 none,.own (H.length+9) 0 [base+y,base+z].length 1 none] 23])[H.length+j]?=some x:=fun j x hx=>by
   rw[wJ (by omega),Nat.add_sub_cancel_left];exact hx
  have hcc:∀id,callV cw mds 51 [.own (H.length+10) 0 2 1 (some 2)] (H++[.dead,.dead,.dead,.dead,.dead,.dead,.row (cellsI [s]) 3,.dead,.dead,.row (cellsI [base+y,base+z]) 3,.row [.own (H.length+6) 0 1 1 none,.own (H.length+9) 0 [base+y,base+z].length 1 none] 23]) id=some (.val (.own id 0 [s,base+y,base+z].length 1 none) (some (.row (cellsI [s,base+y,base+z]) 3))):=fun id=>by
   rw[concat2_call (gY 10 _ rfl) (gY 6 _ rfl) (gY 9 _ rfl) (by simp) id];rfl
  have W1:=Own.obs [.dead,.dead,.dead,.dead,.dead,.dead,.row (cellsI [s]) 3,.dead,.dead,.row (cellsI [base+y,base+z]) 3,.row [.own (H.length+6) 0 1 1 none,.own (H.length+9) 0 [base+y,base+z].length 1 none] 23,.row (cellsI [s,base+y,base+z]) 3] W
  have hI:IntC (.own (H.length+11) 0 [s,base+y,base+z].length 1 none) [(H.length+11,cellsI [s,base+y,base+z],3)]:=.inr ⟨H.length+11,[s,base+y,base+z],rfl,rfl⟩
  have W2:Own (H++[.dead,.dead,.dead,.dead,.dead,.dead,.row (cellsI [s]) 3,.dead,.dead,.row (cellsI [base+y,base+z]) 3,.row [.own (H.length+6) 0 1 1 none,.own (H.length+9) 0 [base+y,base+z].length 1 none] 23,.row (cellsI [s,base+y,base+z]) 3]) ((xr,lnC op dst n0 0 g,54)::([(H.length+11,cellsI [s,base+y,base+z],3)]++D)):=by
   refine(W1.sub (d':=(H.length+11,cellsI [s,base+y,base+z],3)::(xr,lnC op dst n0 0 g,54)::D) ?_).perm (List.Perm.swap ..)
   simp only[rowsOf,xC,yF]
   refine List.Sublist.cons _ (List.Sublist.cons _ (List.Sublist.cons _ (List.Sublist.cons_cons _ (List.Sublist.cons_cons _ (yU ..)))))
  obtain⟨st,W3⟩:=fin1 hI W2
  refine⟨_,_,0,_,?_,hI,W3⟩
  simp only[zC,zA,zB,reduceAdd]at hm fl hcc st
  simp -implicitDefEqProofs only[c30sw,aW,↓aP,makes,reduceLT,reduceEqDiff,reduceAdd,fadr_ptr,f0,bin_isS,h0,h1,h,f1,f1',ia,load_ip1,zN,zC,zA,zU,xC,yF,xK,core_bsl,bslV_1r,hc,show mds 48=Md.own from rfl,sli_1d,hm,core_bslT,fl,zD,hcc,st]
 | mul x y z h0 h1 h2 h e hx hy =>
  rw[e]at f1 f1'
  have hm:∀id,callV cw mds 52 [rowC [x,y] none,.fn (.func 50) [] [.ptr b 0]] H id=some (.val (.own id 0 [base+x,base+y].length 1 none) (some (.row (cellsI [base+x,base+y]) 3))):=fun id=>by
   rw[mapC_call hbH' hb0 (by omega) (RowA.of [x,y] none) (by simp) (fun x hx=>by
    simp only[zO,yG,or_false]at hx
    rcases hx with rfl|rfl<;>omega) id]
   rfl
  have ia:iadr 1 (rowC [x,y,z] none) (litI .i64 2)=some (.ip [litI .i64 z]):=rfl
  have W1:=Own.obs [.dead,.dead,.dead,.dead,.row (cellsI [base+x,base+y]) 3,.dead,.dead,.dead,.dead,.dead] W
  have hI:IntC (.own (H.length+4) 0 [base+x,base+y].length 1 none) [(H.length+4,cellsI [base+x,base+y],3)]:=.inr ⟨H.length+4,[base+x,base+y],rfl,rfl⟩
  have W2:Own (H++[.dead,.dead,.dead,.dead,.row (cellsI [base+x,base+y]) 3,.dead,.dead,.dead,.dead,.dead]) ((xr,lnC op dst n0 0 g,54)::([(H.length+4,cellsI [base+x,base+y],3)]++((orr,o.cs,94)::D))):=by
   refine W1.perm ?_
   simp only[rowsOf,xC,yF]
   exact List.Perm.swap ..
  have st:storeAt (H++[.dead,.dead,.dead,.dead,.row (cellsI [base+x,base+y]) 3,.dead,.dead,.dead,.dead,.dead]) 1 (.ptr xr 2) (.own (H.length+4) 0 [base+x,base+y].length 1 none)=some (setL (H++[.dead,.dead,.dead,.dead,.row (cellsI [base+x,base+y]) 3,.dead,.dead,.dead,.dead,.dead]) xr (.row (lnC op dst (.own (H.length+4) 0 [base+x,base+y].length 1 none) 0 g) 54)):=by
   rw[store_ptr W2.head (show 2<11 by omega) rfl rfl];rfl
  have W3:=W2.set (lnC op dst (.own (H.length+4) 0 [base+x,base+y].length 1 none) 0 g) 54
  generalize hH3:setL (H++[.dead,.dead,.dead,.dead,.row (cellsI [base+x,base+y]) 3,.dead,.dead,.dead,.dead,.dead]) xr (.row (lnC op dst (.own (H.length+4) 0 [base+x,base+y].length 1 none) 0 g) 54)=H3 at st W3
  have r1:Ai.load H3 none (.ptr orr 1)=some (rowC [x,y,z] none):=by
   rw[load_ptr (W3.get (orr,o.cs,94) (by simp)),←e];rfl
  have st2:storeAt H3 1 (.ptr xr 3) (litI .i64 z)=some (setL H3 xr (.row (lnC op dst (.own (H.length+4) 0 [base+x,base+y].length 1 none) z g) 54)):=by
   rw[store_ptr W3.head (show 3<11 by omega) rfl rfl];rfl
  have W4:=W3.set (lnC op dst (.own (H.length+4) 0 [base+x,base+y].length 1 none) z g) 54
  generalize hH4:setL H3 xr (.row (lnC op dst (.own (H.length+4) 0 [base+x,base+y].length 1 none) z g) 54)=H4 at st2 W4
  have r2:Ai.load H4 none (.ptr orr 1)=some (rowC [x,y,z] none):=by
   rw[load_ptr (W4.get (orr,o.cs,94) (by simp)),←e];rfl
  refine⟨H4,_,z,_,?_,hI,W4.sub (List.Sublist.cons_cons _ (List.Sublist.cons_cons _ (yU ..)))⟩
  simp only[zC,zA,zB]at hm st
  simp -implicitDefEqProofs only[c30sw,aW,↓aP,makes,reduceLT,reduceEqDiff,reduceAdd,fadr_ptr,f0,bin_isS,h0,h1,h2,h,f1,f1',sli_2,ia,load_ip1,zN,zC,zA,zU,xC,yF,xK,show mds 52=Md.own from rfl,hm,st,r1,st2,r2]
 | rst h0 h1 h2 h3 hl hx =>
  have hm:=fun id=>mapC_call hbH' hb0 (by omega) (RowA.of o.args none) (by omega) (fun x h=>by have:=hx x h;omega) id
  generalize o.args.map (fun x=>base+x)=l at hm
  have ap:=newS_app H H.length l
  rw[←hm]at ap
  obtain⟨oA,hI,eo⟩:=newA_int H.length l
  have W1:Own (if l=[]then H else H++[.row (cellsI l) 3]) ((xr,lnC op dst n0 0 g,54)::(oA++D)):=by
   have Ws:Own H ((xr,lnC op dst n0 0 g,54)::D):=W.sub (List.Sublist.cons_cons _ (yU ..))
   by_cases hl0:l=[]
   ·rw[if_pos hl0,eo,if_pos hl0];exact Ws
   ·rw[if_neg hl0,eo,if_neg hl0];exact(Ws.new (cellsI l) 3).perm (List.Perm.swap ..)
  obtain⟨st,W2⟩:=fin1 hI W1
  refine⟨_,_,0,_,?_,hI,W2⟩
  simp -implicitDefEqProofs only[c30sw,aW,↓aP,makes,reduceLT,reduceEqDiff,reduceAdd,fadr_ptr,f0,bin_isS,h0,h1,h2,h3,f1',ap.opS,st]
end
end
section
variable {call:CallF}{mt:MtF}{md:FuncId→Md}
def lnsF(base:Int):Nat→List COpV→List (ByteArray×Int)
 | _,[]=>[]
 | i,o::r=>(bs [108]++o.op,base+i)::lnsF base (i+1) r
theorem lnsF_len(base:Int):∀(i:Nat)(l:List COpV),(lnsF base i l).length=l.length
 | _,[]=>rfl
 | i,o::r=>by rw[lnsF,zC,lnsF_len base (i+1) r,zC]
theorem bs_cat{s:ByteArray}(h:s.size≤5):bin .add (litS (bs [108])) (litS s)=some (litS (bs [108]++s)):=by
 show binS .add (bs [108]) s=_
 unfold binS
 have h1:(bs [108]).size=1:=rfl
 have h2:IntKind.i64.max=9223372036854775807:=rfl
 simp only[h1,h2]
 rw[decide_eq_false (by omega)]
 rfl
theorem build_ln(op:ByteArray)(dst g:Int):buildV z11 [(0,1,litS op),(1,1,litI .i64 dst),(9,1,litI .i64 g)]=some (.val (.agg (lnC op dst n0 0 g)) none):=rfl
theorem opsF_drop{f:FlatV}{n i:Nat}{o:COpV}{l:List COpV}(h:opsF f n i (o::l)=true):opOk f n i o=true∧opsF f n (i+1) l=true:=by
 rw[opsF,zL]at h;exact h
theorem grow1{H:List AO}{p:Nat}{f:FlatV}{O S:AV}{m:Int}{out:List AV}{oS d:List Obj1}{A:AV}{L:List InsV}{idx:Nat}{x:List AV}{op:ByteArray}{dst k:Int}(W:Own H (mkO p f O S m out::(oS++(ilO L++d))))(hA:out[idx]?=some A)(SA:InsL A (ilC L) oS)(hL:ilOk L)(hb:L.length≤100000)(hx:InsOk x [] op dst k) :
  ∃H' H'',App (Ai.append H H.length 11 168 54 A (.sl 11 [x] (some 1))) H (.own H.length 0 (L.length+1) 11 none) H'∧storeAt H' 1 (.ptr p (11+idx)) (.own H.length 0 (L.length+1) 11 none)=some H'' ∧
   Own H'' (mkO p f O S m (out.set idx (.own H.length 0 (L.length+1) 11 none))::([(H.length,(ilC (L++[InsV.mk x [] op dst k])).flatten,54)]++(ilO (L++[InsV.mk x [] op dst k])++d))) ∧
   InsL (.own H.length 0 (L.length+1) 11 none) (ilC (L++[InsV.mk x [] op dst k])) [(H.length,(ilC (L++[InsV.mk x [] op dst k])).flatten,54)]∧ilOk (L++[InsV.mk x [] op dst k]):=by
 have W2:Own H (oS++(mkO p f O S m out::(ilO L++d))):=W.perm vL.symm
 have hl:(ilC L).length=L.length:=by rw[ilC,yV]
 have SE:RowsE 11 54 A (ilC L) oS:=SA
 obtain⟨H',ap,W3⟩:=SE.push (b:=168) (x:=x) W2 (ilC_len hL) (by omega)
 rw[←ilC_add L (InsV.mk x [] op dst k)]at ap W3
 have hl2:(ilC (L++[InsV.mk x [] op dst k])).length=L.length+1:=by rw[ilC_add,zN,hl];rfl
 rw[hl2]at ap
 have W4:Own H' (mkO p f O S m out::([(H.length,(ilC (L++[InsV.mk x [] op dst k])).flatten,54)]++(ilO (L++[InsV.mk x [] op dst k])++d))):=by
  refine W3.perm ?_
  rw[ilO_add,zZ]
  exact List.Perm.swap ..
 have st:storeAt H' 1 (.ptr p (11+idx)) (.own H.length 0 (L.length+1) 11 none)=some (setL H' p (.row (mkC f O S m (out.set idx (.own H.length 0 (L.length+1) 11 none))) 70)):=by
  rw[store_ptr W4.head (by rw[mkC_len];have:=(zG.1 hA).1;omega) rfl rfl,←mkC_set]
 refine⟨H',_,ap,st,W4.set _ 70,.inr ⟨H.length,?_,by rw[hl2],rfl⟩,hL.add hx⟩
 rw[ilC_add];simp
section
variable(p:Nat)(f:FlatV){O S:AV}(m:Int){ord slots:List Int}(hO:RowA O ord)(hS:RowA S slots)
include hO hS
theorem cross_loop(b:Nat)(base:Int)(hb0:0≤base)(hb1:base≤10000)(d:List Obj1)(hbD:(b,[litI .i64 base],3)∈d)(n:Nat)(hn:n=slots.length)(ops:List COpV)(hol:ops.length≤100)(q:Nat)(v1:AV)(g:Int):∀(j i:Nat)(H:List AO)(out:List AV)(A:AV)(oS:List Obj1)(L:List InsV),j+i=ops.length→opsF f n i (ops.drop i)=true→Own H (mkO p f O S m out::(oS++(ilO L++d)))→out[9]?=some A→(∀(i:Nat)(a:AV),out[i]?=some a→i≠9→FzD d a)→InsL A (ilC L) oS→ilOk L→L.length≤10000+i →
  ∃(H':List AO)(A':AV)(oS':List Obj1)(L':List InsV),loopW (codeW cw (lookM mtl) mds c30l0) [0,1,5,7,8,23,24,25] [(0,.ptr p 0),(1,v1),(5,.ptr q 0),(7,litI .i64 g),(8,.fn (.func 50) [] [.ptr b 0]),(23,copsA ops),(24,litI .i64 ops.length),(25,litI .i64 i)] H =
   some (.exit 0,[(0,.ptr p 0),(1,v1),(5,.ptr q 0),(7,litI .i64 g),(8,.fn (.func 50) [] [.ptr b 0]),(23,copsA ops),(24,litI .i64 ops.length),(25,litI .i64 ops.length),(26,litB false)],H') ∧
   Own H' (mkO p f O S m (out.set 9 A')::(oS'++(ilO L'++d)))∧InsL A' (ilC L') oS'∧ilOk L' ∧
   L'.map (fun e=>(e.op,e.dst))=L.map (fun e=>(e.op,e.dst))++lnsF base i (ops.drop i)
 | 0,i,H,out,A,oS,L,h,hF,W,hA,hD,SA,hL,hb=>by
  have hi:i=ops.length:=by omega
  subst hi
  have hs:out.set 9 A=out:=by
   obtain⟨h1,h2⟩:=zG.1 hA
   rw[←h2,vF]
  refine⟨H,A,oS,L,loopW_out ?_ (by simp),by rw[hs];exact W,SA,hL,by rw[yB,lnsF,zZ]⟩
  rw[c30l0_eq]
  simp -implicitDefEqProofs only[aW,↓aP,makes,reduceLT,reduceEqDiff,reduceAdd,zR]
 | j+1,i,H,out,A,oS,L,h,hF,W,hA,hD,SA,hL,hb=>by
  have hi:i<ops.length:=by omega
  have hlt:(i:Int)<ops.length:=by omega
  have hg:ops[i]?=some ops[i]:=zE hi
  rw[zS hi]at hF ⊢
  rw[lnsF]
  generalize ops[i]=o at hg hF
  obtain⟨hF1,hF2⟩:=opsF_drop hF
  obtain⟨hK,hsz⟩:=opK_of hF1
  have hbH:H[b]?=some (.row [litI .i64 base] 3):=W.get (b,[litI .i64 base],3) (by simp[hbD])
  have hcl:∀Y id,callV cw mds 50 [litI .i64 i,.ptr b 0] (H++Y) id=some (.val (litI .i64 (base+i)) none):=fun Y id=>clo_call (t:=3) (by rw[yC (zG.1 hbH).1];exact hbH) hb0 (by omega) (by omega) (by omega) id
  have hcat:=bs_cat hsz
  generalize hop:bs [108]++o.op=op at hcat
  generalize hdst:base+(i:Int)=dst at hcl
  have W1:Own (H++[.row o.cs 94,.dead,.dead,.dead,.dead,.dead,.dead,.dead,.dead,.row (lnC op dst n0 0 g) 54]) ((H.length+9,lnC op dst n0 0 g,54)::(H.length,o.cs,94)::(mkO p f O S m out::(oS++(ilO L++d)))):=by
   refine(Own.obs [.row o.cs 94,.dead,.dead,.dead,.dead,.dead,.dead,.dead,.dead,.row (lnC op dst n0 0 g) 54] W).perm ?_
   simp only[rowsOf,xC,yF]
   exact List.Perm.swap ..
  obtain⟨H5,A5,k5,oA5,R5,I5,W5⟩:=cross_sw p f m hO hS (mkO p f O S m out::(oS++(ilO L++d))) (fun H W=>lentAt hO hS W hA hD SA hL) b base hb0 hb1 (by simp[hbD]) n i hn (by omega) o hK q (H.length+9) H.length v1 (copsA ops) (litI .i64 ops.length) (litI .i64 i) g op dst _ W1
  have hx:=lnC_ok (op:=op) (dst:=dst) (k:=k5) (g:=g) I5
  have W6:=Own.obs [.dead,.dead,.dead,.dead,.dead,.dead,.dead,.row (lnC op dst A5 k5 g) 54] W5
  have W7:Own (H5++[.dead,.dead,.dead,.dead,.dead,.dead,.dead,.row (lnC op dst A5 k5 g) 54]) (mkO p f O S m out::(oS++(ilO L++((H5.length+7,lnC op dst A5 k5 g,54)::(oA5++d))))):=by
   refine(W6.sub (d':=(H5.length+7,lnC op dst A5 k5 g,54)::(oA5++(mkO p f O S m out::(oS++(ilO L++d))))) ?_).perm ?_
   ·simp only[rowsOf,xC,yF]
    exact List.Sublist.cons_cons _ (yU ..)
   ·have e1:((H5.length+7,lnC op dst A5 k5 g,54)::(oA5++(mkO p f O S m out::(oS++(ilO L++d)))))=((H5.length+7,lnC op dst A5 k5 g,54)::oA5)++((mkO p f O S m out::(oS++ilO L))++d):=by simp
    have e2:(mkO p f O S m out::(oS++(ilO L++((H5.length+7,lnC op dst A5 k5 g,54)::(oA5++d)))))=(mkO p f O S m out::(oS++ilO L))++(((H5.length+7,lnC op dst A5 k5 g,54)::oA5)++d):=by simp
    rw[e1,e2]
    exact wN ..
  obtain⟨H8,H9,ap,st,W9,S9,K9⟩:=grow W7 hA SA hL (by omega) hx
  have hlen:(H5++[AO.dead,AO.dead,AO.dead,AO.dead,AO.dead,AO.dead,AO.dead,AO.row (lnC op dst A5 k5 g) 54]).length=H5.length+8:=by simp
  rw[hlen]at ap st W9 S9
  generalize hN:(AV.own (H5.length+8) 0 (L.length+1) 11 none)=N at ap st W9 S9
  have h9:9<out.length:=(zG.1 hA).1
  obtain⟨H',A',oS',L',R',W',S',K',q'⟩:=cross_loop b base hb0 hb1 d hbD n hn ops hol q v1 g j (i+1) H9 (out.set 9 N) N _ _ (by omega) hF2 W9 (yK h9) (fun k a hk k9=>hD k a (by rwa [yT (fun e=>k9 e.symm)]at hk) k9) S9 K9 (by simp;omega)
  rw[wG]at W'
  refine⟨H',A',oS',L',loopW_round ?_ R',W',S',K',by rw[q'];simp⟩
  have lq:=load_ipA (H:=H) (show o.cs.length=2 from rfl)
  have nk:nilck (.ptr p 0)=some (.ptr p 0):=rfl
  have st0:storeAt (H++[.row [litS (bs []),.sl 0 [] (some 0)] 94]) 2 (.ptr H.length 0) (.agg o.cs)=some (H++[.row o.cs 94]):=by
   have:=store_app H [.row [litS (bs []),.sl 0 [] (some 0)] 94] 2 0 0 (.agg o.cs)
   rw[zK]at this
   rw[this,storeAt_agg (n:=2) (H:=[.row [litS (bs []),.sl 0 [] (some 0)] 94]) (r:=0) (cs:=[litS (bs []),.sl 0 [] (some 0)]) (xs:=o.cs) (t:=94) rfl rfl rfl rfl];rfl
  have g0:∀Z,Ai.load (H++(.row o.cs 94::Z)) none (.ptr H.length 0)=some (litS o.op):=fun Z=>by rw[load_app0];rfl
  have bu:=build_ln op dst g
  have st1:storeAt (H++[.row o.cs 94,.dead,.dead,.dead,.dead,.dead,.dead,.dead,.dead,.row z11 54]) 11 (.ptr (H.length+9) 0) (.agg (lnC op dst n0 0 g))=some (H++[.row o.cs 94,.dead,.dead,.dead,.dead,.dead,.dead,.dead,.dead,.row (lnC op dst n0 0 g) 54]):=by
   rw[store_app,storeAt_agg (n:=11) (H:=[.row o.cs 94,.dead,.dead,.dead,.dead,.dead,.dead,.dead,.dead,.row z11 54]) (r:=9) (cs:=z11) (xs:=lnC op dst n0 0 g) (t:=54) rfl rfl rfl rfl];rfl
  have m1:∀Y,Ai.load (H5++Y) none (.ptr p 20)=some A:=fun Y=>by
   have:=W5.get (mkO p f O S m out) (by simp)
   rw[load_ptr (cs:=mkC f O S m out) (t:=70) (by rw[yC (zG.1 this).1];exact this)]
   exact(mkC_at f O S m out 9).trans hA
  have m2:∀Y,Ai.load (H5++Y) (some 11) (.ptr (H.length+9) 0)=some (.agg (lnC op dst A5 k5 g)):=fun Y=>by
   have:=W5.head
   exact load_agg (cs:=lnC op dst A5 k5 g) (t:=54) (by rw[yC (zG.1 this).1];exact this) rfl
  have m1:=m1 []
  have m2:=m2 []
  rw[zZ]at m1 m2
  have fl:=fill_1 hx.len hx.cells
  have st':storeAt H8 1 (.ptr p 20) N=some H9:=st
  rw[c30l0_eq]
  simp -implicitDefEqProofs only[aW,↓aP,makes,reduceLT,reduceEqDiff,reduceAdd,hlt,iadr_cops,hg,lq,st0,zN,zC,zA,zU,xC,yF,xK,fadr_ptr,g0,hcat,hcl,core_build,bu,st1,R5,core_nilck,nk,m1,m2,core_bslT,fl,zD,core_app,ap.tlS,st',wrap1 (show i<4611686018427387904 by omega)]
end
theorem bslV_11(H:List AO)(op:ByteArray)(s i g:Int):bslV H 11 1 z11 [(0,.agg (lnC op 0 (rowC [s] (some 1)) i g))]=some (.val (.sl 11 [lnC op 0 (rowC [s] (some 1)) i g] (some 1)) none):=rfl
theorem build_ask(op:ByteArray)(s i g:Int):buildV z11 [(0,1,litS op),(3,1,litI .i64 i),(2,1,rowC [s] (some 1)),(9,1,litI .i64 g)]=some (.val (.agg (lnC op 0 (rowC [s] (some 1)) i g)) none):=rfl
theorem rowC_int(s:Int)(c:Option Nat):IntC (rowC [s] c) []:=.inl ⟨rfl,rfl,rfl⟩
theorem mcross_tells(p:Nat)(f:FlatV){O S:AV}(m:Int){ord slots:List Int}(hO:RowA O ord)(hS:RowA S slots)(F:FitsS f)(G:GoodF f)(hsl:slots.length=f.names.length)(x:CrossV)(hx:x∈f.cross)(i1:Int)(d:List Obj1)(H:List AO)(out:List AV)(A:AV)(oS:List Obj1)(L:List InsV)(base:Int)(hb0:0≤base)(hb1:base≤10000)(W:Own H (mkO p f O S m out::(oS++(ilO L++d))))(h4:out[4]?=some (litI .i64 base))(hA:out[9]?=some A)(hD:∀(i:Nat)(a:AV),out[i]?=some a→i≠9→FzD d a)(SA:InsL A (ilC L) oS)(hL:ilOk L)(hlen:L.length≤10000) :
  ∃(H':List AO)(A':AV)(oS':List Obj1)(L':List InsV),cw 30 [.ptr p 0,litI .i64 i1,.agg x.cs] H=some (.ret (.tup []),H')∧Own H' (mkO p f O S m ((out.set 4 (litI .i64 (base+x.ops.length))).set 9 A')::(oS'++(ilO L'++d)))∧InsL A' (ilC L') oS'∧ilOk L' ∧
   L'.map (fun e=>(e.op,e.dst))=L.map (fun e=>(e.op,e.dst))++(lnsF base 0 x.ops++[(bs [97,115,107],0)]):=by
 have F6:=F.ops x hx
 obtain⟨c1,c2⟩:=G.cross x hx
 unfold opsOk at c2
 rw[zL]at c2
 have Lt:Lent H p f O S m:=lentAt hO hS W hA hD SA hL
 have hc:∀Y id,callV cw mds 49 [.ptr p 0,litI .i64 x.guard] (H++Y) id=some (.val (litI .i64 (slotV slots x.guard)) none):=fun Y id=>slot_call (Lt.ext _) hS x.guard (by rw[hsl];exact c1) id
 generalize slotV slots x.guard=g at hc
 have hbx:boxV H.length 2 (.agg x.cs) 45=some (.val (.ptr H.length 0) (some (.row x.cs 45))):=boxV_agg rfl rfl
 have W1:=Own.obs [.row x.cs 45,.dead,.dead,.dead,.dead,.dead,.dead,.dead,.dead,.dead,.row [litI .i64 base] 3] W
 have W2:Own (H++[.row x.cs 45,.dead,.dead,.dead,.dead,.dead,.dead,.dead,.dead,.dead,.row [litI .i64 base] 3]) (mkO p f O S m out::(oS++(ilO L++([(H.length,x.cs,45),(H.length+10,[litI .i64 base],3)]++d)))):=by
  refine W1.perm ?_
  simp only[rowsOf]
  have e1:([(H.length,x.cs,45),(H.length+10,[litI .i64 base],3)]++(mkO p f O S m out::(oS++(ilO L++d))))=[(H.length,x.cs,45),(H.length+10,[litI .i64 base],3)]++((mkO p f O S m out::(oS++ilO L))++d):=by simp
  have e2:(mkO p f O S m out::(oS++(ilO L++([(H.length,x.cs,45),(H.length+10,[litI .i64 base],3)]++d))))=(mkO p f O S m out::(oS++ilO L))++([(H.length,x.cs,45),(H.length+10,[litI .i64 base],3)]++d):=by simp
  rw[e1,e2]
  exact wN ..
 obtain⟨H5,A5,o5,L5,R5,W5,S5,K5,q5⟩:=cross_loop p f m hO hS (H.length+10) base hb0 hb1 ([(H.length,x.cs,45),(H.length+10,[litI .i64 base],3)]++d) (by simp) f.names.length hsl.symm x.ops (by omega) H.length (litI .i64 i1) g x.ops.length 0 _ out A oS L (by omega) (by rw[zJ];exact c2.1) W2 hA (fun i a hi h9=>(hD i a hi h9).sub (yE ..)) SA hL (by omega)
 rw[show((0:Nat):Int)=0 from rfl]at R5
 rw[zJ]at q5
 have h9:9<out.length:=(zG.1 hA).1
 have hl5:L5.length≤20000:=by
  have:=congrArg List.length q5
  simp only[yV,zN,lnsF_len]at this
  omega
 have W6:Own H5 (mkO p f O S m (out.set 9 A5)::(o5++(ilO L5++d))):=by
  refine W5.sub ?_
  exact List.Sublist.cons_cons _ (List.Sublist.append_left (List.Sublist.append_left (yE ..) _) _)
 have hset:((out.set 9 A5).set 4 (litI .i64 (base+x.ops.length)))=(out.set 4 (litI .i64 (base+x.ops.length))).set 9 A5:=by rw[List.set_comm _ _ (show(9:Nat)≠4 by omega)]
 have st6:storeAt H5 1 (.ptr p 15) (litI .i64 (base+x.ops.length))=some (setL H5 p (.row (mkC f O S m ((out.set 4 (litI .i64 (base+x.ops.length))).set 9 A5)) 70)):=by
  rw[store_ptr W6.head (by rw[mkC_len,yW];omega) rfl rfl,←hset,←mkC_set f O S m (out.set 9 A5) 4]
 have W7:=W6.set (mkC f O S m ((out.set 4 (litI .i64 (base+x.ops.length))).set 9 A5)) 70
 generalize hH7:setL H5 p (.row (mkC f O S m ((out.set 4 (litI .i64 (base+x.ops.length))).set 9 A5)) 70)=H7 at st6 W7
 generalize hs1:base+(x.ops.length:Int)-1=s1
 have hxk:InsOk (lnC (bs [97,115,107]) 0 (rowC [s1] (some 1)) i1 g) [] (bs [97,115,107]) 0 i1:=lnC_ok (rowC_int s1 (some 1))
 obtain⟨H9,H10,ap,st,W10,S10,K10⟩:=grow1 (idx:=9) W7 (by rw[yK (by rw[yW];exact h9)]) S5 K5 (by omega) hxk
 generalize hN:(AV.own H7.length 0 (L5.length+1) 11 none)=N at ap st W10 S10
 rw[wG]at W10
 refine⟨H10,N,_,_,cw_of fn30 (c:=c30) rfl rfl rfl rfl ?_,W10,S10,K10,by rw[vG,q5];simp⟩
 have nk:nilck (.ptr p 0)=some (.ptr p 0):=rfl
 have a1:∀Y,Ai.load (H++Y) none (.ptr p 15)=some (litI .i64 base):=fun Y=>by
  have:=W.head
  rw[load_ptr (cs:=mkC f O S m out) (t:=70) (by rw[yC (zG.1 this).1];exact this)]
  exact(mkC_at f O S m out 4).trans h4
 have a2:∀Z,Ai.load (H++(.row x.cs 45::Z)) none (.ptr H.length 0)=some (litI .i64 x.guard):=fun Z=>by rw[load_app0];rfl
 have a3:∀Z,Ai.load (H++(.row x.cs 45::Z)) none (.ptr H.length 1)=some (copsA x.ops):=fun Z=>by rw[load_app0];rfl
 have st1:storeAt (H++[.row x.cs 45,.dead,.dead,.dead,.dead,.dead,.dead,.dead,.dead,.dead,.row [litI .i64 0] 3]) 1 (.ptr (H.length+10) 0) (litI .i64 base)=some (H++[.row x.cs 45,.dead,.dead,.dead,.dead,.dead,.dead,.dead,.dead,.dead,.row [litI .i64 base] 3]):=by
  rw[store_app];rfl
 have b1:∀Y,Ai.load (H5++Y) none (.ptr p 15)=some (litI .i64 base):=fun Y=>by
  have:=W5.head
  rw[load_ptr (cs:=mkC f O S m (out.set 9 A5)) (t:=70) (by rw[yC (zG.1 this).1];exact this)]
  refine(mkC_at f O S m (out.set 9 A5) 4).trans ?_
  rw[yT (by omega)];exact h4
 have b2:∀Y,Ai.load (H5++Y) none (.ptr H.length 1)=some (copsA x.ops):=fun Y=>by
  have:=W5.get (H.length,x.cs,45) (by simp)
  rw[load_ptr (cs:=x.cs) (t:=45) (by rw[yC (zG.1 this).1];exact this)];rfl
 have w1:IntKind.wrap .i64 (base+(x.ops.length:Int))=base+x.ops.length:=by rw[Go.Ai.wrap_small]<;>omega
 have w2:IntKind.wrap .i64 (base+(x.ops.length:Int)-1)=s1:=by rw[←hs1,Go.Ai.wrap_small]<;>omega
 have e1:∀Y,Ai.load (H7++Y) none (.ptr p 20)=some A5:=fun Y=>by
  have:=W7.head
  rw[load_ptr (cs:=mkC f O S m ((out.set 4 (litI .i64 (base+x.ops.length))).set 9 A5)) (t:=70) (by rw[yC (zG.1 this).1];exact this)]
  refine(mkC_at f O S m _ 9).trans ?_
  rw[yK (by rw[yW];exact h9)]
 have e2:∀Y,Ai.load (H7++Y) none (.ptr p 15)=some (litI .i64 (base+x.ops.length)):=fun Y=>by
  have:=W7.head
  rw[load_ptr (cs:=mkC f O S m ((out.set 4 (litI .i64 (base+x.ops.length))).set 9 A5)) (t:=70) (by rw[yC (zG.1 this).1];exact this)]
  refine(mkC_at f O S m _ 4).trans ?_
  rw[yT (by omega),yK (by omega)]
 have e1':=e1 []
 have e2':=e2 []
 have b1':=b1 []
 have b2':=b2 []
 rw[zZ]at e1' e2' b1' b2'
 have bu:=build_ask (bs [97,115,107]) s1 i1 g
 have bl:=fun H=>bslV_11 H (bs [97,115,107]) s1 i1 g
 have st':storeAt H9 1 (.ptr p 20) N=some H10:=st
 simp -implicitDefEqProofs only[c30,aW,↓aP,makes,reduceLT,reduceEqDiff,reduceAdd,core_box,hbx,zN,zC,zA,zU,xC,yF,xK,fadr_ptr,core_nilck,nk,a1,a2,a3,hc,show mds 49=Md.pure from rfl,st1,core_mkf,lenV_cops,R5,b1',b2',w1,st6,e1,e2,e1',e2',w2,core_bsl,bslV_1r,core_build,bu,bl,core_app,ap.tlS,st']
 rfl
end
section
variable {call:CallF}{mt:MtF}{md:FuncId→Md}
def InsX(x:List AV)(op:ByteArray)(dst k:Int):Prop:=∃a l4 l5 l6 l7 l8 g r,x=insC op dst a k l4 l5 l6 l7 l8 g r∧x.all cellA=true
def InsF(a:AV)(L:List (ByteArray×Int×Int)):Prop:=(a=n0∧L=[])∨∃xs cap,a=.sl 11 xs cap∧xs.length=L.length∧∀(i:Nat) e,L[i]?=some e→∃x,xs[i]?=some x∧InsX x e.1 e.2.1 e.2.2
theorem InsF.lenV{a:AV}{L:List (ByteArray×Int×Int)}(h:InsF a L):Ai.lenV a=some (litI .i64 L.length):=by
 rcases h with⟨rfl,rfl⟩|⟨xs,cap,rfl,hl,_⟩
 ·rfl
 ·rw[←hl];rfl
theorem InsF.cell{a:AV}{L:List (ByteArray×Int×Int)}(h:InsF a L):cellA a=true:=by
 rcases h with⟨rfl,rfl⟩|⟨xs,cap,rfl,hl,_⟩<;>rfl
theorem InsF.iadr{a:AV}{L:List (ByteArray×Int×Int)}(h:InsF a L){i:Nat}{e:ByteArray×Int×Int}(hi:L[i]?=some e):∃x,Ai.iadr 11 a (litI .i64 i)=some (.ip x)∧InsX x e.1 e.2.1 e.2.2:=by
 rcases h with⟨rfl,rfl⟩|⟨xs,cap,rfl,hl,hx⟩
 ·cases hi
 ·obtain⟨x,h1,h2⟩:=hx i e hi
  refine⟨x,?_,h2⟩
  rw[iadr_sl,if_pos (by omega),xF,h1];rfl
theorem frz_cellA{H:List AO}{k:Nat}{a:AV}{p:AV×List Nat}(h:frz H k a=some p)(hc:cellA a=true):cellA p.1=true:=by
 cases k with
 | zero=>cases h
 | succ k =>
  cases a with
  | any=>cases hc
  | lit v=>cases h;exact hc
  | agg xs=>cases hc
  | tup xs=>cases hc
  | iface t x =>
   simp only[frz]at h
   obtain⟨q,_,h⟩:=bO.1 h
   cases h;rfl
  | fn f a b =>
   simp only[frz]at h
   obtain⟨q,_,h⟩:=bO.1 h
   obtain⟨q2,_,h⟩:=bO.1 h
   cases h;rfl
  | ptr r off =>
   simp only[frz]at h
   split at h
   ·cases hb:Nat.ble off (List.length _)with
    | true =>
     rw[hb,cond_true]at h
     obtain⟨q,_,h⟩:=bO.1 h
     cases h;rfl
    | false=>rw[hb]at h;cases h
   ·cases h
  | mpv r=>cases h
  | ip xs=>cases h;rfl
  | own r off n e cap =>
   simp only[frz]at h
   split at h
   ·cases hb:Nat.ble (off+n*e) (List.length _)with
    | true =>
     rw[hb,cond_true]at h
     obtain⟨q,_,h⟩:=bO.1 h
     cases h;rfl
    | false=>rw[hb]at h;cases h
   ·cases h
  | sl e xs cap=>cases h;rfl
theorem mapR_flat{F:AV→Option (AV×List Nat)}{e:Nat}:∀(T:List (List AV)),(∀c∈T,c.length=e)→(∀c∈T,∃y,mapL F c=some y) →
  ∃xs ids,mapR F e T.length T.flatten=some (xs,ids)∧xs.length=T.length∧∀(i:Nat) c,T[i]?=some c→∃y,mapL F c=some y∧xs[i]?=some y.1
 | [],_,_=>⟨[],[],rfl,rfl,fun i c h=>by cases h⟩
 | c::T,hl,h=>by
  obtain⟨y,hy⟩:=h c (zM ..)
  obtain⟨xs,ids,h1,h2,h3⟩:=mapR_flat T (fun x hx=>hl x (zI _ hx)) fun x hx=>h x (zI _ hx)
  have hc:=hl c (zM ..)
  refine⟨y.1::xs,y.2++ids,?_,by simp[h2],fun i z hz=>?_⟩
  ·rw[zC,wE,mapR]
   rw[vD hc,uR hc,hy]
   simp only[zD,h1]
  ·cases i with
   | zero=>cases hz;exact⟨y,hy,rfl⟩
   | succ i=>exact h3 i z hz
theorem InsOk.frzX{x:List AV}{o d:List Obj1}{H:List AO}{op:ByteArray}{dst n:Int}(h:InsOk x o op dst n)(O:Own H (o++d))(k:Nat):∃y,mapL (frz H (k+2)) x=some y∧InsX y.1 op dst n:=by
 have hz:=h.fz O k
 obtain⟨a,l4,l5,l6,l7,l8,g,r,oa,or_,rfl,hw,ha,hr,rfl⟩:=h
 simp only[xE,xX,xY,zL,cell2]at hw
 obtain⟨⟨h4,c4⟩,⟨h5,c5⟩,⟨h6,c6⟩,⟨h7,c7⟩,⟨h8,c8⟩⟩:=hw
 obtain⟨⟨a',i1⟩,ea⟩:=hz a (by simp[insC])
 obtain⟨⟨r',i2⟩,er⟩:=hz r (by simp[insC])
 have ca:cellA a'=true:=frz_cellA ea ha.cell.2
 have cr:cellA r'=true:=frz_cellA er hr.cell.2
 have hlit:∀v,frz H (k+2) (.lit v)=some (.lit v,[]):=fun v=>rfl
 have w4:=frz_whole (H:=H) h4 (k+1)
 have w5:=frz_whole (H:=H) h5 (k+1)
 have w6:=frz_whole (H:=H) h6 (k+1)
 have w7:=frz_whole (H:=H) h7 (k+1)
 have w8:=frz_whole (H:=H) h8 (k+1)
 refine⟨(insC op dst a' n l4 l5 l6 l7 l8 g r',i1++i2),?_,a',l4,l5,l6,l7,l8,g,r',rfl,?_⟩
 ·simp only[insC,litS,litI,mapL,hlit,ea,er,w4,w5,w6,w7,w8,zD,yF,zZ]
 ·simp only[insC,xE,xX,ca,cr,c4,c5,c6,c7,c8]
  rfl
theorem InsL.frzF{H:List AO}{L:List InsV}{A:AV}{o d:List Obj1}(S:InsL A (ilC L) o)(hL:ilOk L)(O:Own H (o++(ilO L++d)))(k:Nat):∃a ids,frz H (k+3) A=some (a,ids)∧InsF a (L.map fun e=>(e.op,e.dst,e.k)):=by
 rcases S with⟨rfl,h0,_⟩|⟨p,hne,rfl,rfl⟩
 ·have:L=[]:=by
   cases L with
   | nil=>rfl
   | cons a l=>simp[ilC]at h0
  subst this
  exact⟨n0,[],rfl,.inl ⟨rfl,rfl⟩⟩
 ·have hsub:∀e∈L,Own H (e.o++[]):=fun e he=>O.sub (by
   have hs:e.o.Sublist (ilO L):=List.sublist_flatten_of_mem (zW.2 ⟨e,he,rfl⟩)
   rw[zZ]
   exact(hs.trans (xZ ..)).trans (yE ..))
  obtain⟨xs,ids,h1,h2,h3⟩:=mapR_flat (F:=frz H (k+2)) (e:=11) (ilC L) (ilC_len hL) fun c hc=>by
   obtain⟨e,he,rfl⟩:=zW.1 hc
   obtain⟨y,hy,_⟩:=(hL e he).frzX (hsub e he) k
   exact⟨y,hy⟩
  have hl:(ilC L).length=L.length:=by rw[ilC,yV]
  refine⟨.sl 11 xs none,p::ids,?_,.inr ⟨xs,none,rfl,by rw[h2,hl,yV],fun i e he=>?_⟩⟩
  ·have hp:=O.get (p,(ilC L).flatten,54) (by simp)
   rw[frz]
   simp only[hp,yH (show 0+(ilC L).length*11≤(ilC L).flatten.length by rw[len11 _ (ilC_len hL)];omega),cond_true,zJ,h1,zD]
  ·rw[xJ]at he
   obtain⟨v,hv,rfl⟩:=Option.map_eq_some_iff.1 he
   obtain⟨y,hy,hx⟩:=h3 i v.x (by rw[ilC,xJ,hv];rfl)
   obtain⟨y2,hy2,hX⟩:=(hL v (zX hv)).frzX (hsub v (zX hv)) k
   rw[hy]at hy2
   cases hy2
   exact⟨_,hx,hX⟩
end
section
variable {call:CallF}{mt:MtF}{md:FuncId→Md}
theorem mem_mkC{f:FlatV}{O S:AV}{m:Int}{out:List AV}{a:AV}(h:a∈out):a∈mkC f O S m out:=by
 unfold mkC
 exact wL _ (zI _ (zI _ (zI _ h)))
def FzK(d:List Obj1)(a:AV):Prop:=∀H k,Own H d→Fz H (k+3) a
theorem FzK.fzD{d:List Obj1}{a:AV}(h:FzK d a):FzD d a:=fun H W=>h H 12 W
theorem RowsE.fzK{e:Nat}{t:TypeId}{A:AV}{T:List (List AV)}{o:List Obj1}(S:RowsE e t A T o)(hT:∀c∈T,c.length=e)(hw:∀c∈T,c.all whole=true):FzK o A:=by
 intro H k O
 rcases S with⟨rfl,_,_⟩|⟨p,hne,rfl,rfl⟩
 ·exact Fz.whole rfl _
 ·refine Fz.own (k:=k+2) O.head (by rw[lenE T hT];exact zT _) fun a ha=>?_
  obtain⟨c,hc,hac⟩:=List.mem_flatten.1 ha
  have:=hw c hc
  rw[yD]at this
  exact Fz.whole (this a hac) (k+1)
abbrev outC(a b c e n:Int)(M K A7 A8 A9:AV):List AV:=[litI .i64 a,litI .i64 b,litI .i64 c,litI .i64 e,litI .i64 n,M,K,A7,A8,A9]
section
variable(p:Nat)(f:FlatV){O S:AV}(m:Int){ord slots:List Int}(hO:RowA O ord)(hS:RowA S slots)(F:FitsS f)(G:GoodF f)(hsl:slots.length=f.names.length)
include hO hS F G hsl
theorem step_call(hr:∀x∈ord,0≤x∧x<(f.names.length:Int))(hol:ord.length≤1000)(d:List Obj1)(a b c e:Int)(H:List AO)(W:Own H (mkO p f O S m (out0 a b c e)::d)) :
  ∃(H':List AO)(A M K:AV)(oS oM oK:List Obj1)(L:List InsV),(∀id,callV cw mds 28 [.ptr p 0] H id=some (.wr (.tup []) H'))∧Own H' (mkO p f O S m (outC a b c e 0 M K A n0 n0)::(oS++(ilO L++(oK++(oM++d))))) ∧
   InsL A (ilC L) oS∧ilOk L∧FzK oM M∧FzK oK K∧cellA M=true∧cellA K=true∧StepOk f ord slots L:=by
 obtain⟨H',A,M,K,oS,oM,oK,L,TM,TK,h,W',SA,hL,SM,m1,m2,SK,k1,k2,hlen,hok⟩:=step_tells p f m hO hS F G hsl hr hol d a b c e H W
 obtain⟨H'',hc,W''⟩:=callV_refO (f:=28) (id:=H.length) rfl h W' fun hb x hx=>by
  have hp:p<H.length:=W.lt _ (zM ..)
  have hbc:=belowC hb hp W'.head
  rcases zO.1 hx with rfl|hx
  ·exact hp
  ·have hx2:x∈oS++ilO L∨x∈oK∨x∈oM∨x∈d:=by
    simp only[zY]at hx ⊢
    rcases hx with hx|hx|hx|hx|hx
    ·exact .inl (.inl hx)
    ·exact .inl (.inr hx)
    ·exact .inr (.inl hx)
    ·exact .inr (.inr (.inl hx))
    ·exact .inr (.inr (.inr hx))
   rcases hx2 with hx|hx|hx|hx
   ·exact SA.lt hL W'.tail hb (hbc A (mem_mkC (by simp))) x hx
   ·exact SK.lt (hbc K (mem_mkC (by simp))) x hx
   ·exact SM.lt (hbc M (mem_mkC (by simp))) x hx
   ·exact W.lt _ (zI _ hx)
 exact⟨H'',A,M,K,oS,oM,oK,L,fun id=>(callV_ref_id (f:=28) rfl id H.length).trans hc,W'',SA,hL,SM.fzK m1 m2,SK.fzK k1 k2,SM.cell.2,SK.cell.2,hok⟩
theorem deriv_call(d:List Obj1)(a b c e n:Int)(M K A:AV)(H:List AO)(W:Own H (mkO p f O S m (outC a b c e n M K A n0 n0)::d))(hM:FzD d M)(hK:FzD d K)(hA:FzD d A) :
  ∃(H':List AO)(A':AV)(oS':List Obj1)(L':List InsV),(∀id,callV cw mds 29 [.ptr p 0] H id=some (.wr (.tup []) H'))∧Own H' (mkO p f O S m (outC a b c e n M K A A' n0)::(oS'++(ilO L'++d)))∧InsL A' (ilC L') oS'∧ilOk L' ∧
   L'.map (fun e=>(e.op,e.dst,e.k))=(List.range f.conts.length).map fun n=>(bs [115,108,111,112,101],0,((n:Nat):Int)):=by
 obtain⟨H',A',oS',L',h,W',SA,hL,q⟩:=deriv_tells p f m hO hS F G hsl d H (outC a b c e n M K A n0 n0) W rfl (fun i x hx h8=>by
  rcases i with _|_|_|_|_|_|_|_|_|_|i
  ·cases hx;exact FzD.whole rfl
  ·cases hx;exact FzD.whole rfl
  ·cases hx;exact FzD.whole rfl
  ·cases hx;exact FzD.whole rfl
  ·cases hx;exact FzD.whole rfl
  ·cases hx;exact hM
  ·cases hx;exact hK
  ·cases hx;exact hA
  ·omega
  ·cases hx;exact FzD.whole rfl
  ·cases hx)
 obtain⟨H'',hc,W''⟩:=callV_refO (f:=29) (id:=H.length) rfl h W' fun hb x hx=>by
  have hp:p<H.length:=W.lt _ (zM ..)
  have hbc:=belowC hb hp W'.head
  rcases zO.1 hx with rfl|hx
  ·exact hp
  ·rw[←zU]at hx
   rcases zY.1 hx with hx|hx
   ·exact SA.lt hL W'.tail hb (hbc A' (mem_mkC (by simp))) x hx
   ·exact W.lt _ (zI _ hx)
 exact⟨H'',A',oS',L',fun id=>(callV_ref_id (f:=29) rfl id H.length).trans hc,W'',SA,hL,q⟩
theorem cross_call2(x:CrossV)(hx:x∈f.cross)(i1:Int)(d:List Obj1)(a b c e base:Int)(M K A A8 A9:AV)(hb0:0≤base)(hb1:base≤10000)(oS:List Obj1)(L:List InsV)(H:List AO)(W:Own H (mkO p f O S m (outC a b c e base M K A A8 A9)::(oS++(ilO L++d))))(hM:FzD d M)(hK:FzD d K)(hA:FzD d A)(hA8:FzD d A8)(SA:InsL A9 (ilC L) oS)(hL:ilOk L)(hlen:L.length≤10000) :
  ∃(H':List AO)(A':AV)(oS':List Obj1)(L':List InsV),(∀id,callV cw mds 30 [.ptr p 0,litI .i64 i1,.agg x.cs] H id=some (.wr (.tup []) H'))∧Own H' (mkO p f O S m (outC a b c e (base+x.ops.length) M K A A8 A')::(oS'++(ilO L'++d)))∧InsL A' (ilC L') oS'∧ilOk L' ∧
   L'.map (fun e=>(e.op,e.dst))=L.map (fun e=>(e.op,e.dst))++(lnsF base 0 x.ops++[(bs [97,115,107],0)]):=by
 obtain⟨H',A',oS',L',h,W',SA',hL',q⟩:=mcross_tells p f m hO hS F G hsl x hx i1 d H (outC a b c e base M K A A8 A9) A9 oS L base hb0 hb1 W rfl rfl (fun i y hy h9=>by
  rcases i with _|_|_|_|_|_|_|_|_|_|i
  ·cases hy;exact FzD.whole rfl
  ·cases hy;exact FzD.whole rfl
  ·cases hy;exact FzD.whole rfl
  ·cases hy;exact FzD.whole rfl
  ·cases hy;exact FzD.whole rfl
  ·cases hy;exact hM
  ·cases hy;exact hK
  ·cases hy;exact hA
  ·cases hy;exact hA8
  ·omega
  ·cases hy) SA hL hlen
 obtain⟨H'',hc,W''⟩:=callV_refO (f:=30) (id:=H.length) rfl h W' fun hb y hy=>by
  have hp:p<H.length:=W.lt _ (zM ..)
  have hbc:=belowC hb hp W'.head
  rcases zO.1 hy with rfl|hy
  ·exact hp
  ·rw[←zU]at hy
   rcases zY.1 hy with hy|hy
   ·exact SA'.lt hL' W'.tail hb (hbc A' (mem_mkC (by simp))) y hy
   ·exact W.lt _ (zI _ (wL _ (wL _ hy)))
 exact⟨H'',A',oS',L',fun id=>(callV_ref_id (f:=30) rfl id H.length).trans hc,W'',SA',hL',q⟩
def crsF(base:Int):List CrossV→List (ByteArray×Int)
 | []=>[]
 | x::r=>(lnsF base 0 x.ops++[(bs [97,115,107],0)])++crsF (base+x.ops.length) r
def nOps:List CrossV→Nat
 | []=>0
 | x::r=>x.ops.length+nOps r
theorem of_loop(d:List Obj1)(a b c e:Int)(M K A A8:AV)(hM:FzD d M)(hK:FzD d K)(hA:FzD d A)(hA8:FzD d A8)(v4:AV):∀(j i:Nat)(base:Int)(A9:AV)(oS:List Obj1)(L:List InsV)(H:List AO),j+i=f.cross.length→0≤base→base≤100*i→Own H (mkO p f O S m (outC a b c e base M K A A8 A9)::(oS++(ilO L++d)))→InsL A9 (ilC L) oS→ilOk L→L.length≤101*i →
  ∃(H':List AO)(A':AV)(oS':List Obj1)(L':List InsV),loopW (codeW cw (lookM mtl) mds c12l0) [4,6,35,36,37] [(4,v4),(6,.ptr p 0),(35,crossA f.cross),(36,litI .i64 f.cross.length),(37,litI .i64 i)] H =
   some (.exit 0,[(4,v4),(6,.ptr p 0),(35,crossA f.cross),(36,litI .i64 f.cross.length),(37,litI .i64 f.cross.length),(38,litB false)],H')∧Own H' (mkO p f O S m (outC a b c e (base+nOps (f.cross.drop i)) M K A A8 A')::(oS'++(ilO L'++d)))∧InsL A' (ilC L') oS'∧ilOk L' ∧
   L'.map (fun e=>(e.op,e.dst))=L.map (fun e=>(e.op,e.dst))++crsF base (f.cross.drop i)
 | 0,i,base,A9,oS,L,H,h,hb0,hb1,W,SA,hL,hl=>by
  have hi:i=f.cross.length:=by omega
  subst hi
  refine⟨H,A9,oS,L,loopW_out ?_ (by simp),by rw[yB,nOps,Int.natCast_zero,Int.add_zero];exact W,SA,hL,by rw[yB,crsF,zZ]⟩
  simp -implicitDefEqProofs only[c12l0,aW,↓aP,makes,reduceLT,reduceEqDiff,reduceAdd,zR]
 | j+1,i,base,A9,oS,L,H,h,hb0,hb1,W,SA,hL,hl=>by
  have hi:i<f.cross.length:=by omega
  have hlt:(i:Int)<f.cross.length:=by omega
  have hg:f.cross[i]?=some f.cross[i]:=zE hi
  have hmem:=zV hi
  have F5:=F.cross
  rw[zS hi,nOps,crsF]
  generalize f.cross[i]=x at hg hmem
  have F6:=F.ops x hmem
  have W1:=Own.pad W (.row x.cs 45)
  obtain⟨H5,A5,o5,L5,hc,W5,S5,K5,q5⟩:=cross_call2 p f m hO hS F G hsl x hmem i d a b c e base M K A A8 A9 hb0 (by omega) oS L _ W1 hM hK hA hA8 SA hL (by omega)
  have hl5:L5.length≤101*(i+1):=by
   have:=congrArg List.length q5
   simp only[yV,zN,lnsF_len,zC,zA]at this
   omega
  obtain⟨H',A',o',L',R',W',S',K',q'⟩:=of_loop d a b c e M K A A8 hM hK hA hA8 v4 j (i+1) (base+x.ops.length) A5 o5 L5 H5 (by omega) (by omega) (by omega) W5 S5 K5 hl5
  refine⟨H',A',o',L',loopW_round ?_ R',by rw[Int.natCast_add,←Int.add_assoc];exact W',S',K',by rw[q',q5];simp⟩
  have lq:=load_ipA (H:=H) (show x.cs.length=2 from rfl)
  have st0:storeAt (H++[.row [litI .i64 0,.sl 0 [] (some 0)] 45]) 2 (.ptr H.length 0) (.agg x.cs)=some (H++[.row x.cs 45]):=by
   have:=store_app H [.row [litI .i64 0,.sl 0 [] (some 0)] 45] 2 0 0 (.agg x.cs)
   rw[zK]at this
   rw[this,storeAt_agg (n:=2) (H:=[.row [litI .i64 0,.sl 0 [] (some 0)] 45]) (r:=0) (cs:=[litI .i64 0,.sl 0 [] (some 0)]) (xs:=x.cs) (t:=45) rfl rfl rfl rfl];rfl
  have g0:Ai.load (H++[.row x.cs 45]) (some 2) (.ptr H.length 0)=some (.agg x.cs):=by rw[load_app0];exact load_agg (cs:=x.cs) (t:=45) rfl rfl
  simp -implicitDefEqProofs only[c12l0,aW,↓aP,makes,reduceLT,reduceEqDiff,reduceAdd,hlt,iadr_cross,hg,lq,st0,g0,hc,wrap1 (show i<4611686018427387904 by omega)]
end
end
section
variable {call:CallF}{mt:MtF}{md:FuncId→Md}
abbrev z21:List AV:=[n0,n0,n0,n0,n0,n0,n0,n0,n0,n0,litI .i64 0,litI .i64 0,litI .i64 0,litI .i64 0,litI .i64 0,litI .i64 0,n0,n0,n0,n0,n0]
theorem build_mk(f:FlatV){O S:AV}{ord slots:List Int}(hO:RowA O ord)(hS:RowA S slots)(m a b c e:Int):buildV z21 [(0,8,.agg f.cs),(8,3,planA O S m),(11,10,.agg (out0 a b c e))]=some (.val (.agg (mkC f O S m (out0 a b c e))) none):=by
 obtain⟨eO,xO,cO,rfl⟩:=hO.cases
 obtain⟨eS,xS,cS,rfl⟩:=hS.cases
 rfl
theorem mkC_cells(f:FlatV){O S:AV}{ord slots:List Int}(hO:RowA O ord)(hS:RowA S slots)(m a b c e:Int):(mkC f O S m (out0 a b c e)).all cellA=true:=by
 obtain⟨eO,xO,cO,rfl⟩:=hO.cases
 obtain⟨eS,xS,cS,rfl⟩:=hS.cases
 rfl
theorem build_out(a b c e:Int):buildV (out0 0 0 0 0) [(0,1,litI .i64 a),(1,1,litI .i64 b),(2,1,litI .i64 c),(3,1,litI .i64 e)]=some (.val (.agg (out0 a b c e)) none):=rfl
structure CodeF(f:FlatV)(ord slots:List Int)(a b c e:Int)(M K A7 A8 A9:AV):Prop where
 cM:cellA M=true
 cK:cellA K=true
 s:∃L7:List InsV,InsF A7 (L7.map fun e=>(e.op,e.dst,e.k))∧StepOk f ord slots L7
 d:InsF A8 ((List.range f.conts.length).map fun n=>(bs [115,108,111,112,101],0,((n:Nat):Int)))
 c:∃L9:List InsV,InsF A9 (L9.map fun e=>(e.op,e.dst,e.k))∧L9.map (fun e=>(e.op,e.dst))=crsF 0 f.cross
theorem codeOf_bad(f:FlatV)(F:FitsS f){O S:AV}{ord slots:List Int}(hO:RowA O ord)(hS:RowA S slots)(m:Int)(hlo:ord.length≤1000000)(hls:slots.length≤1000000)(hR:rightF f ord slots m=false)(H:List AO)(id:Nat) :
  callV cw mds 12 [.agg f.cs,planA O S m] H id=some (.val (.tup [.agg (out0 0 0 0 0),litI .i64 1]) none):=by
 have hp:∀H id,callV cw mds 19 [.agg f.cs,planA O S m] H id=some (.val (litB false) none):=fun H id=>by rw[←hR];exact pright_call f F hO hS hlo hls m H id
 have hb:∀id,boxV id 3 (planA O S m) 32=some (.val (.ptr id 0) (some (.row [O,S,litI .i64 m] 32))):=fun id=>boxV_agg rfl (by simp[hO.cell.1,hS.cell.1];rfl)
 have hbf:∀id,boxV id 8 (.agg f.cs) 29=some (.val (.ptr id 0) (some (.row f.cs 29))):=fun id=>flat_f f id 29
 have lA:Ai.load [.row f.cs 29,.row [O,S,litI .i64 m] 32,.row (out0 0 0 0 0) 39] (some 8) (.ptr 0 0)=some (.agg f.cs):=load_agg rfl rfl
 have lP:Ai.load [.row f.cs 29,.row [O,S,litI .i64 m] 32,.row (out0 0 0 0 0) 39] (some 3) (.ptr 1 0)=some (planA O S m):=load_agg rfl rfl
 have bu:buildV (out0 0 0 0 0) []=some (.val (.agg (out0 0 0 0 0)) none):=rfl
 have st:storeAt [.row f.cs 29,.row [O,S,litI .i64 m] 32,.row (out0 0 0 0 0) 39] 10 (.ptr 2 0) (.agg (out0 0 0 0 0))=some [.row f.cs 29,.row [O,S,litI .i64 m] 32,.row (out0 0 0 0 0) 39]:=rfl
 have lR:Ai.load [.row f.cs 29,.row [O,S,litI .i64 m] 32,.row (out0 0 0 0 0) 39] (some 10) (.ptr 2 0)=some (.agg (out0 0 0 0 0)):=load_agg rfl rfl
 obtain⟨eO,xO,cO,eqO⟩:=hO.cases
 obtain⟨eS,xS,cS,eqS⟩:=hS.cases
 refine callV_frz (a:=.tup [.agg (out0 0 0 0 0),litI .i64 1]) (H':=[.row f.cs 29,.row [O,S,litI .i64 m] 32,.row (out0 0 0 0 0) 39]) (ids:=[]) rfl (by rw[eqO,eqS];rfl) ?_ rfl
 refine cw_of fn12 (c:=c12) rfl rfl rfl rfl ?_
 simp -implicitDefEqProofs only[c12,aW,↓aP,makes,reduceLT,reduceEqDiff,reduceAdd,core_box,hbf,hb,zA,zC,lA,lP,hp,core_build,bu,st]
 simp only[zD,fin,fn12,res,resL,resV,get_cons,get_nil,if_true,lR]
 rfl
theorem codeOf_good(f:FlatV)(F:FitsS f)(G:GoodF f){O S:AV}{ord slots:List Int}(hO:RowA O ord)(hS:RowA S slots)(hsl:slots.length=f.names.length)(hr:∀x∈ord,0≤x∧x<(f.names.length:Int))(hol:ord.length≤1000)(m:Int)(hR:rightF f ord slots m=true) :
  ∃(a b:Int)(M K A7 A8 A9:AV),(∀H id,callV cw mds 12 [.agg f.cs,planA O S m] H id=some (.val (.tup [.agg (outC a b m f.cross.length (nOps f.cross) M K A7 A8 A9),litI .i64 0]) none))∧CodeF f ord slots a b m f.cross.length M K A7 A8 A9:=by
 have F6:=F.names
 have F5:=F.cross
 have hp:∀H id,callV cw mds 19 [.agg f.cs,planA O S m] H id=some (.val (litB true) none):=fun H id=>by rw[←hR];exact pright_call f F hO hS (by omega) (by omega) m H id
 have hb:∀id,boxV id 3 (planA O S m) 32=some (.val (.ptr id 0) (some (.row [O,S,litI .i64 m] 32))):=fun id=>boxV_agg rfl (by simp[hO.cell.1,hS.cell.1];rfl)
 have hbf:∀id,boxV id 8 (.agg f.cs) 29=some (.val (.ptr id 0) (some (.row f.cs 29))):=fun id=>flat_f f id 29
 generalize ha:(f.ins.length:Int)=a
 generalize hb1:(f.outs.length:Int)=b
 generalize hce:(f.cross.length:Int)=ce
 have hb21:boxV 3 21 (.agg (mkC f O S m (out0 a b m ce))) 70=some (.val (.ptr 3 0) (some (.row (mkC f O S m (out0 a b m ce)) 70))):=boxV_agg rfl (mkC_cells f hO hS m a b m ce)
 have W0:Own [.row f.cs 29,.row [O,S,litI .i64 m] 32,.row (out0 0 0 0 0) 39,.row (mkC f O S m (out0 a b m ce)) 70] (mkO 3 f O S m (out0 a b m ce)::[(2,out0 0 0 0 0,39),(0,f.cs,29)]):=by
  refine⟨by simp,fun x hx=>?_⟩
  simp only[zO,yG,or_false]at hx
  rcases hx with rfl|rfl|rfl<;>rfl
 obtain⟨H1,A7,M,K,o7,oM,oK,L7,h28,W1,S7,K7,fM,fK,cM,cK,hst⟩:=step_call 3 f m hO hS F G hsl hr hol [(2,out0 0 0 0 0,39),(0,f.cs,29)] a b m ce _ W0
 have f7:FzD (o7++(ilO L7++(oK++(oM++[(2,out0 0 0 0 0,39),(0,f.cs,29)])))) A7:=S7.fzD K7
 have sub1:(oK++(oM++[(2,out0 0 0 0 0,39),(0,f.cs,29)])).Sublist (o7++(ilO L7++(oK++(oM++[(2,out0 0 0 0 0,39),(0,f.cs,29)])))):=(yE ..).trans (yE ..)
 have hM0:oM.Sublist (oK++(oM++[(2,out0 0 0 0 0,39),(0,f.cs,29)])):=(xZ ..).trans (yE ..)
 have hK0:oK.Sublist (oK++(oM++[(2,out0 0 0 0 0,39),(0,f.cs,29)])):=xZ ..
 obtain⟨H2,A8,o8,L8,h29,W2,S8,K8,q8⟩:=deriv_call 3 f m hO hS F G hsl _ a b m ce 0 M K A7 H1 W1 (fM.fzD.sub (hM0.trans sub1)) (fK.fzD.sub (hK0.trans sub1)) f7
 have hd2:([(2,out0 0 0 0 0,39),(0,f.cs,29)]:List Obj1).Sublist (o7++(ilO L7++(oK++(oM++[(2,out0 0 0 0 0,39),(0,f.cs,29)])))):=((yE ..).trans (yE ..)).trans sub1
 have hd2':=hd2.subset
 have fM2:=fM.fzD.sub (hM0.trans sub1)
 have fK2:=fK.fzD.sub (hK0.trans sub1)
 generalize hD1:(o7++(ilO L7++(oK++(oM++[(2,out0 0 0 0 0,39),(0,f.cs,29)]))))=D1 at W2 f7 hd2 hd2' fM2 fK2
 have sub2:D1.Sublist (o8++(ilO L8++D1)):=(yE ..).trans (yE ..)
 have W2':Own H2 (mkO 3 f O S m (outC a b m ce 0 M K A7 A8 n0)::([]++(ilO []++(o8++(ilO L8++D1))))):=W2
 obtain⟨H3,A9,o9,L9,R9,W3,S9,K9,q9⟩:=of_loop 3 f m hO hS F G hsl (o8++(ilO L8++D1)) a b m ce M K A7 A8 (fM2.sub sub2) (fK2.sub sub2) (f7.sub sub2) (S8.fzD K8) (.ptr 2 0) f.cross.length 0 0 n0 [] [] H2 (by omega) (by omega) (by omega) W2' InsL.nil (by intro y hy;cases hy) (by simp)
 rw[show((0:Nat):Int)=0 from rfl]at R9
 rw[hce]at R9
 rw[zJ,Int.zero_add]at W3
 rw[zJ,vE,yF]at q9
 have hc10:(outC a b m ce (nOps f.cross) M K A7 A8 A9).all cellA=true:=by
  have e7:=S7.cell.2
  have e8:=S8.cell.2
  have e9:=S9.cell.2
  simp only[xE,xX,cM,cK,e7,e8,e9];rfl
 have hs2:([(2,out0 0 0 0 0,39)]:List Obj1).Sublist (o9++(ilO L9++(o8++(ilO L8++D1)))):=by
  refine List.Sublist.trans ?_ ((yE ..).trans (yE ..))
  refine List.Sublist.trans ?_ sub2
  exact List.Sublist.trans (List.Sublist.cons_cons _ (List.nil_sublist _)) hd2
 have g2:H3[2]?=some (.row (out0 0 0 0 0) 39):=W3.get (2,out0 0 0 0 0,39) (zI _ (hs2.subset (xP.2 rfl)))
 have l11:Ai.load H3 (some 10) (.ptr 3 11)=some (.agg (outC a b m ce (nOps f.cross) M K A7 A8 A9)):=by
  simp only[Ai.load,rowAt_of W3.head,zD];rfl
 have st2:storeAt H3 10 (.ptr 2 0) (.agg (outC a b m ce (nOps f.cross) M K A7 A8 A9))=some (setL H3 2 (.row (outC a b m ce (nOps f.cross) M K A7 A8 A9) 39)):=storeAt_agg g2 rfl rfl hc10
 have lR:Ai.load (setL H3 2 (.row (outC a b m ce (nOps f.cross) M K A7 A8 A9) 39)) (some 10) (.ptr 2 0)=some (.agg (outC a b m ce (nOps f.cross) M K A7 A8 A9)):=load_agg (getH_set_eq g2) rfl
 have hne:∀x∈o9++(ilO L9++(o8++(ilO L8++(o7++(ilO L7++(oK++oM)))))),x.1≠2:=by
  have W4:=W3.tail
  rw[←hD1]at W4
  have W5:Own H3 ((o9++(ilO L9++(o8++(ilO L8++(o7++(ilO L7++(oK++oM)))))))++[(2,out0 0 0 0 0,39)]):=W4.sub (by
   simp only[zU]
   repeat refine List.Sublist.append_left ?_ _
   exact List.Sublist.cons_cons _ (List.nil_sublist _))
  intro x hx e2
  have:=(W5.perm uF).ne x hx
  exact this e2.symm
 have W6:Own (setL H3 2 (.row (outC a b m ce (nOps f.cross) M K A7 A8 A9) 39)) (o9++(ilO L9++(o8++(ilO L8++(o7++(ilO L7++(oK++oM))))))):=by
  have W4:=W3.tail
  rw[←hD1]at W4
  have W5:Own H3 (o9++(ilO L9++(o8++(ilO L8++(o7++(ilO L7++(oK++oM))))))):=W4.sub (by
   repeat refine List.Sublist.append_left ?_ _
   exact xZ ..)
  refine⟨W5.1,fun x hx=>?_⟩
  rw[getH_set_ne (fun e=>hne x hx e.symm)]
  exact W5.2 x hx
 generalize hH6:setL H3 2 (.row (outC a b m ce (nOps f.cross) M K A7 A8 A9) 39)=H6 at st2 lR W6
 obtain⟨⟨M',iM⟩,eM⟩:Fz H6 14 M:=fM H6 11 (W6.sub (by
  repeat refine List.Sublist.trans ?_ (yE ..)
  exact List.Sublist.refl _))
 obtain⟨⟨K',iK⟩,eK⟩:Fz H6 14 K:=fK H6 11 (W6.sub (by
  refine List.Sublist.trans ?_ (yE ..)
  refine List.Sublist.trans ?_ (yE ..)
  refine List.Sublist.trans ?_ (yE ..)
  refine List.Sublist.trans ?_ (yE ..)
  refine List.Sublist.trans ?_ (yE ..)
  refine List.Sublist.trans ?_ (yE ..)
  exact xZ ..))
 have W8:Own H6 (o8++(ilO L8++(o7++(ilO L7++(oK++oM))))):=W6.sub ((yE ..).trans (yE ..))
 have W7:Own H6 (o7++(ilO L7++(oK++oM))):=W8.sub ((yE ..).trans (yE ..))
 obtain⟨A7',i7,e7,F7⟩:=S7.frzF K7 W7 11
 have e7:frz H6 14 A7=some (A7',i7):=e7
 obtain⟨A8',i8,e8,F8⟩:=S8.frzF K8 W8 11
 have e8:frz H6 14 A8=some (A8',i8):=e8
 obtain⟨A9',i9,e9,F9⟩:=S9.frzF K9 W6 11
 have e9:frz H6 14 A9=some (A9',i9):=e9
 obtain⟨eO,xO,cO,eqO⟩:=hO.cases
 obtain⟨eS,xS,cS,eqS⟩:=hS.cases
 refine⟨a,b,M',K',A7',A8',A9',fun H id=>?_,frz_cellA eM cM,frz_cellA eK cK,⟨L7,F7,hst⟩,by rw[←q8];exact F8,⟨L9,F9,q9⟩⟩
 refine callV_frz (a:=.tup [.agg (outC a b m ce (nOps f.cross) M K A7 A8 A9),litI .i64 0]) (H':=H6) (ids:=((iM++(iK++(i7++(i8++(i9++[])))))++[])) rfl (by rw[eqO,eqS];rfl) ?_ ?_
 ·refine cw_of fn12 (c:=c12) rfl rfl rfl rfl ?_
  have lA:Ai.load [.row f.cs 29,.row [O,S,litI .i64 m] 32,.row (out0 0 0 0 0) 39] (some 8) (.ptr 0 0)=some (.agg f.cs):=load_agg rfl rfl
  have lP:Ai.load [.row f.cs 29,.row [O,S,litI .i64 m] 32,.row (out0 0 0 0 0) 39] (some 3) (.ptr 1 0)=some (planA O S m):=load_agg rfl rfl
  have k0:Ai.load [.row f.cs 29,.row [O,S,litI .i64 m] 32,.row (out0 0 0 0 0) 39] none (.ptr 0 0)=some (strs f.ins):=rfl
  have k2:Ai.load [.row f.cs 29,.row [O,S,litI .i64 m] 32,.row (out0 0 0 0 0) 39] none (.ptr 0 2)=some (rowC f.outs none):=rfl
  have k6:Ai.load [.row f.cs 29,.row [O,S,litI .i64 m] 32,.row (out0 0 0 0 0) 39] none (.ptr 0 6)=some (crossA f.cross):=rfl
  have p2:Ai.load [.row f.cs 29,.row [O,S,litI .i64 m] 32,.row (out0 0 0 0 0) 39] none (.ptr 1 2)=some (litI .i64 m):=rfl
  have bo:=build_out a b m ce
  have bm:=build_mk f hO hS m a b m ce
  have hof:∀j x,([(2,out0 0 0 0 0,39),(0,f.cs,29)]:List Obj1)[j]?=some x→x∈D1:=fun j x hx=>hd2' (zX hx)
  have k6':Ai.load H2 none (.ptr 0 6)=some (crossA f.cross):=by
   rw[load_ptr (W2.get (0,f.cs,29) (zI _ (sub2.subset (hof 1 _ rfl))))];rfl
  have nk:nilck (.ptr 3 0)=some (.ptr 3 0):=rfl
  simp -implicitDefEqProofs only[c12,aW,↓aP,makes,reduceLT,reduceEqDiff,reduceAdd,core_box,hbf,hb,zA,zC,lA,lP,hp,fadr_ptr,k0,k2,k6,p2,lenV_strs,lenV_row,lenV_cross,ha,hb1,hce,core_build,bo,bm,hb21,h28,h29,k6',R9,core_nilck,nk,l11,st2]
  simp only[zD,fin,fn12,res,resL,resV,get_cons,get_nil,if_true,lR]
  rfl
 ·have hlit:∀k v,frz H6 (k+1) (.lit v)=some (.lit v,[]):=fun k v=>rfl
  rw[show frzF=14+1+1 from rfl,frz]
  simp only[mapL]
  rw[frz]
  simp only[mapL,litI,hlit,eM,eK,e7,e8,e9,zD,yF]
  rfl
end
section
set_option maxRecDepth 1000000 in
theorem awake13_says:saysTrue (callB (lookF tb) ovs (lookM mtl) mds 30 13 [] [])=true:=by kernel_rfl
theorem awake13_tells:∃H',cw 13 [] []=some (.ret (litB true),H'):=by
 obtain⟨H',h⟩:=saysTrue_some awake13_says
 exact⟨H',callW_some.2 ⟨30,callB_le 30 _ _ _ _ h⟩⟩
theorem awake13_call(H:List AO)(id:Nat):callV cw mds 13 [] H id=some (.val (litB true) none):=by
 obtain⟨H',h⟩:=awake13_tells
 exact callV_pure rfl rfl h rfl
end
end Go.Proofs.Ytcgbdndkfonphaa.Ai
