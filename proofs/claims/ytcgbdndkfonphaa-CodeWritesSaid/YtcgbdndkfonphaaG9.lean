/- Seat of layers 14 and 15: graphs; what each variable needs, by the document. No condition. -/
import Derived.Test.YtcgbdndkfonphaaG8
set_option linter.unusedSimpArgs false
set_option linter.unusedVariables false
set_option linter.unusedSectionVars false
open Nat (reduceLT reduceEqDiff reduceAdd)
namespace Go.Proofs.Ytcgbdndkfonphaa.Ai
open Go Go.Ai
variable {call:CallF}{mt:MtF}{md:FuncId→Md}
structure GraphA(A:AV)(g:List (List Int)):Prop where
 len:Ai.lenV A=some (litI .i64 g.length)
 el:∀(n:Nat)(row:List Int),g[n]?=some row→∃B,iadr 1 A (litI .i64 n)=some (.ip [B])∧RowA B row
 sl:∃e xs c,A=.sl e xs c
theorem graph_cat{L:Rows}(h:L.ok)(c:Option Nat):GraphA (catA L c) (L.map (·.2)):=by
 refine⟨by rw[lenV_cat];simp,fun n row hn=>?_,⟨_,_,_,rfl⟩⟩
 rw[xJ]at hn
 cases hp:L[n]? with
 | none=>rw[hp]at hn;cases hn
 | some p =>
  rw[hp]at hn
  simp only[yR,sI]at hn
  refine⟨p.1,by rw[iadr_cat,hp];rfl,?_⟩
  rw[←hn];exact h p (zX hp)
def needsP(g:List (List Int))(i k:Int):Bool:=decide (0≤i)&&decide (i<g.length)&&decide (0≤k)&&decide (k<g.length)&&(g.getD i.toNat []).contains k
theorem needs7g_loop(A B:AV)(g:List (List Int))(i:Nat)(k:Int)(row:List Int)(hi:iadr 1 A (litI .i64 i)=some (.ip [B]))(hB:RowA B row)(H:List AO)(hl:row.length≤1000000):∀(m n:Nat),m+n=row.length →
  loopW (codeW call mt md c41l0) [0,1,2,7] [(0,A),(1,litI .i64 i),(2,litI .i64 k),(7,litI .i64 n)] H =
   some (if(row.drop n).contains k=true then(.ret,[(6,litB true)],H)else(EX.exit 0,[(0,A),(1,litI .i64 i),(2,litI .i64 k),(7,litI .i64 row.length),(32,litB false)],H))
 | 0,n,h=>by
  have hn:n=row.length:=by omega
  subst hn
  rw[if_neg (by simp)]
  refine loopW_out ?_ (by simp)
  simp -implicitDefEqProofs only[c41l0,aW,↓aP,makes,reduceLT,reduceEqDiff,reduceAdd,hi,load_ip1,hB.lenV,zR]
 | m+1,n,h=>by
  have hn:n<row.length:=by omega
  have hg:row[n]?=some row[n]:=zE hn
  have hlt:(n:Int)<row.length:=by omega
  have hd:row.drop n=row[n]::row.drop (n+1):=zS hn
  rw[hd,List.contains_cons]
  by_cases h0:row[n]=k
  ·rw[if_pos (by simp[h0])]
   refine loopW_out ?_ (by simp)
   simp -implicitDefEqProofs only[c41l0,aW,↓aP,makes,reduceLT,reduceEqDiff,reduceAdd,hi,load_ip1,hB.lenV,hB.iadr hg,hlt,h0]
  ·have e:(k==row[n])=false:=by simp;exact fun h=>h0 h.symm
   rw[e,yP]
   refine loopW_round ?_ (needs7g_loop A B g i k row hi hB H hl m (n+1) (by omega))
   have h0':(row[n]==k)=false:=by simp[h0]
   simp -implicitDefEqProofs only[c41l0,aW,↓aP,makes,reduceLT,reduceEqDiff,reduceAdd,hi,load_ip1,hB.lenV,hB.iadr hg,hlt,h0',wrap1 (show n<4611686018427387904 by omega)]
theorem needs7g_tells{A:AV}{g:List (List Int)}(hA:GraphA A g)(i k:Int)(hl:∀r∈g,r.length≤1000000)(H:List AO):cw 41 [A,litI .i64 i,litI .i64 k] H=some (.ret (litB (needsP g i k)),H):=by
 refine cw_of fn41 (c:=c41) rfl rfl rfl rfl ?_
 by_cases h0:i<0
 ·rw[show needsP g i k=false by unfold needsP;rw[decide_eq_false (show ¬0≤i by omega)];rfl]
  simp -implicitDefEqProofs only[c41,aW,↓aP,makes,reduceLT,reduceEqDiff,reduceAdd,h0]
  rfl
 by_cases h1:i≥(g.length:Int)
 ·rw[show needsP g i k=false by unfold needsP;rw[decide_eq_false (show ¬i<(g.length:Int) by omega),yM];rfl]
  simp -implicitDefEqProofs only[c41,aW,↓aP,makes,reduceLT,reduceEqDiff,reduceAdd,h0,hA.len,h1]
  rfl
 by_cases h2:k<0
 ·rw[show needsP g i k=false by unfold needsP;rw[decide_eq_false (show ¬0≤k by omega),yM];rfl]
  simp -implicitDefEqProofs only[c41,aW,↓aP,makes,reduceLT,reduceEqDiff,reduceAdd,h0,hA.len,h1,Int.not_le.mp h1,h2]
  rfl
 by_cases h3:k≥(g.length:Int)
 ·rw[show needsP g i k=false by unfold needsP;rw[decide_eq_false (show ¬k<(g.length:Int) by omega),yM];rfl]
  simp -implicitDefEqProofs only[c41,aW,↓aP,makes,reduceLT,reduceEqDiff,reduceAdd,h0,hA.len,h1,Int.not_le.mp h1,h2,h3]
  rfl
 obtain⟨n,rfl⟩:∃n:Nat,i=n:=⟨i.toNat,by omega⟩
 have hn:n<g.length:=by omega
 have hg:g[n]?=some g[n]:=zE hn
 obtain⟨B,hi,hB⟩:=hA.el n _ hg
 have e:needsP g n k=g[n].contains k:=by
  unfold needsP
  rw[xF,zF,hg,decide_eq_true (show(0:Int)≤n by omega),decide_eq_true (show(n:Int)<g.length by omega),decide_eq_true (show 0≤k by omega),decide_eq_true (show k<g.length by omega)]
  rfl
 have L:=needs7g_loop (call:=cw) (mt:=lookM mtl) (md:=mds) A B g n k g[n] hi hB H (hl _ (zV hn)) g[n].length 0 (by omega)
 rw[zJ,show((0:Nat):Int)=0 from rfl]at L
 rw[e]
 by_cases ha:g[n].contains k=true
 ·rw[if_pos ha]at L
  rw[ha]
  simp -implicitDefEqProofs only[c41,aW,↓aP,makes,reduceLT,reduceEqDiff,reduceAdd,h0,hA.len,h1,h2,h3,L]
  rfl
 ·rw[if_neg ha]at L
  rw[yO.mpr ha]
  simp -implicitDefEqProofs only[c41,aW,↓aP,makes,reduceLT,reduceEqDiff,reduceAdd,h0,hA.len,h1,h2,h3,L]
  rfl
theorem needs7g_call{A:AV}{g:List (List Int)}(hA:GraphA A g)(i k:Int)(hl:∀r∈g,r.length≤1000000)(H:List AO)(id:Nat):callV cw mds 41 [A,litI .i64 i,litI .i64 k] H id=some (.val (litB (needsP g i k)) none):=by
 have h:=needs7g_tells hA i k hl []
 obtain⟨e,xs,c,rfl⟩:=hA.sl
 exact callV_pure rfl rfl h rfl
def NR(f:FlatV):List (List Int):=setN (needR f) (List.replicate f.names.length []) f.eqs
theorem NR_len(f:FlatV):(NR f).length=f.names.length:=by unfold NR;rw[setN_len];simp
theorem eqn_h0(q:Eqn):(List.drop 0 q.cs).head?=some (litI .i64 q.var):=rfl
theorem needR_len(f:FlatV)(F:FitsS f)(q:Eqn)(hq:q∈f.eqs)(K:KOk f q):(needR f q).length≤51:=by
 have h3:=F.args q hq
 have h4:=begF_len f F q K
 unfold needR
 simp only[zN]
 split<;>simp<;>omega
theorem NR_60(f:FlatV)(F:FitsS f)(G:GoodF f):∀r∈NR f,r.length≤60:=by
 refine setN_rows (needR f) (fun r=>r.length≤60) f.eqs _ (fun r hr=>by rw[vV hr];simp) fun q hq=>?_
 have:=needR_len f F q hq (G.kok q hq)
 omega
theorem needs27_loop(f:FlatV)(F:FitsS f)(G:GoodF f):∀(m i:Nat)(L:Rows),m+i=f.eqs.length→L.length=f.names.length→L.ok →
  ∃L':Rows,loopW (codeW cw (lookM mtl) mds c27l0) [1,3,4] [(1,.ptr 0 0),(3,.own 1 0 f.names.length 1 (some f.names.length)),(4,litI .i64 i)] [.row f.cs 29,.row (L.map (·.1)) 23] =
   some (.exit 0,[(1,.ptr 0 0),(3,.own 1 0 f.names.length 1 (some f.names.length)),(4,litI .i64 f.eqs.length),(13,litB false)],[.row f.cs 29,.row (L'.map (·.1)) 23])∧L'.length=f.names.length∧L'.ok∧L'.map (·.2)=setN (needR f) (L.map (·.2)) (f.eqs.drop i)
 | 0,i,L,h,hl,hok=>by
  have hi:i=f.eqs.length:=by omega
  subst hi
  have l3:Ai.load [.row f.cs 29,.row (L.map (·.1)) 23] none (.ptr 0 3)=some (eqsA f.eqs):=rfl
  refine⟨L,loopW_out ?_ (by simp),hl,hok,by rw[yB];rfl⟩
  simp -implicitDefEqProofs only[c27l0,aW,↓aP,makes,reduceLT,reduceEqDiff,reduceAdd,fadr_ptr,zB,l3,lenV_eqs,zR]
 | m+1,i,L,h,hl,hok=>by
  have hi:i<f.eqs.length:=by omega
  have hg:f.eqs[i]?=some f.eqs[i]:=zE hi
  have hlt:(i:Int)<f.eqs.length:=by omega
  have hmem:=zV hi
  rw[zS hi,setN]
  generalize f.eqs[i]=q at hg hmem
  have hv:=G.var q hmem
  obtain⟨B,hB,hc⟩:=need22_call f F q (F.args q hmem) (G.kok q hmem)
  have l3:Ai.load [.row f.cs 29,.row (L.map (·.1)) 23] none (.ptr 0 3)=some (eqsA f.eqs):=rfl
  have lA:Ai.load [.row f.cs 29,.row (L.map (·.1)) 23] (some 8) (.ptr 0 0)=some (.agg f.cs):=load_agg rfl rfl
  have lq:=load_ipA (H:=[.row f.cs 29,.row (L.map (·.1)) 23]) (show(Eqn.cs q).length=10 from rfl)
  have ia:=iadr_ownI (r:=1) (n:=f.names.length) (c:=some f.names.length) hv.1 hv.2
  obtain⟨eB,xB,cB,eqB⟩:=hB.cases
  have st:storeAt [.row f.cs 29,.row (L.map (·.1)) 23] 1 (.ptr 1 q.var.toNat) B=some [.row f.cs 29,.row (List.map (·.1) (L.set q.var.toNat (B,needR f q))) 23]:=by
   rw[store_ptr (r:=1) (cs:=L.map (·.1)) (t:=23) rfl (by simp;omega) (by rw[eqB];rfl) (by rw[eqB];rfl)]
   rw[uG];rfl
  obtain⟨L',L1,q1,q2,q3⟩:=needs27_loop f F G m (i+1) (L.set q.var.toNat (B,needR f q)) (by omega) (by simpa using hl) (fun p hp=>by
   rcases tB hp with hp|rfl
   ·exact hok p hp
   ·exact hB)
  refine⟨L',loopW_round ?_ L1,q1,q2,by rw[q3,uG]⟩
  simp -implicitDefEqProofs only[c27l0,aW,↓aP,makes,reduceLT,reduceEqDiff,reduceAdd,fadr_ptr,fadr_ip,zB,l3,lenV_eqs,hlt,iadr_eqs,hg,eqn_h0,lA,lq,hc,show mds 22=Md.pure from rfl,ia,st,wrap1 (show i<4611686018427387904 by have:=F.eqs;omega)]
theorem whole_rows{L:Rows}(h:L.ok):(L.map (·.1)).all whole=true:=by
 rw[yD]
 intro a ha
 obtain⟨p,hp,rfl⟩:=zW.1 ha
 exact(h p hp).whole
theorem needs27_call(f:FlatV)(F:FitsS f)(hG:goodOk f=true):∃A,GraphA A (NR f)∧∀H id,callV cw mds 27 [flatA f] H id=some (.val A none):=by
 have G:=goodF_of hG
 have hn:=F.names
 have l1:Ai.load [.row f.cs 29] none (.ptr 0 1)=some (strs f.names):=rfl
 have hm1:=mksV_ok (id:=1) (e:=1) (bytes:=24) (z:=[.sl 0 [] (some 0)]) (t:=23) (n:=f.names.length) (by omega) (by omega)
 rw[reps_one]at hm1
 obtain⟨L,L1,q1,q2,q3⟩:=needs27_loop f F G f.eqs.length 0 (List.replicate f.names.length (.sl 0 [] (some 0),[])) (by omega) (by simp) (fun p hp=>by rw[vV hp];exact RowA.nil)
 rw[show((0:Nat):Int)=0 from rfl,List.map_replicate]at L1
 rw[zJ,List.map_replicate]at q3
 have hg:=graph_cat q2 (some f.names.length)
 rw[q3]at hg
 refine⟨_,hg,fun H id=>?_⟩
 have told:cw 27 [flatA f] []=some (.ret (.own 1 0 f.names.length 1 (some f.names.length)),[.row f.cs 29,.row (L.map (·.1)) 23]):=by
  refine cw_of fn27 (c:=c27) rfl rfl rfl rfl ?_
  simp -implicitDefEqProofs only[c27,aW,↓aP,makes,reduceLT,reduceEqDiff,reduceAdd,core_box,flat_f,zA,zC,fadr_ptr,zB,l1,lenV_strs,hm1,L1]
  rfl
 have fz:=frz_own (H:=[.row f.cs 29,.row (L.map (·.1)) 23]) (r:=1) (n:=f.names.length) (k:=14) (cap:=some f.names.length) (cs:=L.map (·.1)) (t:=23) rfl (by simp[q1]) (whole_rows q2)
 rw[xW (by simp[q1]),yZ]at fz
 exact callV_frz rfl rfl told fz
end Go.Proofs.Ytcgbdndkfonphaa.Ai
namespace Go.Proofs.Ytcgbdndkfonphaa.Ai
open Go Go.Ai
variable {call:CallF}{mt:MtF}{md:FuncId→Md}
theorem mem_h5(m:MemV):(List.drop 5 m.cs).head?=some (litI .i64 m.next):=rfl
theorem mem_h6(m:MemV):(List.drop 6 m.cs).head?=some (litI .i64 m.guard):=rfl
theorem slope_h0(m:SlopeV):(List.drop 0 m.cs).head?=some (litI .i64 m.guard):=rfl
theorem slope_h1(m:SlopeV):(List.drop 1 m.cs).head?=some (litI .i64 m.var):=rfl
theorem cross_h0(m:CrossV):(List.drop 0 m.cs).head?=some (litI .i64 m.guard):=rfl
theorem cross_h1(m:CrossV):(List.drop 1 m.cs).head?=some (copsA m.ops):=rfl
theorem en0_loop(f:FlatV)(F:FitsS f)(v3:AV)(d:List Obj1):∀(k i:Nat)(A:AV)(l:List Int)(o:List Obj1)(H:List AO),k+i=f.mems.length→l.length≤1000*i+1000→SlX A l o→Own H (o++((0,f.cs,29)::d)) →
  ∃A' o' H',loopW (codeW cw (lookM mtl) mds c23l0) [1,3,4,5] [(1,.ptr 0 0),(3,v3),(4,A),(5,litI .i64 i)] H =
   some (.exit 0,[(1,.ptr 0 0),(3,v3),(4,A'),(5,litI .i64 f.mems.length),(28,litB false)],H')∧SlX A' (l++(f.mems.drop i).flatMap memL) o'∧Own H' (o'++((0,f.cs,29)::d))
 | 0,i,A,l,o,H,h,hl,S,O=>by
  have hi:i=f.mems.length:=by omega
  subst hi
  have l4:Ai.load H none (.ptr 0 4)=some (memsA f.mems):=own_load O (cs:=f.cs) (t:=29) (by simp) rfl
  refine⟨A,o,H,loopW_out ?_ (by simp),by rw[yB];simpa using S,O⟩
  simp -implicitDefEqProofs only[c23l0,aW,↓aP,makes,reduceLT,reduceEqDiff,reduceAdd,fadr_ptr,zB,l4,lenV_mems,zR]
 | k+1,i,A,l,o,H,h,hl,S,O=>by
  have hi:i<f.mems.length:=by omega
  have hg:f.mems[i]?=some f.mems[i]:=zE hi
  have hlt:(i:Int)<f.mems.length:=by omega
  have hb:=F.mems
  have hmm:=F.mres _ (zV hi)
  rw[zS hi,xG,←zU]
  generalize f.mems[i]=m at hg hmm
  have l4:Ai.load H none (.ptr 0 4)=some (memsA f.mems):=own_load O (cs:=f.cs) (t:=29) (by simp) rfl
  obtain⟨A2,o2,H2,ap,S2,O2⟩:=S.append O (RowA.of [m.next,m.guard] (some 2)) (by simp;omega)
  have l42:Ai.load H2 none (.ptr 0 4)=some (memsA f.mems):=own_load O2 (cs:=f.cs) (t:=29) (by simp) rfl
  obtain⟨A3,o3,H3,ap2,S3,O3⟩:=S2.append O2 (RowA.of m.resets none) (by simp;omega)
  obtain⟨A',o',H',L,S',O'⟩:=en0_loop f F v3 d k (i+1) A3 _ o3 H3 (by omega) (by simp;omega) S3 O3
  refine⟨A',o',H',loopW_round ?_ L,by rw[zU]at S';rw[memL];simp only[zU]at S' ⊢;exact S',O'⟩
  simp -implicitDefEqProofs only[c23l0,aW,↓aP,makes,reduceLT,reduceEqDiff,reduceAdd,fadr_ptr,fadr_ip,zB,zK,l4,l42,lenV_mems,hlt,iadr_mems,hg,mem_h5,mem_h6,mem_h7,core_bsl,bslV_2r,ap.tlS,ap2.tlS,wrap1 (show i<4611686018427387904 by omega)]
theorem en1_loop(f:FlatV)(m:ContV)(c:Nat)(v3 v6:AV)(hn:m.slopes.length≤100)(d:List Obj1)(hc:(c,m.cs,90)∈d):∀(k i:Nat)(A:AV)(l:List Int)(o:List Obj1)(H:List AO),k+i=m.slopes.length→l.length+2*k≤900000→SlX A l o→Own H (o++d) →
  ∃A' o' H',loopW (codeW cw (lookM mtl) mds c23l1) [1,3,4,6,7,8] [(1,.ptr 0 0),(3,v3),(4,A),(6,v6),(7,.ptr c 0),(8,litI .i64 i)] H =
   some (.exit 4,[(1,.ptr 0 0),(3,v3),(4,A'),(6,v6),(7,.ptr c 0),(8,litI .i64 m.slopes.length),(79,litB false)],H')∧SlX A' (l++(m.slopes.drop i).flatMap slopeL) o'∧Own H' (o'++d)
 | 0,i,A,l,o,H,h,hl,S,O=>by
  have hi:i=m.slopes.length:=by omega
  subst hi
  have l8:Ai.load H none (.ptr c 8)=some (slopesA m.slopes):=own_load O (cs:=m.cs) (t:=90) (by simp[hc]) rfl
  refine⟨A,o,H,loopW_out ?_ (by simp),by rw[yB];simpa using S,O⟩
  simp -implicitDefEqProofs only[c23l1,aW,↓aP,makes,reduceLT,reduceEqDiff,reduceAdd,fadr_ptr,zB,l8,lenV_slopes,zR]
 | k+1,i,A,l,o,H,h,hl,S,O=>by
  have hi:i<m.slopes.length:=by omega
  have hg:m.slopes[i]?=some m.slopes[i]:=zE hi
  have hlt:(i:Int)<m.slopes.length:=by omega
  rw[zS hi,xG,←zU]
  generalize m.slopes[i]=s at hg
  have l8:Ai.load H none (.ptr c 8)=some (slopesA m.slopes):=own_load O (cs:=m.cs) (t:=90) (by simp[hc]) rfl
  obtain⟨A2,o2,H2,ap,S2,O2⟩:=S.append O (RowA.of [s.guard,s.var] (some 2)) (by simp;omega)
  obtain⟨A',o',H',L,S',O'⟩:=en1_loop f m c v3 v6 hn d hc k (i+1) A2 _ o2 H2 (by omega) (by simp;omega) S2 O2
  refine⟨A',o',H',loopW_round ?_ L,S',O'⟩
  simp -implicitDefEqProofs only[c23l1,aW,↓aP,makes,reduceLT,reduceEqDiff,reduceAdd,fadr_ptr,fadr_ip,zB,zK,l8,lenV_slopes,hlt,iadr_slopes,hg,slope_h0,slope_h1,core_bsl,bslV_2r,ap.tlS,wrap1 (show i<4611686018427387904 by omega)]
theorem en2_loop(f:FlatV)(F:FitsS f)(v3:AV)(d:List Obj1):∀(k i:Nat)(A:AV)(l:List Int)(o:List Obj1)(H:List AO),k+i=f.conts.length→l.length+1000*k≤800000→SlX A l o→Own H (o++((0,f.cs,29)::d)) →
  ∃A' o' H',loopW (codeW cw (lookM mtl) mds c23l2) [1,3,4,6] [(1,.ptr 0 0),(3,v3),(4,A),(6,litI .i64 i)] H =
   some (.exit 2,[(1,.ptr 0 0),(3,v3),(4,A'),(6,litI .i64 f.conts.length),(57,litB false)],H')∧SlX A' (l++(f.conts.drop i).flatMap contL) o'∧Own H' (o'++((0,f.cs,29)::d))
 | 0,i,A,l,o,H,h,hl,S,O=>by
  have hi:i=f.conts.length:=by omega
  subst hi
  have l5:Ai.load H none (.ptr 0 5)=some (contsA f.conts):=own_load O (cs:=f.cs) (t:=29) (by simp) rfl
  refine⟨A,o,H,loopW_out ?_ (by simp),by rw[yB];simpa using S,O⟩
  simp -implicitDefEqProofs only[c23l2,aW,↓aP,makes,reduceLT,reduceEqDiff,reduceAdd,fadr_ptr,zB,l5,lenV_conts,zR]
 | k+1,i,A,l,o,H,h,hl,S,O=>by
  have hi:i<f.conts.length:=by omega
  have hg:f.conts[i]?=some f.conts[i]:=zE hi
  have hlt:(i:Int)<f.conts.length:=by omega
  have hb:=F.conts
  have hmm:=F.cres _ (zV hi)
  have hss:=F.slopes _ (zV hi)
  rw[zS hi,xG]
  generalize f.conts[i]=m at hg hmm hss
  have l5:Ai.load H none (.ptr 0 5)=some (contsA f.conts):=own_load O (cs:=f.cs) (t:=29) (by simp) rfl
  have hA:=load_ipA (H:=H) (show(ContV.cs m).length=9 from rfl)
  have O1:=own_newM O m.cs 90
  obtain⟨A2,o2,H2,ap,S2,O2⟩:=S.append O1 (RowA.of [m.var,m.guard] (some 2)) (by simp;omega)
  obtain⟨A3,o3,H3,ap2,S3,O3⟩:=S2.append O2 (RowA.of m.resets none) (by simp;omega)
  have L5:Ai.load (H++[.row m.cs 90]) none (.ptr H.length 5)=some (litI .i64 m.var):=own_load O1 (cs:=m.cs) (t:=90) (by simp) rfl
  have L6:Ai.load (H++[.row m.cs 90]) none (.ptr H.length 6)=some (litI .i64 m.guard):=own_load O1 (cs:=m.cs) (t:=90) (by simp) rfl
  have L7:Ai.load (H++[.row m.cs 90]) none (.ptr H.length 7)=some (rowC m.resets none):=own_load O1 (cs:=m.cs) (t:=90) (by simp) rfl
  have L72:Ai.load H2 none (.ptr H.length 7)=some (rowC m.resets none):=own_load O2 (cs:=m.cs) (t:=90) (by simp) rfl
  obtain⟨A4,o4,H4,Ls,S4,O4⟩:=en1_loop f m H.length v3 (litI .i64 i) (by omega) _ (zM ..) m.slopes.length 0 A3 _ o3 H3 (by omega) (by simp;omega) S3 O3
  rw[show((0:Nat):Int)=0 from rfl]at Ls
  rw[zJ]at S4
  have hsl:(m.slopes.flatMap slopeL).length=2*m.slopes.length:=by
   clear hss S4 Ls
   induction m.slopes with
   | nil=>rfl
   | cons s r ih=>simp[slopeL]at ih ⊢;omega
  obtain⟨A',o',H',L,S',O'⟩:=en2_loop f F v3 d k (i+1) A4 _ o4 H4 (by omega) (by simp at hsl ⊢;omega) S4 (own_drop O4)
  refine⟨A',o',H',loopW_round ?_ L,?_,O'⟩
  ·simp -implicitDefEqProofs only[c23l2,aW,↓aP,makes,reduceLT,reduceEqDiff,reduceAdd,fadr_ptr,fadr_ip,zB,zK,l5,lenV_conts,hlt,iadr_conts,hg,hA,cont_st,L5,L6,L7,L72,core_bsl,bslV_2r,ap.tlS,ap2.tlS,Ls,wrap1 (show i<4611686018427387904 by omega)]
  ·rw[contL]
   simp only[zU]at S' ⊢
   exact S'
theorem en3_loop(f:FlatV)(x:Nat)(m:CrossV)(hx:f.cross[x]?=some m)(v3:AV)(hn:m.ops.length≤100)(ha:∀o∈m.ops,isVS o=true→o.args≠[])(d:List Obj1):∀(k i:Nat)(A:AV)(l:List Int)(o:List Obj1)(H:List AO),k+i=m.ops.length→l.length+2*k≤900000→SlX A l o→Own H (o++((0,f.cs,29)::d)) →
  ∃A' o' H',loopW (codeW cw (lookM mtl) mds c23l3) [1,3,4,9,10] [(1,.ptr 0 0),(3,v3),(4,A),(9,litI .i64 x),(10,litI .i64 i)] H =
   some (.exit 8,[(1,.ptr 0 0),(3,v3),(4,A'),(9,litI .i64 x),(10,litI .i64 m.ops.length),(121,litB false)],H')∧SlX A' (l++(m.ops.drop i).flatMap opL) o'∧Own H' (o'++((0,f.cs,29)::d))
 | 0,i,A,l,o,H,h,hl,S,O=>by
  have hi:i=m.ops.length:=by omega
  subst hi
  have l6:Ai.load H none (.ptr 0 6)=some (crossA f.cross):=own_load O (cs:=f.cs) (t:=29) (by simp) rfl
  refine⟨A,o,H,loopW_out ?_ (by simp),by rw[yB];simpa using S,O⟩
  simp -implicitDefEqProofs only[c23l3,aW,↓aP,makes,reduceLT,reduceEqDiff,reduceAdd,fadr_ptr,fadr_ip,zB,l6,iadr_cross,hx,cross_h1,lenV_cops,zR]
 | k+1,i,A,l,o,H,h,hl,S,O=>by
  have hi:i<m.ops.length:=by omega
  have hg:m.ops[i]?=some m.ops[i]:=zE hi
  have hlt:(i:Int)<m.ops.length:=by omega
  have haa:=ha _ (zV hi)
  rw[zS hi,xG,←zU]
  generalize m.ops[i]=c at hg haa
  have l6:Ai.load H none (.ptr 0 6)=some (crossA f.cross):=own_load O (cs:=f.cs) (t:=29) (by simp) rfl
  have hA:=load_ipA (H:=H) (show(COpV.cs c).length=2 from rfl)
  have O1:=own_newM O c.cs 94
  have L0:Ai.load (H++[.row c.cs 94]) none (.ptr H.length 0)=some (litS c.op):=own_load O1 (cs:=c.cs) (t:=94) (by simp) rfl
  have L1:Ai.load (H++[.row c.cs 94]) none (.ptr H.length 1)=some (rowC c.args none):=own_load O1 (cs:=c.cs) (t:=94) (by simp) rfl
  have hw:=wrap1 (show i<4611686018427387904 by omega)
  cases hv:isVS c with
  | false =>
   obtain⟨A',o',H',L,S',O'⟩:=en3_loop f x m hx v3 hn ha d k (i+1) A l o _ (by omega) (by omega) S (own_drop O1)
   refine⟨A',o',H',loopW_round ?_ L,by rw[show opL c=[] by simp[opL,hv],zZ];exact S',O'⟩
   unfold isVS at hv
   rw[uP]at hv
   simp -implicitDefEqProofs only[c23l3,aW,↓aP,makes,reduceLT,reduceEqDiff,reduceAdd,fadr_ptr,fadr_ip,zB,zK,l6,iadr_cross,hx,cross_h1,lenV_cops,hlt,iadr_cops,hg,hA,cop_st,L0,bin_isS,hv.1,hv.2,hw]
  | true =>
   obtain⟨A2,o2,H2,ap,S2,O2⟩:=S.append O1 (RowA.of [c.args.headD 0] (some 1)) (by simp;omega)
   obtain⟨A',o',H',L,S',O'⟩:=en3_loop f x m hx v3 hn ha d k (i+1) A2 _ o2 _ (by omega) (by simp;omega) S2 (own_drop O2)
   refine⟨A',o',H',loopW_round ?_ L,by rw[show opL c=[c.args.headD 0] by simp[opL,hv]];exact S',O'⟩
   have hh:=head_row (haa hv)
   unfold isVS at hv
   cases h1:isS c.op [118,97,114]with
   | true=>simp -implicitDefEqProofs only[c23l3,aW,↓aP,makes,reduceLT,reduceEqDiff,reduceAdd,fadr_ptr,fadr_ip,zB,zK,l6,iadr_cross,hx,cross_h1,lenV_cops,hlt,iadr_cops,hg,hA,cop_st,L0,L1,hh,load_ip1,core_bsl,bslV_1r,ap.opS,bin_isS,h1,hw]
   | false =>
    rw[h1,yP]at hv
    simp -implicitDefEqProofs only[c23l3,aW,↓aP,makes,reduceLT,reduceEqDiff,reduceAdd,fadr_ptr,fadr_ip,zB,zK,l6,iadr_cross,hx,cross_h1,lenV_cops,hlt,iadr_cops,hg,hA,cop_st,L0,L1,hh,load_ip1,core_bsl,bslV_1r,ap.opS,bin_isS,h1,hv,hw]
theorem en4_loop(f:FlatV)(F:FitsS f)(hv:∀m∈f.cross,∀o∈m.ops,isVS o=true→o.args≠[])(v3:AV)(d:List Obj1):∀(k i:Nat)(A:AV)(l:List Int)(o:List Obj1)(H:List AO),k+i=f.cross.length→l.length+1000*k≤800000→SlX A l o→Own H (o++((0,f.cs,29)::d)) →
  ∃A' o' H',loopW (codeW cw (lookM mtl) mds c23l4) [1,3,4,9] [(1,.ptr 0 0),(3,v3),(4,A),(9,litI .i64 i)] H =
   some (.exit 6,[(1,.ptr 0 0),(3,v3),(4,A'),(9,litI .i64 f.cross.length),(101,litB false)],H')∧SlX A' (l++(f.cross.drop i).flatMap crossL) o'∧Own H' (o'++((0,f.cs,29)::d))
 | 0,i,A,l,o,H,h,hl,S,O=>by
  have hi:i=f.cross.length:=by omega
  subst hi
  have l6:Ai.load H none (.ptr 0 6)=some (crossA f.cross):=own_load O (cs:=f.cs) (t:=29) (by simp) rfl
  refine⟨A,o,H,loopW_out ?_ (by simp),by rw[yB];simpa using S,O⟩
  simp -implicitDefEqProofs only[c23l4,aW,↓aP,makes,reduceLT,reduceEqDiff,reduceAdd,fadr_ptr,zB,l6,lenV_cross,zR]
 | k+1,i,A,l,o,H,h,hl,S,O=>by
  have hi:i<f.cross.length:=by omega
  have hg:f.cross[i]?=some f.cross[i]:=zE hi
  have hlt:(i:Int)<f.cross.length:=by omega
  have hb:=F.cross
  have hmm:=F.ops _ (zV hi)
  have hvv:=hv _ (zV hi)
  rw[zS hi,xG]
  generalize f.cross[i]=m at hg hmm hvv
  have l6:Ai.load H none (.ptr 0 6)=some (crossA f.cross):=own_load O (cs:=f.cs) (t:=29) (by simp) rfl
  obtain⟨A2,o2,H2,ap,S2,O2⟩:=S.append O (RowA.of [m.guard] (some 1)) (by simp;omega)
  obtain⟨A4,o4,H4,Ls,S4,O4⟩:=en3_loop f i m hg v3 (by omega) hvv d m.ops.length 0 A2 _ o2 H2 (by omega) (by simp;omega) S2 O2
  rw[show((0:Nat):Int)=0 from rfl]at Ls
  rw[zJ]at S4
  have hsl:=opL_short m.ops
  obtain⟨A',o',H',L,S',O'⟩:=en4_loop f F hv v3 d k (i+1) A4 _ o4 H4 (by omega) (by simp at hsl ⊢;omega) S4 O4
  refine⟨A',o',H',loopW_round ?_ L,?_,O'⟩
  ·simp -implicitDefEqProofs only[c23l4,aW,↓aP,makes,reduceLT,reduceEqDiff,reduceAdd,fadr_ptr,fadr_ip,zB,zK,l6,lenV_cross,hlt,iadr_cross,hg,cross_h0,core_bsl,bslV_1r,ap.opS,Ls,wrap1 (show i<4611686018427387904 by omega)]
  ·rw[crossL]
   simp only[zU,yA,xC]at S' ⊢
   exact S'
def endB:List Bool→List Int→List Bool
 | bs_,[]=>bs_
 | bs_,x::r=>endB (if 0≤x then bs_.set x.toNat true else bs_) r
theorem endB_len:∀(l:List Int)(bs_:List Bool),(endB bs_ l).length=bs_.length
 | [],_=>rfl
 | x::r,bs_=>by rw[endB,endB_len r];split<;>simp
theorem en5_loop(n:Nat)(d:List Obj1)(A:AV)(l:List Int)(o:List Obj1)(S:SlX A l o)(hl:l.length≤1000000)(hr:∀x∈l,x<(n:Int)):∀(k i:Nat)(bs_:List Bool)(H:List AO),k+i=l.length→bs_.length=n→Own H (o++((1,cellsB bs_,4)::d)) →
  ∃H',loopW (codeW cw (lookM mtl) mds c23l5) [3,4,12] [(3,.own 1 0 n 1 (some n)),(4,A),(12,litI .i64 i)] H =
   some (.exit 10,[(3,.own 1 0 n 1 (some n)),(4,A),(12,litI .i64 l.length),(151,litB false)],H')∧Own H' (o++((1,cellsB (endB bs_ (l.drop i)),4)::d))
 | 0,i,bs_,H,h,hb,O=>by
  have hi:i=l.length:=by omega
  subst hi
  refine⟨H,loopW_out ?_ (by simp),by rw[yB];exact O⟩
  simp -implicitDefEqProofs only[c23l5,aW,↓aP,makes,reduceLT,reduceEqDiff,reduceAdd,S.lenV,zR]
 | k+1,i,bs_,H,h,hb,O=>by
  have hi:i<l.length:=by omega
  have hg:l[i]?=some l[i]:=zE hi
  have hlt:(i:Int)<l.length:=by omega
  have hx:=hr _ (zV hi)
  obtain⟨c,hc1,hc2⟩:=(reads_slx S O).el i _ hg
  rw[zS hi,endB]
  generalize l[i]=x at hg hx hc2
  have hw:=wrap1 (show i<4611686018427387904 by omega)
  by_cases h0:0≤x
  ·rw[if_pos h0]
   have ia:=iadr_ownI (r:=1) (n:=n) (c:=some n) h0 hx
   have O1:Own H ((1,cellsB bs_,4)::(o++d)):=O.perm vL
   have st:storeAt H 1 (.ptr 1 x.toNat) (litB true)=some (setL H 1 (.row (cellsB (bs_.set x.toNat true)) 4)):=by
    rw[store_ptr O1.head (by simp[cellsB];omega) rfl rfl]
    simp[cellsB]
   have O2:=(O1.set (cellsB (bs_.set x.toNat true)) 4).perm vL.symm
   obtain⟨H',L,O'⟩:=en5_loop n d A l o S hl hr k (i+1) _ _ (by omega) (by simpa using hb) O2
   refine⟨H',loopW_round ?_ L,O'⟩
   simp -implicitDefEqProofs only[c23l5,aW,↓aP,makes,reduceLT,reduceEqDiff,reduceAdd,S.lenV,hlt,hc1,hc2,h0,ia,st,hw]
  ·rw[if_neg h0]
   obtain⟨H',L,O'⟩:=en5_loop n d A l o S hl hr k (i+1) bs_ H (by omega) hb O
   refine⟨H',loopW_round ?_ L,O'⟩
   simp -implicitDefEqProofs only[c23l5,aW,↓aP,makes,reduceLT,reduceEqDiff,reduceAdd,S.lenV,hlt,hc1,hc2,h0,hw]
def endF(f:FlatV):List Bool:=endB (List.replicate f.names.length false) (endL f)
theorem end_call(f:FlatV)(F:FitsS f)(hG:goodOk f=true)(H:List AO)(id:Nat):callV cw mds 23 [flatA f] H id=some (.val (boolsC (endF f) (some f.names.length)) none):=by
 have G:=goodF_of hG
 have hn:=F.names
 have e1:=F.mems;have e2:=F.conts;have e3:=F.cross;have e4:=F.outs;have e5:=F.again
 have hel:=endL_len f F
 have l1:Ai.load [.row f.cs 29] none (.ptr 0 1)=some (strs f.names):=rfl
 have hm1:=mksV_ok (id:=1) (e:=1) (bytes:=1) (z:=[litB false]) (t:=4) (n:=f.names.length) (by omega) (by omega)
 rw[reps_one]at hm1
 have hz:cellsB (List.replicate f.names.length false)=List.replicate f.names.length (litB false):=by simp[cellsB]
 have O0:Own [AO.row f.cs 29,.row (List.replicate f.names.length (litB false)) 4] ([]++[(0,f.cs,29),(1,cellsB (List.replicate f.names.length false),4)]):=by
  rw[hz]
  refine⟨by simp,fun x hx=>?_⟩
  simp only[yF,zO,yG,or_false]at hx
  rcases hx with rfl|rfl<;>rfl
 have l2:Ai.load [.row f.cs 29,.row (List.replicate f.names.length (litB false)) 4] none (.ptr 0 2)=some (rowC f.outs none):=rfl
 have l7:Ai.load [.row f.cs 29,.row (List.replicate f.names.length (litB false)) 4] none (.ptr 0 7)=some (rowC f.again none):=rfl
 obtain⟨A1,o1,H1,ap1,S1,O1⟩:=(SlX.nil 0).append O0 (RowA.of f.outs none) (by simp;omega)
 have l71:Ai.load H1 none (.ptr 0 7)=some (rowC f.again none):=own_load O1 (cs:=f.cs) (t:=29) (by simp) rfl
 obtain⟨A2,o2,H2,ap2,S2,O2⟩:=S1.append O1 (RowA.of f.again none) (by simp;omega)
 simp only[zC,zA,zB,reduceAdd]at ap1
 rw[yF]at S2
 obtain⟨A3,o3,H3,L1,S3,O3⟩:=en0_loop f F (.own 1 0 f.names.length 1 (some f.names.length)) _ f.mems.length 0 A2 _ o2 H2 (by omega) (by simp;omega) S2 O2
 have k1:(f.mems.flatMap memL).length≤100*f.mems.length:=by
  have hm:=F.mres
  generalize f.mems=ms at hm
  induction ms with
  | nil=>simp
  | cons m r ih =>
   have h1:=hm m (zM ..)
   have h2:=ih fun x hx=>hm x (zI _ hx)
   simp only[xG,zN,memL,zC,zA]at h2 ⊢;omega
 have k2:(f.conts.flatMap contL).length≤300*f.conts.length:=by
  have hm:=F.cres
  have hs:=F.slopes
  generalize f.conts=ms at hm hs
  induction ms with
  | nil=>simp
  | cons m r ih =>
   have h1:=hm m (zM ..)
   have h3:=hs m (zM ..)
   have h2:=ih (fun x hx=>hm x (zI _ hx)) (fun x hx=>hs x (zI _ hx))
   have hsl:(m.slopes.flatMap slopeL).length=2*m.slopes.length:=by
    clear h1 h3 h2 hm hs ih
    induction m.slopes with
    | nil=>rfl
    | cons s r ih=>simp[slopeL]at ih ⊢;omega
   simp only[xG,zN,contL,zC,zA,hsl]at h2 ⊢;omega
 obtain⟨A4,o4,H4,L2,S4,O4⟩:=en2_loop f F (.own 1 0 f.names.length 1 (some f.names.length)) _ f.conts.length 0 A3 _ o3 H3 (by omega) (by rw[zJ,zN,zN];omega) S3 O3
 obtain⟨A5,o5,H5,L3,S5,O5⟩:=en4_loop f F (fun m hm o ho hv=>by obtain⟨x,r,e,_⟩:=G.vs m hm o ho hv;rw[e];simp) (.own 1 0 f.names.length 1 (some f.names.length)) _ f.cross.length 0 A4 _ o4 H4 (by omega) (by rw[zJ,zJ,zN,zN,zN];omega) S4 O4
 rw[show((0:Nat):Int)=0 from rfl]at L1 L2 L3
 rw[zJ,zJ,zJ]at S5
 change SlX A5 (endL f) o5 at S5
 have O5':Own H5 (o5++((1,cellsB (List.replicate f.names.length false),4)::[(0,f.cs,29)])):=O5.perm (List.Perm.append_left _ (List.Perm.swap ..))
 obtain⟨H6,L4,O6⟩:=en5_loop f.names.length _ A5 (endL f) o5 S5 hel (endL_rng f G) (endL f).length 0 _ H5 (by omega) (by simp) O5'
 rw[show((0:Nat):Int)=0 from rfl]at L4
 rw[zJ]at O6
 change Own H6 (o5++((1,cellsB (endF f),4)::[(0,f.cs,29)]))at O6
 have told:cw 23 [flatA f] []=some (.ret (.own 1 0 f.names.length 1 (some f.names.length)),H6):=by
  refine cw_of fn23 (c:=c23) rfl rfl rfl rfl ?_
  simp -implicitDefEqProofs only[c23,aW,↓aP,makes,reduceLT,reduceEqDiff,reduceAdd,core_box,flat_f,zA,zC,fadr_ptr,zB,reduceAdd,l1,lenV_strs,hm1,l2,l7,l71,ap1.tlS,ap2.tlS,L1,L2,L3,L4]
  rfl
 have hb:(cellsB (endF f)).all whole=true:=by
  rw[yD];intro a ha
  obtain⟨b,_,rfl⟩:=zW.1 ha;rfl
 have hlen:(cellsB (endF f)).length=f.names.length:=by simp[cellsB,endF,endB_len]
 have fz:=frz_own (H:=H6) (r:=1) (n:=f.names.length) (k:=14) (cap:=some f.names.length) (cs:=cellsB (endF f)) (t:=4) (O6.get (1,cellsB (endF f),4) (by simp)) (by omega) hb
 rw[xW (by omega)]at fz
 have e:List.map (fun a=>[a]) (cellsB (endF f))=(endF f).map fun b=>[litB b]:=by simp[cellsB]
 rw[e]at fz
 exact callV_frz rfl rfl told fz
end Go.Proofs.Ytcgbdndkfonphaa.Ai
namespace Go.Proofs.Ytcgbdndkfonphaa.Ai
open Go Go.Ai
variable {call:CallF}{mt:MtF}{md:FuncId→Md}
theorem place40_loop(B:AV)(r:List Int)(hB:RowA B r)(v:Int)(H:List AO)(hl:r.length≤1000000):∀(m n:Nat),m+n=r.length →
  loopW (codeW call mt md c40l0) [0,1,5] [(0,B),(1,litI .i64 v),(5,litI .i64 n)] H =
   some (if placeF v n (r.drop n) = -1 then(EX.exit 0,[(0,B),(1,litI .i64 v),(5,litI .i64 r.length),(9,litB false)],H)else(.ret,[(4,litI .i64 (placeF v n (r.drop n)))],H))
 | 0,n,h=>by
  have hn:n=r.length:=by omega
  subst hn
  rw[if_pos (by simp[placeF])]
  refine loopW_out ?_ (by simp)
  simp -implicitDefEqProofs only[c40l0,aW,↓aP,makes,reduceLT,reduceEqDiff,reduceAdd,hB.lenV,zR]
 | m+1,n,h=>by
  have hn:n<r.length:=by omega
  have hg:r[n]?=some r[n]:=zE hn
  have hlt:(n:Int)<r.length:=by omega
  have hd:r.drop n=r[n]::r.drop (n+1):=zS hn
  rw[hd,placeF]
  by_cases h0:r[n]=v
  ·rw[if_pos h0,if_neg (by omega)]
   refine loopW_out ?_ (by simp)
   simp -implicitDefEqProofs only[c40l0,aW,↓aP,makes,reduceLT,reduceEqDiff,reduceAdd,hB.lenV,hB.iadr hg,hlt,h0]
  ·rw[if_neg h0]
   refine loopW_round ?_ (place40_loop B r hB v H hl m (n+1) (by omega))
   have h0':(r[n]==v)=false:=by simp[h0]
   simp -implicitDefEqProofs only[c40l0,aW,↓aP,makes,reduceLT,reduceEqDiff,reduceAdd,hB.lenV,hB.iadr hg,hlt,h0',wrap1 (show n<4611686018427387904 by omega)]
theorem place40_call{B:AV}{r:List Int}(hB:RowA B r)(v:Int)(hl:r.length≤1000000)(H:List AO)(id:Nat):callV cw mds 40 [B,litI .i64 v] H id=some (.val (litI .i64 (placeI r v)) none):=by
 have h:cw 40 [B,litI .i64 v] []=some (.ret (litI .i64 (placeI r v)),[]):=by
  refine cw_of fn40 (c:=c40) rfl rfl rfl rfl ?_
  have L:=place40_loop (call:=cw) (mt:=lookM mtl) (md:=mds) B r hB v [] hl r.length 0 (by omega)
  rw[zJ,show((0:Nat):Int)=0 from rfl]at L
  by_cases ha:placeF v 0 r = -1
  ·rw[if_pos ha]at L
   rw[show placeI r v = -1 from ha]
   simp -implicitDefEqProofs only[c40,aW,↓aP,makes,reduceLT,reduceEqDiff,reduceAdd,L]
   rfl
  ·rw[if_neg ha]at L
   simp -implicitDefEqProofs only[c40,aW,↓aP,makes,reduceLT,reduceEqDiff,reduceAdd,L]
   rfl
 obtain⟨e,xs,c,rfl⟩:=hB.cases
 exact callV_pure rfl rfl h rfl
def maxR(g:List (List Int))(v:Int):Nat→List Int→Int→Int
 | _,[],acc=>acc
 | i,o::r,acc=>maxR g v (i+1) r (if needsP g o v=true then max acc i else acc)
def lastR(f:FlatV)(ord:List Int)(v:Nat):Int:=if(endF f).getD v false=true then ord.length else maxR (NR f) v 0 ord (placeI ord v)
def lastsR(f:FlatV)(ord:List Int):List Int:=(List.range f.names.length).map (lastR f ord)
theorem la0_loop(f:FlatV)(A B E:AV)(g:List (List Int))(hA:GraphA A g)(hg6:∀r∈g,r.length≤1000000)(ord:List Int)(hB:RowA B ord)(hl:ord.length≤1000000)(n v:Nat)(hv:v<n):∀(m i:Nat)(out:List Int)(acc:Int),m+i=ord.length→out.length=n→out.getD v 0=acc →
  loopW (codeW cw (lookM mtl) mds c21l0) [1,2,5,6,7,8,9] [(1,B),(2,.ptr 0 0),(5,A),(6,E),(7,.own 1 0 n 1 (some n)),(8,litI .i64 v),(9,litI .i64 i)] [.row f.cs 29,.row (cellsI out) 3] =
   some (.exit 2,[(1,B),(2,.ptr 0 0),(5,A),(6,E),(7,.own 1 0 n 1 (some n)),(8,litI .i64 v),(9,litI .i64 ord.length),(34,litB false)],[.row f.cs 29,.row (cellsI (out.set v (maxR g v i (ord.drop i) acc))) 3])
 | 0,i,out,acc,h,ho,ha=>by
  have hi:i=ord.length:=by omega
  subst hi
  rw[yB,maxR,←ha]
  rw[show out.set v (out.getD v 0)=out by
   rw[zF,zE (by omega)];exact vF _]
  refine loopW_out ?_ (by simp)
  simp -implicitDefEqProofs only[c21l0,aW,↓aP,makes,reduceLT,reduceEqDiff,reduceAdd,hB.lenV,zR]
 | m+1,i,out,acc,h,ho,ha=>by
  have hi:i<ord.length:=by omega
  have hg:ord[i]?=some ord[i]:=zE hi
  have hlt:(i:Int)<ord.length:=by omega
  rw[zS hi,maxR]
  generalize ord[i]=o at hg
  have hc:=needs7g_call hA o v hg6
  have hw:=wrap1 (show i<4611686018427387904 by omega)
  cases hnp:needsP g o v with
  | false =>
   rw[hnp]at hc
   rw[if_neg (by simp)]
   refine loopW_round ?_ (la0_loop f A B E g hA hg6 ord hB hl n v hv m (i+1) out acc (by omega) ho ha)
   simp -implicitDefEqProofs only[c21l0,aW,↓aP,makes,reduceLT,reduceEqDiff,reduceAdd,hB.lenV,hlt,hB.iadr hg,hc,hw]
  | true =>
   rw[hnp]at hc
   rw[if_pos rfl]
   have ia:=iadr_ownI (r:=1) (n:=n) (c:=some n) (x:=(v:Int)) (by omega) (by omega)
   rw[xF]at ia
   have lo:Ai.load [.row f.cs 29,.row (cellsI out) 3] none (.ptr 1 v)=some (litI .i64 acc):=by
    rw[load_ptr (r:=1) (cs:=cellsI out) (t:=3) rfl,cellsI_at,Ord.getI (by omega),ha];rfl
   have st:storeAt [.row f.cs 29,.row (cellsI out) 3] 1 (.ptr 1 v) (litI .i64 (max acc i))=some [.row f.cs 29,.row (cellsI (out.set v (max acc i))) 3]:=by
    rw[store_ptr (r:=1) (cs:=cellsI out) (t:=3) rfl (by rw[cellsI_len];omega) rfl rfl]
    have e:(cellsI out).set v (litI .i64 (max acc i))=cellsI (out.set v (max acc i)):=by simp[cellsI]
    rw[e];rfl
   have ih:=la0_loop f A B E g hA hg6 ord hB hl n v hv m (i+1) (out.set v (max acc i)) (max acc i) (by omega) (by simpa using ho) (by rw[zF,yK (by omega)];rfl)
   rw[wG]at ih
   refine loopW_round ?_ ih
   simp -implicitDefEqProofs only[c21l0,aW,↓aP,makes,reduceLT,reduceEqDiff,reduceAdd,hB.lenV,hlt,hB.iadr hg,hc,ia,lo,core_maxi2 49 50 .i64 acc i,st,hw]
theorem la1_loop(f:FlatV)(A B:AV)(hA:GraphA A (NR f))(hg6:∀r∈NR f,r.length≤1000000)(hnn:f.names.length≤1000000)(ord:List Int)(hB:RowA B ord)(hl:ord.length≤1000000):∀(m v:Nat)(out:List Int),m+v=f.names.length→out.length=f.names.length→out.take v=(lastsR f ord).take v →
  loopW (codeW cw (lookM mtl) mds c21l1) [1,2,5,6,7,8] [(1,B),(2,.ptr 0 0),(5,A),(6,boolsC (endF f) (some f.names.length)),(7,.own 1 0 f.names.length 1 (some f.names.length)),(8,litI .i64 v)] [.row f.cs 29,.row (cellsI out) 3] =
   some (.exit 0,[(1,B),(2,.ptr 0 0),(5,A),(6,boolsC (endF f) (some f.names.length)),(7,.own 1 0 f.names.length 1 (some f.names.length)),(8,litI .i64 f.names.length),(22,litB false)],[.row f.cs 29,.row (cellsI (lastsR f ord)) 3])
 | 0,v,out,h,ho,ht=>by
  have hv:v=f.names.length:=by omega
  subst hv
  have e:out=lastsR f ord:=by
   rw[xW (by omega),xW (by simp[lastsR])]at ht;exact ht
  rw[e]
  have l1:Ai.load [.row f.cs 29,.row (cellsI (lastsR f ord)) 3] none (.ptr 0 1)=some (strs f.names):=rfl
  refine loopW_out ?_ (by simp)
  simp -implicitDefEqProofs only[c21l1,aW,↓aP,makes,reduceLT,reduceEqDiff,reduceAdd,fadr_ptr,zB,l1,lenV_strs,zR]
 | m+1,v,out,h,ho,ht=>by
  have hv:v<f.names.length:=by omega
  have hlt:(v:Int)<f.names.length:=by omega
  have l1:∀x,Ai.load [.row f.cs 29,.row x 3] none (.ptr 0 1)=some (strs f.names):=fun _=>rfl
  have hp:=place40_call hB v hl
  have ia:=iadr_ownI (r:=1) (n:=f.names.length) (c:=some f.names.length) (x:=(v:Int)) (by omega) (by omega)
  rw[xF]at ia
  have sto:∀(out:List Int)(x:Int),out.length=f.names.length→storeAt [.row f.cs 29,.row (cellsI out) 3] 1 (.ptr 1 v) (litI .i64 x)=some [.row f.cs 29,.row (cellsI (out.set v x)) 3]:=by
   intro out x ho
   rw[store_ptr (r:=1) (cs:=cellsI out) (t:=3) rfl (by rw[cellsI_len];omega) rfl rfl]
   have e:(cellsI out).set v (litI .i64 x)=cellsI (out.set v x):=by simp[cellsI]
   rw[e];rfl
  have s1:=sto out (placeI ord v) ho
  have L0:=la0_loop f A B (boolsC (endF f) (some f.names.length)) (NR f) hA hg6 ord hB hl f.names.length v hv ord.length 0 (out.set v (placeI ord v)) (placeI ord v) (by omega) (by simpa using ho) (by rw[zF,yK (by omega)];rfl)
  rw[show((0:Nat):Int)=0 from rfl,zJ,wG]at L0
  have hE:iadr 1 (boolsC (endF f) (some f.names.length)) (litI .i64 v)=some (.ip [litB ((endF f).getD v false)]):=by
   have hl:(endF f).length=f.names.length:=by simp[endF,endB_len]
   rw[iadr_bools,zF,zE (by omega)];rfl
  have hw:=wrap1 (show v<4611686018427387904 by omega)
  have tk:∀x,x=lastR f ord v→(out.set v x).take (v+1)=(lastsR f ord).take (v+1):=by
   intro x hx
   rw[tG,yK (by omega),List.take_set_of_le (by omega),ht,tG]
   congr 1
   simp[lastsR,hv,hx]
  cases he:(endF f).getD v false with
  | true =>
   rw[he]at hE
   have s2:=sto (out.set v (maxR (NR f) v 0 ord (placeI ord v))) ord.length (by simpa using ho)
   rw[wG]at s2
   have hL:lastR f ord v=ord.length:=by unfold lastR;rw[if_pos he]
   refine loopW_round ?_ (la1_loop f A B hA hg6 hnn ord hB hl m (v+1) (out.set v ord.length) (by omega) (by simpa using ho) (tk _ hL.symm))
   simp -implicitDefEqProofs only[c21l1,aW,↓aP,makes,reduceLT,reduceEqDiff,reduceAdd,fadr_ptr,zB,l1,lenV_strs,hlt,hp,ia,s1,L0,hE,load_ip1,hB.lenV,s2,hw]
  | false =>
   rw[he]at hE
   have hL:lastR f ord v=maxR (NR f) v 0 ord (placeI ord v):=by unfold lastR;rw[if_neg (by rw[he];simp)]
   refine loopW_round ?_ (la1_loop f A B hA hg6 hnn ord hB hl m (v+1) (out.set v (maxR (NR f) v 0 ord (placeI ord v))) (by omega) (by simpa using ho) (tk _ hL.symm))
   simp -implicitDefEqProofs only[c21l1,aW,↓aP,makes,reduceLT,reduceEqDiff,reduceAdd,fadr_ptr,zB,l1,lenV_strs,hlt,hp,ia,s1,L0,hE,load_ip1,hw]
theorem lasts_call(f:FlatV)(F:FitsS f)(hG:goodOk f=true){B:AV}{ord:List Int}(hB:RowA B ord)(hl:ord.length≤1000000)(H:List AO)(id:Nat) :
  callV cw mds 21 [flatA f,B] H id=some (.val (rowC (lastsR f ord) (some f.names.length)) none):=by
 have G:=goodF_of hG
 have hn:=F.names
 obtain⟨A,hA,hN⟩:=needs27_call f F hG
 have hNc:∀H id,callV cw mds 27 [.agg f.cs] H id=some (.val A none):=hN
 have hEc:∀H id,callV cw mds 23 [.agg f.cs] H id=some (.val (boolsC (endF f) (some f.names.length)) none):=end_call f F hG
 have lA:Ai.load [.row f.cs 29] (some 8) (.ptr 0 0)=some (.agg f.cs):=load_agg rfl rfl
 have l1:Ai.load [.row f.cs 29] none (.ptr 0 1)=some (strs f.names):=rfl
 have hm1:=mksV_ok (id:=1) (e:=1) (bytes:=8) (z:=[litI .i64 0]) (t:=3) (n:=f.names.length) (by omega) (by omega)
 rw[reps_one]at hm1
 have hz:cellsI (List.replicate f.names.length 0)=List.replicate f.names.length (litI .i64 0):=by simp[cellsI]
 have L:=la1_loop f A B hA (fun r hr=>by have:=NR_60 f F G r hr;omega) (by omega) ord hB hl f.names.length 0 (List.replicate f.names.length 0) (by omega) (by simp) rfl
 rw[hz,show((0:Nat):Int)=0 from rfl]at L
 have hw:[flatA f,B].all wholeA=true:=by obtain⟨e,xs,c,rfl⟩:=hB.cases;rfl
 have hlen:(lastsR f ord).length=f.names.length:=by simp[lastsR]
 have told:cw 21 [flatA f,B] []=some (.ret (.own 1 0 f.names.length 1 (some f.names.length)),[.row f.cs 29,.row (cellsI (lastsR f ord)) 3]):=by
  refine cw_of fn21 (c:=c21) rfl rfl rfl rfl ?_
  simp -implicitDefEqProofs only[c21,aW,↓aP,makes,reduceLT,reduceEqDiff,reduceAdd,core_box,flat_f,zA,zC,lA,hNc,hEc,fadr_ptr,zB,l1,lenV_strs,hm1,L]
  rfl
 have fz:=Ord.frz_ints (H:=[.row f.cs 29,.row (cellsI (lastsR f ord)) 3]) (p:=1) (k:=14) (c:=some f.names.length) (l:=lastsR f ord) (z:=[]) (t:=3) (n:=f.names.length) (by rw[zZ];rfl) rfl hlen.symm
 exact callV_frz rfl hw told fz
end Go.Proofs.Ytcgbdndkfonphaa.Ai
namespace Go.Proofs.Ytcgbdndkfonphaa.Ai
open Go Go.Ai
variable {call:CallF}{mt:MtF}{md:FuncId→Md}
def freeP(g:List (List Int))(done:List Bool)(i k:Nat):Bool:=done.getD k false||!needsP g i k
def readyP(g:List (List Int))(done:List Bool)(i:Nat):Bool:=!(done.getD i false)&&(List.range g.length).all (freeP g done i)
def nextI(g:List (List Int))(done:List Bool):Option Nat:=(List.range g.length).find? (readyP g done)
def kR(g:List (List Int)):Nat→List Bool→List Int→Option (List Int)
 | 0,_,out=>some out
 | m+1,done,out=>match nextI g done with
  | none=>none
  | some i=>kR g m (done.set i true) (out++[(i:Int)])
def ordRef(g:List (List Int)):Option (List Int):=kR g g.length (List.replicate g.length false) []
theorem drop_range{n i:Nat}(h:i<n):(List.range n).drop i=i::(List.range n).drop (i+1):=by
 rw[zS (by simpa using h)];simp
theorem load_B{H:List AO}{d:List Obj1}{p:Nat}{l:List Bool}{v:Nat}(O:Own H d)(hm:(p,cellsB l,4)∈d)(hv:v<l.length):Ai.load H none (.ptr p v)=some (litB (l.getD v false)) :=
 own_load O hm (by simp[cellsB,zF,zE hv])
theorem ro0_loop(A:AV)(g:List (List Int))(hA:GraphA A g)(hl:∀r∈g,r.length≤1000000)(hn:g.length≤1000000)(done:List Bool)(hd:done.length=g.length)(v5 v6:AV)(i:Nat)(H:List AO)(d:List Obj1)(O:Own H d)(hm:(0,cellsB done,4)∈d):∀(m k:Nat)(rdy:Bool),m+k=g.length →
  ∃k':Int,loopW (codeW cw (lookM mtl) mds c26l0) [0,4,5,6,7,8,9] [(0,A),(4,.own 0 0 g.length 1 (some g.length)),(5,v5),(6,v6),(7,litI .i64 i),(8,litB rdy),(9,litI .i64 k)] H =
   some (.exit 4,[(0,A),(4,.own 0 0 g.length 1 (some g.length)),(5,v5),(6,v6),(7,litI .i64 i),(8,litB (rdy&&((List.range g.length).drop k).all (freeP g done i))),(9,litI .i64 k'),(39,litB false)],H)
 | 0,k,rdy,h=>by
  have hk:k=g.length:=by omega
  subst hk
  refine⟨g.length,loopW_out ?_ (by simp)⟩
  ·rw[tF (by simp),xX,xY]
   simp -implicitDefEqProofs only[c26l0,aW,↓aP,makes,reduceLT,reduceEqDiff,reduceAdd,hA.len,zR]
 | m+1,k,rdy,h=>by
  have hk:k<g.length:=by omega
  have hlt:(k:Int)<g.length:=by omega
  cases rdy with
  | false =>
   refine⟨k,loopW_out ?_ (by simp)⟩
   ·rw[zP]
    simp -implicitDefEqProofs only[c26l0,aW,↓aP,makes,reduceLT,reduceEqDiff,reduceAdd,hA.len,hlt]
  | true =>
   have ia:=iadr_ownI (r:=0) (n:=g.length) (c:=some g.length) (x:=(k:Int)) (by omega) (by omega)
   rw[xF]at ia
   have lb:=load_B O hm (v:=k) (by omega)
   have hc:=needs7g_call hA i k hl
   obtain⟨k',ih⟩:=ro0_loop A g hA hl hn done hd v5 v6 i H d O hm m (k+1) (freeP g done i k) (by omega)
   have hw:=wrap1 (show k<4611686018427387904 by omega)
   refine⟨k',?_⟩
   rw[drop_range hk,xE,zQ]
   refine loopW_round ?_ ih
   unfold freeP
   cases hdn:done.getD k false with
   | true =>
    rw[hdn]at lb
    simp -implicitDefEqProofs only[c26l0,aW,↓aP,makes,reduceLT,reduceEqDiff,reduceAdd,hA.len,hlt,ia,lb,hw]
   | false =>
    rw[hdn]at lb
    simp -implicitDefEqProofs only[c26l0,aW,↓aP,makes,reduceLT,reduceEqDiff,reduceAdd,hA.len,hlt,ia,lb,hc,hw]
theorem ro1_loop(A:AV)(g:List (List Int))(hA:GraphA A g)(hl:∀r∈g,r.length≤1000000)(hn:g.length≤1000000)(done:List Bool)(hd:done.length=g.length)(v5:AV)(H:List AO)(d:List Obj1)(O:Own H d)(hm:(0,cellsB done,4)∈d):∀(m i:Nat),m+i=g.length →
  ∃i':Int,loopW (codeW cw (lookM mtl) mds c26l1) [0,4,5,6,7] [(0,A),(4,.own 0 0 g.length 1 (some g.length)),(5,v5),(6,litI .i64 (-1)),(7,litI .i64 i)] H =
   some (.exit 2,[(0,A),(4,.own 0 0 g.length 1 (some g.length)),(5,v5),(6,litI .i64 (match((List.range g.length).drop i).find? (readyP g done)with|some j=>(j:Int)|none=>-1)),(7,litI .i64 i'),(25,litB false)],H)
 | 0,i,h=>by
  have hi:i=g.length:=by omega
  subst hi
  refine⟨g.length,loopW_out ?_ (by simp)⟩
  ·rw[tF (by simp),List.find?_nil]
   simp -implicitDefEqProofs only[c26l1,aW,↓aP,makes,reduceLT,reduceEqDiff,reduceAdd,hA.len,zR]
 | m+1,i,h=>by
  have hi:i<g.length:=by omega
  have hlt:(i:Int)<g.length:=by omega
  have ia:=iadr_ownI (r:=0) (n:=g.length) (c:=some g.length) (x:=(i:Int)) (by omega) (by omega)
  rw[xF]at ia
  have lb:=load_B O hm (v:=i) (by omega)
  have hw:=wrap1 (show i<4611686018427387904 by omega)
  obtain⟨k',L0⟩:=ro0_loop A g hA hl hn done hd v5 (litI .i64 (-1)) i H d O hm g.length 0 (!(done.getD i false)) (by omega)
  rw[show((0:Nat):Int)=0 from rfl,zJ]at L0
  change loopW _ _ _ _=some (_,[_,_,_,_,_,(8,litB (readyP g done i)),_,_],_)at L0
  rw[drop_range hi,List.find?_cons]
  cases hr:readyP g done i with
  | true =>
   rw[hr]at L0
   have hneg:¬(i:Int)<0:=by omega
   by_cases h1:((i+1:Nat):Int)<g.length
   ·refine⟨((i+1:Nat):Int),loopW_round (fr':=[(0,A),(4,.own 0 0 g.length 1 (some g.length)),(5,v5),(6,litI .i64 i),(7,litI .i64 (i+1:Nat))]) (H':=H) ?_ (loopW_out ?_ (by simp))⟩
    ·simp -implicitDefEqProofs only[c26l1,aW,↓aP,makes,reduceLT,reduceEqDiff,reduceAdd,hA.len,hlt,show decide ((-1:Int)<0)=true from rfl,ia,lb,L0,hw]
    ·simp -implicitDefEqProofs only[c26l1,aW,↓aP,makes,reduceLT,reduceEqDiff,reduceAdd,hA.len,h1,hneg]
   ·refine⟨((i+1:Nat):Int),loopW_round (fr':=[(0,A),(4,.own 0 0 g.length 1 (some g.length)),(5,v5),(6,litI .i64 i),(7,litI .i64 (i+1:Nat))]) (H':=H) ?_ (loopW_out ?_ (by simp))⟩
    ·simp -implicitDefEqProofs only[c26l1,aW,↓aP,makes,reduceLT,reduceEqDiff,reduceAdd,hA.len,hlt,show decide ((-1:Int)<0)=true from rfl,ia,lb,L0,hw]
    ·simp -implicitDefEqProofs only[c26l1,aW,↓aP,makes,reduceLT,reduceEqDiff,reduceAdd,hA.len,h1]
  | false =>
   rw[hr]at L0
   obtain⟨i',ih⟩:=ro1_loop A g hA hl hn done hd v5 H d O hm m (i+1) (by omega)
   refine⟨i',loopW_round ?_ ih⟩
   simp -implicitDefEqProofs only[c26l1,aW,↓aP,makes,reduceLT,reduceEqDiff,reduceAdd,hA.len,hlt,show decide ((-1:Int)<0)=true from rfl,ia,lb,L0,hw]
theorem nextI_lt{g:List (List Int)}{done:List Bool}{i:Nat}(h:nextI g done=some i):i<g.length:=by
 unfold nextI at h
 exact yS.1 (List.mem_of_find?_eq_some h)
theorem ro2_loop(A:AV)(g:List (List Int))(hA:GraphA A g)(hl:∀r∈g,r.length≤1000000)(hn:g.length≤100000):∀(m:Nat)(done:List Bool)(out:List Int)(Ao:AV)(o:List Obj1)(H:List AO),m+out.length=g.length→done.length=g.length→SlX Ao out o→Own H (o++[(0,cellsB done,4)]) →
  (∀l,kR g m done out=some l→∃A' o' d' H',loopW (codeW cw (lookM mtl) mds c26l2) [0,4,5] [(0,A),(4,.own 0 0 g.length 1 (some g.length)),(5,Ao)] H=some (.exit 0,[(0,A),(4,.own 0 0 g.length 1 (some g.length)),(5,A'),(17,litB false)],H')∧SlX A' l o'∧Own H' (o'++d')) ∧
  (kR g m done out=none→∃H',loopW (codeW cw (lookM mtl) mds c26l2) [0,4,5] [(0,A),(4,.own 0 0 g.length 1 (some g.length)),(5,Ao)] H=some (.ret,[(2,.sl 0 [] (some 0)),(3,litB false)],H'))
 | 0,done,out,Ao,o,H,h,hd,S,O=>by
  rw[kR]
  refine⟨fun l e=>?_,fun e=>by cases e⟩
  simp only[sI]at e;subst e
  have hlt:¬(out.length:Int)<g.length:=by omega
  refine⟨Ao,o,_,H,loopW_out ?_ (by simp),S,O⟩
  simp -implicitDefEqProofs only[c26l2,aW,↓aP,makes,reduceLT,reduceEqDiff,reduceAdd,S.lenV,hA.len,hlt]
 | m+1,done,out,Ao,o,H,h,hd,S,O=>by
  have hlt:(out.length:Int)<g.length:=by omega
  obtain⟨i',L1⟩:=ro1_loop A g hA hl (by omega) done hd Ao H _ O (by simp) g.length 0 (by omega)
  rw[show((0:Nat):Int)=0 from rfl,zJ]at L1
  change loopW _ _ _ _=some (_,[_,_,_,(6,litI .i64 (match nextI g done with|some j=>(j:Int)|none=>-1)),_,_],_)at L1
  rw[kR]
  cases hx:nextI g done with
  | none =>
   rw[hx]at L1
   simp only at L1 ⊢
   refine⟨fun l e=>(by cases e),fun _=>⟨H,loopW_out ?_ (by simp)⟩⟩
   simp -implicitDefEqProofs only[c26l2,aW,↓aP,makes,reduceLT,reduceEqDiff,reduceAdd,S.lenV,hA.len,hlt,L1,show decide ((-1:Int)<0)=true from rfl]
  | some i =>
   rw[hx]at L1
   simp only at L1 ⊢
   have hi:=nextI_lt hx
   have hneg:¬(i:Int)<0:=by omega
   have ia:=iadr_ownI (r:=0) (n:=g.length) (c:=some g.length) (x:=(i:Int)) (by omega) (by omega)
   rw[xF]at ia
   have O1:Own H ((0,cellsB done,4)::o):=by
    have:=O.perm (uF (l₁:=o) (l₂:=[(0,cellsB done,4)]))
    exact this
   have st:storeAt H 1 (.ptr 0 i) (litB true)=some (setL H 0 (.row (cellsB (done.set i true)) 4)):=by
    rw[store_ptr O1.head (by simp[cellsB];omega) rfl rfl]
    simp[cellsB]
   have O2:Own (setL H 0 (.row (cellsB (done.set i true)) 4)) (o++[(0,cellsB (done.set i true),4)]):=by
    have:=(O1.set (cellsB (done.set i true)) 4).perm (uF (l₁:=[(0,cellsB (done.set i true),4)]) (l₂:=o))
    exact this
   generalize setL H 0 (.row (cellsB (done.set i true)) 4)=H1 at st O2
   obtain⟨A2,o2,H2,ap,S2,O3⟩:=S.append O2 (RowA.of [(i:Int)] (some 1)) (by simp;omega)
   obtain⟨X,Y⟩:=ro2_loop A g hA hl hn m (done.set i true) (out++[(i:Int)]) A2 o2 H2 (by simp;omega) (by simpa using hd) S2 O3
   have R:codeW cw (lookM mtl) mds c26l2 [(0,A),(4,.own 0 0 g.length 1 (some g.length)),(5,Ao)] H=some (.normal,[(0,A),(4,.own 0 0 g.length 1 (some g.length)),(5,A2)],H2):=by
    simp -implicitDefEqProofs only[c26l2,aW,↓aP,makes,reduceLT,reduceEqDiff,reduceAdd,S.lenV,hA.len,hlt,L1,hneg,ia,st,core_bsl,bslV_1r,ap.opS]
   refine⟨fun l e=>?_,fun e=>?_⟩
   ·obtain⟨A',o',d',H',L,S',O'⟩:=X l e
    exact⟨A',o',d',H',loopW_round R L,S',O'⟩
   ·obtain⟨H',L⟩:=Y e
    exact⟨H',loopW_round R L⟩
theorem rorder_call{A:AV}{g:List (List Int)}(hA:GraphA A g)(hl:∀r∈g,r.length≤1000000)(hn:g.length≤100000):∃B,RowA B ((ordRef g).getD [])∧∀H id,callV cw mds 26 [A] H id=some (.val (.tup [B,litB (ordRef g).isSome]) none):=by
 have hm1:=mksV_ok (id:=0) (e:=1) (bytes:=1) (z:=[litB false]) (t:=4) (n:=g.length) (by omega) (by omega)
 rw[reps_one]at hm1
 have O:Own [AO.row (List.replicate g.length (litB false)) 4] ([]++[(0,cellsB (List.replicate g.length false),4)]):=by
  rw[show cellsB (List.replicate g.length false)=List.replicate g.length (litB false) by simp[cellsB]]
  refine⟨by simp,fun x hx=>?_⟩
  simp only[yF,zO,yG,or_false]at hx
  subst hx;rfl
 obtain⟨X,Y⟩:=ro2_loop A g hA hl hn g.length (List.replicate g.length false) [] (.sl 0 [] (some 0)) [] _ (by simp) (by simp) (SlX.nil 0) O
 change (∀l,ordRef g=some l→_)at X
 change (ordRef g=none→_)at Y
 have hw:[A].all wholeA=true:=by obtain⟨e,xs,c,rfl⟩:=hA.sl;rfl
 cases ho:ordRef g with
 | none =>
  obtain⟨H',L⟩:=Y ho
  have told:cw 26 [A] []=some (.ret (.tup [.sl 0 [] (some 0),litB false]),H'):=by
   refine cw_of fn26 (c:=c26) rfl rfl rfl rfl ?_
   simp -implicitDefEqProofs only[c26,aW,↓aP,makes,reduceLT,reduceEqDiff,reduceAdd,hA.len,hm1,zA,L]
   rfl
  exact⟨_,RowA.nil,fun H id=>callV_tup rfl hw told RowA.nil⟩
 | some l =>
  obtain⟨A',o',d',H',L,S,O'⟩:=X l ho
  have told:cw 26 [A] []=some (.ret (.tup [A',litB true]),H'):=by
   refine cw_of fn26 (c:=c26) rfl rfl rfl rfl ?_
   simp -implicitDefEqProofs only[c26,aW,↓aP,makes,reduceLT,reduceEqDiff,reduceAdd,hA.len,hm1,zA,L]
   rfl
  obtain⟨B,ids,fz,hB⟩:=slx_frz (H:=H') (k:=13) S (fun x hx=>O'.get x (uD _ hx))
  refine⟨B,hB,fun H id=>callV_frz rfl hw told (ids:=ids++([]++[])) ?_⟩
  rw[show frzF=13+2+1 from rfl,frz]
  simp only[mapL,fz,zD]
  rfl
end Go.Proofs.Ytcgbdndkfonphaa.Ai
namespace Go.Proofs.Ytcgbdndkfonphaa.Ai
open Go Go.Ai
variable {call:CallF}{mt:MtF}{md:FuncId→Md}
def takenL(last slots:List Int)(i:Nat)(s:Int)(l:List Int):Bool:=l.any fun v=>slots.getD v.toNat 0==s&&decide (last.getD v.toNat 0≥(i:Int))
def ofH(f:FlatV)(B:AV)(n:Nat)(slots:List Int)(m:Int):List AO:=[.row f.cs 29,.row [.sl 0 [] (some 0),.sl 0 [] (some 0),litI .i64 0] 32,.row (cellsI slots) 3,.row [B,.own 2 0 n 1 (some n),litI .i64 m] 32]
section
variable(f:FlatV)(B:AV)(ord:List Int)(hB:RowA B ord)(last:List Int)(c:Option Nat)(n:Nat)(hll:last.length=n)(hr:∀x∈ord,0≤x∧x<(n:Int))(hol:ord.length≤100000)
include hB hll hr hol
theorem ro11_0(v2:AV)(i:Nat)(hi:i≤ord.length)(s:Int)(slots:List Int)(hsl:slots.length=n)(m:Int):∀(j k:Nat)(tk:Bool),j+k=i →
  loopW (codeW cw (lookM mtl) mds c11l0) [2,4,6,7,8,9,10,11] [(2,v2),(4,B),(6,rowC last c),(7,.ptr 3 0),(8,litI .i64 i),(9,litI .i64 s),(10,litB tk),(11,litI .i64 k)] (ofH f B n slots m) =
   some (.exit 4,[(2,v2),(4,B),(6,rowC last c),(7,.ptr 3 0),(8,litI .i64 i),(9,litI .i64 s),(10,litB (tk||takenL last slots i s ((ord.take i).drop k))),(11,litI .i64 i),(43,litB false)],ofH f B n slots m)
 | 0,k,tk,h=>by
  have hk:k=i:=by omega
  subst hk
  rw[tF (by simp;omega),show takenL last slots k s []=false from rfl,Bool.or_false]
  refine loopW_out ?_ (by simp)
  simp -implicitDefEqProofs only[c11l0,aW,↓aP,makes,reduceLT,reduceEqDiff,reduceAdd,zR]
 | j+1,k,tk,h=>by
  have hk:k<i:=by omega
  have hlt:(k:Int)<i:=by omega
  have hko:k<ord.length:=by omega
  have hg:ord[k]?=some ord[k]:=zE hko
  have hx:=hr _ (zV hko)
  have hd:(ord.take i).drop k=ord[k]::(ord.take i).drop (k+1):=by
   rw[zS (by simp;omega)];simp
  rw[hd]
  generalize ord[k]=v at hg hx
  have l71:Ai.load (ofH f B n slots m) none (.ptr 3 1)=some (.own 2 0 n 1 (some n)):=rfl
  have ia:=iadr_ownI (r:=2) (n:=n) (c:=some n) hx.1 hx.2
  have ls:Ai.load (ofH f B n slots m) none (.ptr 2 v.toNat)=some (litI .i64 (slots.getD v.toNat 0)):=by
   rw[load_ptr (H:=ofH f B n slots m) (r:=2) (cs:=cellsI slots) (t:=3) rfl,cellsI_at,Ord.getI (by omega)];rfl
  have iL:iadr 1 (rowC last c) (litI .i64 v)=some (.ip [litI .i64 (last.getD v.toNat 0)]):=by
   have:=iadr_row last c v.toNat
   rw[wR hx.1,Ord.getI (by omega)]at this
   exact this
  have hw:=wrap1 (show k<4611686018427387904 by omega)
  have ih:=fun tk=>ro11_0 v2 i hi s slots hsl m j (k+1) tk (by omega)
  have tc:∀r,takenL last slots i s (v::r)=((slots.getD v.toNat 0==s&&decide (last.getD v.toNat 0≥(i:Int)))||takenL last slots i s r):=fun r=>by simp only[takenL,vT]
  rw[tc]
  cases h1:(slots.getD v.toNat 0==s)with
  | false =>
   rw[zP,yP]
   refine loopW_round ?_ (ih tk)
   simp -implicitDefEqProofs only[c11l0,aW,↓aP,makes,reduceLT,reduceEqDiff,reduceAdd,hlt,fadr_ptr,zB,l71,hB.iadr hg,load_ip1,ia,ls,h1,hw]
  | true =>
   by_cases h2:last.getD v.toNat 0≥(i:Int)
   ·rw[decide_eq_true h2,zQ,xI,xD]
    have ih:=ih true
    rw[xI]at ih
    refine loopW_round ?_ ih
    simp -implicitDefEqProofs only[c11l0,aW,↓aP,makes,reduceLT,reduceEqDiff,reduceAdd,hlt,fadr_ptr,zB,l71,hB.iadr hg,load_ip1,ia,ls,h1,iL,h2,hw]
   ·rw[decide_eq_false h2,yM,yP]
    refine loopW_round ?_ (ih tk)
    simp -implicitDefEqProofs only[c11l0,aW,↓aP,makes,reduceLT,reduceEqDiff,reduceAdd,hlt,fadr_ptr,zB,l71,hB.iadr hg,load_ip1,ia,ls,h1,iL,h2,hw]
theorem ro11_1(v2:AV)(i:Nat)(hi:i≤ord.length)(slots:List Int)(hsl:slots.length=n)(m:Int):∀(j s:Nat),s+j≤1000000→(∀x:Nat,s≤x→x<s+j→takenL last slots i x (ord.take i)=true)→takenL last slots i ((s+j:Nat):Int) (ord.take i)=false →
  loopW (codeW cw (lookM mtl) mds c11l1) [2,4,6,7,8,9,10] [(2,v2),(4,B),(6,rowC last c),(7,.ptr 3 0),(8,litI .i64 i),(9,litI .i64 s),(10,litB true)] (ofH f B n slots m) =
   some (.exit 2,[(2,v2),(4,B),(6,rowC last c),(7,.ptr 3 0),(8,litI .i64 i),(9,litI .i64 (s+j:Nat)),(40,litB false)],ofH f B n slots m)
 | 0,s,hb,ht,hf=>by
  have L:=ro11_0 f B ord hB last c n hll hr hol v2 i hi s slots hsl m i 0 false (by omega)
  rw[show((0:Nat):Int)=0 from rfl,zJ,yP]at L
  rw[zK]at hf
  rw[hf]at L
  refine loopW_next (fr1:=[(2,v2),(4,B),(6,rowC last c),(7,.ptr 3 0),(8,litI .i64 i),(9,litI .i64 s),(10,litB false),(67,litB false)]) (H':=ofH f B n slots m) ?_ rfl (loopW_out ?_ (by simp))
  ·simp -implicitDefEqProofs only[c11l1,aW,↓aP,makes,reduceLT,reduceEqDiff,reduceAdd,L]
  ·simp -implicitDefEqProofs only[c11l1,aW,↓aP,makes,reduceLT,reduceEqDiff,reduceAdd,zK]
 | j+1,s,hb,ht,hf=>by
  have L:=ro11_0 f B ord hB last c n hll hr hol v2 i hi s slots hsl m i 0 false (by omega)
  rw[show((0:Nat):Int)=0 from rfl,zJ,yP]at L
  rw[ht s (zT _) (by omega)]at L
  have hw:=wrap1 (show s<4611686018427387904 by omega)
  have ih:=ro11_1 v2 i hi slots hsl m j (s+1) (by omega) (fun x h1 h2=>ht x (by omega) (by omega)) (by rw[show s+1+j=s+(j+1) by omega];exact hf)
  rw[show s+1+j=s+(j+1) by omega]at ih
  refine loopW_round ?_ ih
  simp -implicitDefEqProofs only[c11l1,aW,↓aP,makes,reduceLT,reduceEqDiff,reduceAdd,L,hw]
def slotR(last slots ord:List Int)(i:Nat):Nat:=((List.range (i+1)).find? fun s:Nat=>!takenL last slots i s (ord.take i)).getD 0
def ofR(last ord:List Int):Nat→List Int→List Int×Int→List Int×Int
 | _,[],s=>s
 | i,v::r,s=>ofR last ord (i+1) r (s.1.set v.toNat (slotR last s.1 ord i),max s.2 ((slotR last s.1 ord i+1:Nat):Int))
omit hB hll hr hol in
theorem slotR_spec(slots:List Int)(i:Nat)(hi:i≤ord.length):slotR last slots ord i≤i∧takenL last slots i (slotR last slots ord i) (ord.take i)=false∧∀x:Nat,x<slotR last slots ord i→takenL last slots i x (ord.take i)=true:=by
 have ex:∃x,x<i+1∧takenL last slots i (x:Nat) (ord.take i)=false:=by
  apply Classical.byContradiction
  intro hne
  have all:∀x,x<i+1→takenL last slots i (x:Nat) (ord.take i)=true:=by
   intro x hx
   cases h:takenL last slots i (x:Nat) (ord.take i)with
   | true=>rfl
   | false=>exact absurd ⟨x,hx,h⟩ hne
  have hsub:∀x∈List.range (i+1),x∈(ord.take i).map fun v=>(slots.getD v.toNat 0).toNat:=by
   intro x hx
   have:=all x (yS.1 hx)
   unfold takenL at this
   rw[List.any_eq_true]at this
   obtain⟨v,hv,h⟩:=this
   rw[zL,beq_iff_eq]at h
   exact zW.2 ⟨v,hv,by rw[h.1];rfl⟩
  have:=nodup_le List.nodup_range hsub
  simp at this;omega
 unfold slotR
 cases hf:(List.range (i+1)).find? (fun s:Nat=>!takenL last slots i s (ord.take i))with
 | none =>
  exfalso
  rw[List.find?_eq_none]at hf
  obtain⟨x,hx,h⟩:=ex
  have:=hf x (yS.2 hx)
  simp[h]at this
 | some s =>
  have hm:=yS.1 (List.mem_of_find?_eq_some hf)
  have hp:=List.find?_some hf
  simp only[yY]at hp
  refine⟨by simp;omega,hp,fun x hx=>?_⟩
  simp only[wD]at hx
  rw[List.find?_range_eq_some]at hf
  have:=hf.2.2 x hx
  simpa using this
theorem ro11_2(v2:AV):∀(j i:Nat)(slots:List Int)(m:Int),j+i=ord.length→slots.length=n→0≤m→m≤1000000 →
  loopW (codeW cw (lookM mtl) mds c11l2) [2,4,6,7,8] [(2,v2),(4,B),(6,rowC last c),(7,.ptr 3 0),(8,litI .i64 i)] (ofH f B n slots m) =
   some (.exit 0,[(2,v2),(4,B),(6,rowC last c),(7,.ptr 3 0),(8,litI .i64 ord.length),(37,litB false)],ofH f B n (ofR last ord i (ord.drop i) (slots,m)).1 (ofR last ord i (ord.drop i) (slots,m)).2)
 | 0,i,slots,m,h,hsl,h0,h1=>by
  have hi:i=ord.length:=by omega
  subst hi
  rw[yB,ofR]
  refine loopW_out ?_ (by simp)
  simp -implicitDefEqProofs only[c11l2,aW,↓aP,makes,reduceLT,reduceEqDiff,reduceAdd,hB.lenV,zR]
 | j+1,i,slots,m,h,hsl,h0,h1=>by
  have hi:i<ord.length:=by omega
  have hg:ord[i]?=some ord[i]:=zE hi
  have hlt:(i:Int)<ord.length:=by omega
  have hx:=hr _ (zV hi)
  obtain⟨s1,s2,s3⟩:=slotR_spec ord last slots i (by omega)
  rw[zS hi,ofR]
  generalize ord[i]=v at hg hx
  have L:=ro11_1 f B ord hB last c n hll hr hol v2 i (by omega) slots hsl m (slotR last slots ord i) 0 (by omega) (fun x _ hx=>s3 x (by omega)) (by rw[zB];exact s2)
  rw[zB,show((0:Nat):Int)=0 from rfl]at L
  generalize slotR last slots ord i=sl at L s1
  have l71:Ai.load (ofH f B n slots m) none (.ptr 3 1)=some (.own 2 0 n 1 (some n)):=rfl
  have ia:=iadr_ownI (r:=2) (n:=n) (c:=some n) hx.1 hx.2
  have st:storeAt (ofH f B n slots m) 1 (.ptr 2 v.toNat) (litI .i64 sl)=some (ofH f B n (slots.set v.toNat sl) m):=by
   rw[store_ptr (H:=ofH f B n slots m) (r:=2) (cs:=cellsI slots) (t:=3) rfl (by rw[cellsI_len];omega) rfl rfl]
   have e:(cellsI slots).set v.toNat (litI .i64 sl)=cellsI (slots.set v.toNat sl):=by simp[cellsI]
   rw[e];rfl
  have l72:Ai.load (ofH f B n (slots.set v.toNat sl) m) none (.ptr 3 2)=some (litI .i64 m):=rfl
  have st2:storeAt (ofH f B n (slots.set v.toNat sl) m) 1 (.ptr 3 2) (litI .i64 (max m ((sl+1:Nat):Int)))=some (ofH f B n (slots.set v.toNat sl) (max m ((sl+1:Nat):Int))):=by
   rw[store_ptr (H:=ofH f B n (slots.set v.toNat sl) m) (r:=3) (cs:=[B,.own 2 0 n 1 (some n),litI .i64 m]) (t:=32) rfl (by simp) rfl rfl];rfl
  have hws:=wrap1 (show sl<4611686018427387904 by omega)
  have hw:=wrap1 (show i<4611686018427387904 by omega)
  refine loopW_round ?_ (ro11_2 v2 j (i+1) (slots.set v.toNat sl) (max m ((sl+1:Nat):Int)) (by omega) (by simpa using hsl) (by omega) (by omega))
  simp -implicitDefEqProofs only[c11l2,aW,↓aP,makes,reduceLT,reduceEqDiff,reduceAdd,hB.lenV,hlt,L,fadr_ptr,zB,l71,hB.iadr hg,load_ip1,ia,st,l72,hws,core_maxi2 79 81 .i64 m ((sl+1:Nat):Int),st2,hw]
end
end Go.Proofs.Ytcgbdndkfonphaa.Ai
namespace Go.Proofs.Ytcgbdndkfonphaa.Ai
open Go Go.Ai
variable {call:CallF}{mt:MtF}{md:FuncId→Md}
theorem kR_facts(g:List (List Int)):∀(m:Nat)(done:List Bool)(out l:List Int),kR g m done out=some l→l.length=out.length+m∧((∀x∈out,0≤x∧x<(g.length:Int))→∀x∈l,0≤x∧x<(g.length:Int))
 | 0,done,out,l,h=>by
  rw[kR]at h;simp only[sI]at h;subst h
  exact⟨rfl,fun h=>h⟩
 | m+1,done,out,l,h=>by
  rw[kR]at h
  cases hx:nextI g done with
  | none=>rw[hx]at h;cases h
  | some i =>
   rw[hx]at h
   simp only at h
   obtain⟨h1,h2⟩:=kR_facts g m _ _ l h
   refine⟨by rw[h1];simp;omega,fun ho=>h2 fun x hxm=>?_⟩
   rcases zY.1 hxm with hxm|hxm
   ·exact ho x hxm
   ·simp only[zO,yG,or_false]at hxm
    have:=nextI_lt hx
    rw[hxm];omega
theorem ordRef_facts{g:List (List Int)}{l:List Int}(h:ordRef g=some l):l.length=g.length∧∀x∈l,0≤x∧x<(g.length:Int):=by
 obtain⟨h1,h2⟩:=kR_facts g _ _ _ l h
 exact⟨by rw[h1];simp,h2 (by simp)⟩
theorem rof_bad(f:FlatV)(F:FitsS f)(hp:goodOk f=false∨ordRef (NR f)=none)(H:List AO)(id:Nat):callV cw mds 11 [flatA f] H id=some (.val (.tup [planA (.sl 0 [] (some 0)) (.sl 0 [] (some 0)) 0,litI .i64 (if goodOk f=true then 140 else 1)]) none):=by
 have hgc:∀H id,callV cw mds 25 [.agg f.cs] H id=some (.val (litB (goodOk f)) none):=fun H id=>by rw[good_eq];exact rgood_call f F.fits H id
 have lA:Ai.load [.row f.cs 29,.row [.sl 0 [] (some 0),.sl 0 [] (some 0),litI .i64 0] 32] (some 8) (.ptr 0 0)=some (.agg f.cs):=load_agg rfl rfl
 have hb0:buildV [.sl 0 [] (some 0),.sl 0 [] (some 0),litI .i64 0] []=some (.val (.agg [.sl 0 [] (some 0),.sl 0 [] (some 0),litI .i64 0]) none):=rfl
 have st:storeAt [.row f.cs 29,.row [.sl 0 [] (some 0),.sl 0 [] (some 0),litI .i64 0] 32] 3 (.ptr 1 0) (.agg [.sl 0 [] (some 0),.sl 0 [] (some 0),litI .i64 0])=some [.row f.cs 29,.row [.sl 0 [] (some 0),.sl 0 [] (some 0),litI .i64 0] 32]:=rfl
 cases hG:goodOk f with
 | false =>
  rw[hG]at hgc
  refine callV_frz (a:=.tup [planA (.sl 0 [] (some 0)) (.sl 0 [] (some 0)) 0,litI .i64 1]) (H':=[.row f.cs 29,.row [.sl 0 [] (some 0),.sl 0 [] (some 0),litI .i64 0] 32]) (ids:=[]) rfl rfl ?_ rfl
  refine cw_of fn11 (c:=c11) rfl rfl rfl rfl ?_
  simp -implicitDefEqProofs only[c11,aW,↓aP,makes,reduceLT,reduceEqDiff,reduceAdd,core_box,flat_f,zA,zC,lA,hgc,core_build,hb0,st]
  rfl
 | true =>
  rw[hG]at hgc
  have hno:ordRef (NR f)=none:=hp.resolve_left (by rw[hG];simp)
  have G:=goodF_of hG
  obtain⟨A,hA,hN⟩:=needs27_call f F hG
  have hNc:∀H id,callV cw mds 27 [.agg f.cs] H id=some (.val A none):=hN
  obtain⟨B,hB,hO⟩:=rorder_call hA (fun r hr=>by have:=NR_60 f F G r hr;omega) (by have:=F.names;rw[NR_len];omega)
  rw[hno]at hO
  refine callV_frz (a:=.tup [planA (.sl 0 [] (some 0)) (.sl 0 [] (some 0)) 0,litI .i64 140]) (H':=[.row f.cs 29,.row [.sl 0 [] (some 0),.sl 0 [] (some 0),litI .i64 0] 32]) (ids:=[]) rfl rfl ?_ rfl
  refine cw_of fn11 (c:=c11) rfl rfl rfl rfl ?_
  simp -implicitDefEqProofs only[c11,aW,↓aP,makes,reduceLT,reduceEqDiff,reduceAdd,core_box,flat_f,zA,zC,lA,hgc,core_build,hb0,st,hNc,hO,Option.isSome_none]
  rfl
theorem rof_good(f:FlatV)(F:FitsS f)(hG:goodOk f=true){ord:List Int}(ho:ordRef (NR f)=some ord):∃B,RowA B ord∧∀H id,callV cw mds 11 [flatA f] H id=some (.val (.tup [planA B (rowC (ofR (lastsR f ord) ord 0 ord (List.replicate f.names.length 0,0)).1 (some f.names.length)) (ofR (lastsR f ord) ord 0 ord (List.replicate f.names.length 0,0)).2,litI .i64 0]) none):=by
 have G:=goodF_of hG
 have hnn:=F.names
 obtain⟨k1,k2⟩:=ordRef_facts ho
 rw[NR_len]at k1 k2
 have hgc:∀H id,callV cw mds 25 [.agg f.cs] H id=some (.val (litB true) none):=fun H id=>by rw[←hG,good_eq];exact rgood_call f F.fits H id
 obtain⟨A,hA,hN⟩:=needs27_call f F hG
 have hNc:∀H id,callV cw mds 27 [.agg f.cs] H id=some (.val A none):=hN
 obtain⟨B,hB,hO⟩:=rorder_call hA (fun r hr=>by have:=NR_60 f F G r hr;omega) (by rw[NR_len];omega)
 rw[ho]at hB hO
 simp only[wD,Option.isSome_some]at hB hO
 refine⟨B,hB,fun H id=>?_⟩
 have hLc:∀H id,callV cw mds 21 [.agg f.cs,B] H id=some (.val (rowC (lastsR f ord) (some f.names.length)) none):=fun H id=>lasts_call f F hG hB (by omega) H id
 have lA:Ai.load [.row f.cs 29,.row [.sl 0 [] (some 0),.sl 0 [] (some 0),litI .i64 0] 32] (some 8) (.ptr 0 0)=some (.agg f.cs):=load_agg rfl rfl
 have l1:Ai.load [.row f.cs 29,.row [.sl 0 [] (some 0),.sl 0 [] (some 0),litI .i64 0] 32] none (.ptr 0 1)=some (strs f.names):=rfl
 have hm1:=mksV_ok (id:=2) (e:=1) (bytes:=8) (z:=[litI .i64 0]) (t:=3) (n:=f.names.length) (by omega) (by omega)
 rw[reps_one]at hm1
 obtain⟨eB,xB,cB,eqB⟩:=hB.cases
 have hb3:buildV [.sl 0 [] (some 0),.sl 0 [] (some 0),litI .i64 0] [(0,1,B),(1,1,.own 2 0 f.names.length 1 (some f.names.length))]=some (.val (.agg [B,.own 2 0 f.names.length 1 (some f.names.length),litI .i64 0]) none):=by rw[eqB];rfl
 have hz:cellsI (List.replicate f.names.length 0)=List.replicate f.names.length (litI .i64 0):=by simp[cellsI]
 have st4:storeAt [.row f.cs 29,.row [.sl 0 [] (some 0),.sl 0 [] (some 0),litI .i64 0] 32,.row (List.replicate f.names.length (litI .i64 0)) 3,.row [.sl 0 [] (some 0),.sl 0 [] (some 0),litI .i64 0] 32] 3 (.ptr 3 0) (.agg [B,.own 2 0 f.names.length 1 (some f.names.length),litI .i64 0])=some (ofH f B f.names.length (List.replicate f.names.length 0) 0):=by
  rw[storeAt_agg (r:=3) (n:=3) (cs:=[.sl 0 [] (some 0),.sl 0 [] (some 0),litI .i64 0]) (t:=32) rfl rfl rfl (by rw[eqB];rfl)]
  unfold ofH
  rw[hz];rfl
 have L:=ro11_2 f B ord hB (lastsR f ord) (some f.names.length) f.names.length (by simp[lastsR]) k2 (by omega) (.ptr 1 0) ord.length 0 (List.replicate f.names.length 0) 0 (by omega) (by simp) (vR _) (by omega)
 rw[show((0:Nat):Int)=0 from rfl,zJ]at L
 have hlen:(ofR (lastsR f ord) ord 0 ord (List.replicate f.names.length 0,0)).1.length=f.names.length:=by
  have:∀(r:List Int)(i:Nat)(s:List Int×Int),(ofR (lastsR f ord) ord i r s).1.length=s.1.length:=by
   intro r
   induction r with
   | nil=>intros;rfl
   | cons v r ih=>intro i s;rw[ofR,ih];simp
  rw[this];simp
 generalize (ofR (lastsR f ord) ord 0 ord (List.replicate f.names.length 0,0)).1=S at L hlen ⊢
 generalize (ofR (lastsR f ord) ord 0 ord (List.replicate f.names.length 0,0)).2=m at L ⊢
 have l6:Ai.load (ofH f B f.names.length S m) (some 3) (.ptr 3 0)=some (.agg [B,.own 2 0 f.names.length 1 (some f.names.length),litI .i64 m]):=load_agg rfl rfl
 have st7:storeAt (ofH f B f.names.length S m) 3 (.ptr 1 0) (.agg [B,.own 2 0 f.names.length 1 (some f.names.length),litI .i64 m])=some (setL (ofH f B f.names.length S m) 1 (.row [B,.own 2 0 f.names.length 1 (some f.names.length),litI .i64 m] 32)):=storeAt_agg (H:=ofH f B f.names.length S m) (r:=1) (cs:=[.sl 0 [] (some 0),.sl 0 [] (some 0),litI .i64 0]) (t:=32) rfl rfl rfl (by rw[eqB];rfl)
 have g3:(setL (ofH f B f.names.length S m) 1 (.row [B,.own 2 0 f.names.length 1 (some f.names.length),litI .i64 m] 32))[2]?=some (.row (cellsI S) 3):=rfl
 have g7:(setL (ofH f B f.names.length S m) 1 (.row [B,.own 2 0 f.names.length 1 (some f.names.length),litI .i64 m] 32))[1]?=some (.row [B,.own 2 0 f.names.length 1 (some f.names.length),litI .i64 m] 32):=rfl
 generalize setL (ofH f B f.names.length S m) 1 (.row [B,.own 2 0 f.names.length 1 (some f.names.length),litI .i64 m] 32)=H7 at st7 g3 g7
 have lR:Ai.load H7 (some 3) (.ptr 1 0)=some (.agg [B,.own 2 0 f.names.length 1 (some f.names.length),litI .i64 m]):=load_agg g7 rfl
 have fz:=Ord.frz_ints (H:=H7) (p:=2) (k:=12) (c:=some f.names.length) (l:=S) (z:=[]) (t:=3) (n:=f.names.length) (by rw[zZ];exact g3) rfl hlen.symm
 refine callV_frz (a:=.tup [.agg [B,.own 2 0 f.names.length 1 (some f.names.length),litI .i64 m],litI .i64 0]) (H':=H7) (ids:=([]++([2]++([]++[])))++([]++[])) rfl rfl ?_ ?_
 ·refine cw_of fn11 (c:=c11) rfl rfl rfl rfl ?_
  simp -implicitDefEqProofs only[c11,aW,↓aP,makes,reduceLT,reduceEqDiff,reduceAdd,core_box,flat_f,zA,zC,lA,hgc,hNc,hO,hLc,fadr_ptr,zB,l1,lenV_strs,hm1,core_build,hb3,st4,L,l6,st7]
  simp only[zD,fin,fn11,res,resL,resV,get_cons,get_nil,if_true,lR]
  rfl
 ·rw[show frzF=12+2+1+1 from rfl,frz]
  simp only[mapL]
  rw[frz]
  simp only[mapL,fz,zD]
  rw[eqB]
  rfl
end Go.Proofs.Ytcgbdndkfonphaa.Ai
namespace Go.Proofs.Ytcgbdndkfonphaa.Ai
open Go Go.Ai
variable {call:CallF}{mt:MtF}{md:FuncId→Md}
theorem placeF_spec(v:Int):∀(r:List Int)(n:Nat),(placeF v n r = -1∧¬v∈r)∨∃j:Nat,placeF v n r=((n+j:Nat):Int)∧r[j]?=some v∧¬v∈r.take j
 | [],n=>.inl ⟨rfl,by simp⟩
 | x::r,n=>by
  rw[placeF]
  by_cases h:x=v
  ·right;rw[if_pos h];exact⟨0,rfl,by simp[h],by simp⟩
  ·rw[if_neg h]
   rcases placeF_spec v r (n+1)with⟨h1,h2⟩|⟨j,h1,h2,h3⟩
   ·left;exact⟨h1,by simp[Ne.symm h,h2]⟩
   ·right;refine⟨j+1,by rw[h1];congr 1;omega,by simpa using h2,?_⟩
    rw[vS,zO]
    rintro (h4|h4)
    ·exact h h4.symm
    ·exact h3 h4
end Go.Proofs.Ytcgbdndkfonphaa.Ai
namespace Go.Proofs.Ytcgbdndkfonphaa.Ai.Ord
open Go Go.Ai Go.Proofs.Ytcgbdndkfonphaa.Ai
def isNext(g:List (List Int))(out:List Int)(i:Nat):Bool:=!out.contains (i:Int)&&(need g i).all out.contains
def nextC(g:List (List Int))(out:List Int):Option Nat:=(List.range g.length).find? (isNext g out)
def iterC(g:List (List Int)):Nat→List Int→List Int
 | 0,out=>out
 | m+1,out=>match nextC g out with
  | none=>out
  | some i=>iterC g m (out++[(i:Int)])
theorem isNext_iff{g:List (List Int)}{ws h out:List Int}(K:KI g ws h out){i:Nat}(hi:i<g.length):isNext g out i=true↔(i:Int)∈h:=by
 have hz:=K.z i hi
 have hw:=K.w i hi
 have e:(need g i).all out.contains=true↔ws.getD i 0=0:=by
  rw[hw]
  constructor
  ·intro ha
   rw[yD]at ha
   have:(need g i).filter (fun k=>!out.contains k)=[]:=by
    rw[List.filter_eq_nil_iff]
    intro k hk
    rw[ha k hk];simp
   rw[this];rfl
  ·intro hl
   have:(need g i).filter (fun k=>!out.contains k)=[]:=wZ (by omega)
   rw[List.filter_eq_nil_iff]at this
   rw[yD]
   intro k hk
   have:=this k hk
   simpa using this
 unfold isNext
 rw[zL,e,←hz,zY]
 simp only[yY,←zH,xV]
 constructor
 ·rintro ⟨h1,h2|h2⟩
  ·exact h2
  ·exact absurd h2 h1
 ·intro h1
  refine⟨fun h2=>?_,.inl h1⟩
  exact(tC.1 K.nd).2.2 _ h1 _ h2 rfl
theorem KI.len_le{g:List (List Int)}{ws h out:List Int}(K:KI g ws h out):h.length+out.length≤g.length:=by
 have hm:((h++out).map Int.toNat).Nodup:=by
  have hr:=K.rng
  have hn:=K.nd
  generalize h++out=l at hr hn
  induction l with
  | nil=>simp
  | cons x l ih =>
   rw[xA]at hn
   rw[yJ,xA]
   refine⟨fun hm=>hn.1 ?_,ih (fun y hy=>hr y (zI _ hy)) hn.2⟩
   obtain⟨y,hy,e⟩:=zW.1 hm
   have h1:=hr x (zM ..)
   have h2:=hr y (zI _ hy)
   rw[show x=y by omega];exact hy
 have:=nodup_le (m:=List.range g.length) hm (fun x hx=>by
  obtain⟨y,hy,rfl⟩:=zW.1 hx
  have:=K.rng y hy
  rw[yS];omega)
 simpa using this
theorem kahn_iter{g:List (List Int)}{us:List (List Int)}(hus:∀x:Nat,(us.getD x []).Nodup∧∀i:Int,i∈us.getD x []↔∃j:Nat,i=j∧j<g.length∧(x:Int)∈need g j) :
  ∀(m:Nat)(ws h out:List Int),mu ws h≤m→KI g ws h out→IsHeap h h.length→kahn us m ws h out=iterC g (g.length-out.length) out
 | 0,ws,h,out,hm,K,H=>by
  have:h=[]:=wZ (by unfold mu at hm;omega)
  subst this
  have hn:nextC g out=none:=by
   unfold nextC
   rw[List.find?_eq_none]
   intro i hi
   rw[isNext_iff K (yS.1 hi)]
   simp
  rw[kahn]
  cases g.length-out.length with
  | zero=>rfl
  | succ m=>rw[iterC,hn]
 | m+1,ws,h,out,hm,K,H=>by
  rw[kahn]
  by_cases he:h=[]
  ·subst he
   rw[if_pos rfl]
   have hn:nextC g out=none:=by
    unfold nextC
    rw[List.find?_eq_none]
    intro i hi
    rw[isNext_iff K (yS.1 hi)]
    simp
   cases g.length-out.length with
   | zero=>rfl
   | succ m=>rw[iterC,hn]
  ·rw[if_neg he]
   have hpos:0<h.length:=vX.2 he
   have hps:=pop_split hpos
   obtain⟨hX,hH⟩:=popL_heap H hpos
   have hx:(popL h).getD (h.length-1) 0∈h:=hps.mem_iff.1 (wL _ (by simp))
   have hmin:∀y∈h,(popL h).getD (h.length-1) 0≤y:=by
    intro y hy
    obtain⟨j,hj⟩:=wM hy
    have hjl:=(zG.1 hj).1
    have:=heap_min H j hjl
    rw[hX]
    rw[zF (i:=j),hj]at this
    exact this
   generalize (popL h).take (h.length-1)=h' at *
   generalize (popL h).getD (h.length-1) 0=X at *
   have hXr:=K.rng X (uD _ hx)
   have hle:=K.len_le
   have hnx:nextC g out=some X.toNat:=by
    unfold nextC
    rw[List.find?_range_eq_some]
    have hXe:((X.toNat:Nat):Int)=X:=by omega
    refine⟨?_,?_,fun j hj=>?_⟩
    ·rw[isNext_iff K (by omega),hXe];exact hx
    ·rw[yS];omega
    ·rw[yY,←zH,isNext_iff K (by omega)]
     intro hjh
     have:=hmin _ hjh
     omega
   obtain⟨u1,u2⟩:=hus X.toNat
   rw[show((X.toNat:Nat):Int)=X by omega]at u2
   have hsub:g.length-out.length=(g.length-(out++[X]).length)+1:=by simp;omega
   rw[hsub,iterC,hnx]
   simp only
   rw[show((X.toNat:Nat):Int)=X by omega]
   refine kahn_iter hus m _ _ _ ?_ (K.step hps u1 u2) (relax_heap _ _ _ hH)
   have:=relax_mu (us.getD X.toNat []) ws h' (fun k hk=>by
    obtain⟨j,rfl,hj,_⟩:=(u2 k).1 hk
    rw[K.lw,xF];exact hj)
   have htl:h'.length+1=h.length:=by
    have:=hps.length_eq
    simpa using this
   unfold mu at this hm ⊢
   omega
theorem build_sorted(g:List (List Int)):∀(m n:Nat)(s:List (List Int)×List Int×List Int),s.2.2.Pairwise (· < ·)→(∀x∈s.2.2,x<(n:Int))→(build g m n s).2.2.Pairwise (· < ·)
 | 0,n,s,h,_=>h
 | m+1,n,s,h,hb=>by
  rw[build]
  refine build_sorted g m (n+1) _ ?_ ?_
  ·simp only
   split
   ·rw[List.pairwise_append]
    refine⟨h,by simp,fun a ha b hbm=>?_⟩
    simp only[zO,yG,or_false]at hbm
    rw[hbm];exact hb a ha
   ·exact h
  ·simp only
   intro x hx
   split at hx
   ·rcases zY.1 hx with hx|hx
    ·have:=hb x hx;omega
    ·simp only[zO,yG,or_false]at hx
     omega
   ·have:=hb x hx;omega
theorem outL_iter(g:List (List Int)):outL g=iterC g g.length []:=by
 have B:=buildN g
 unfold outL
 rw[kahn_iter B.us _ _ _ _ (zT _) ⟨B.lw,fun x hx=>?_,?_,fun i hi=>?_,fun i hi=>?_,fun j hj=>by simp at hj⟩ (sorted_heap (build_sorted g _ _ _ List.Pairwise.nil (by simp)))]
 ·rfl
 ·rw[zZ];exact B.r.1
 ·rw[zZ,B.r.2]at hx
  obtain⟨j,rfl,hj,_⟩:=hx
  omega
 ·rw[B.ws i hi,tD.2 (by simp)]
 ·rw[zZ,B.r.2,B.ws i hi]
  constructor
  ·rintro ⟨j,e,_,h⟩
   have:i=j:=by omega
   subst this;simp[h]
  ·intro h;exact⟨i,rfl,hi,wZ (by omega)⟩
theorem kR_iter(g g':List (List Int))(hl:g'.length=g.length)(hn:∀i k:Nat,i<g.length→k<g.length→(needsP g' i k=true↔(k:Int)∈need g i))(hr:∀i,∀k∈need g i,0≤k∧k<(g.length:Int)) :
  ∀(m:Nat)(done:List Bool)(out:List Int),done.length=g.length→(∀i:Nat,i<g.length→done.getD i false=out.contains (i:Int)) →
   kR g' m done out=if(iterC g m out).length=out.length+m then some (iterC g m out)else none
 | 0,done,out,hd,he=>by rw[kR,iterC,if_pos (zK _).symm]
 | m+1,done,out,hd,he=>by
  have hnx:nextI g' done=nextC g out:=by
   unfold nextI nextC
   rw[hl]
   have:∀i∈List.range g.length,readyP g' done i=isNext g out i:=by
    intro i hi
    have hi:=yS.1 hi
    unfold readyP isNext
    rw[he i hi]
    congr 1
    rw[Bool.eq_iff_iff,yD,yD]
    constructor
    ·intro h k hk
     have hk0:=hr i k hk
     have:=h k.toNat (by rw[yS,hl];omega)
     unfold freeP at this
     rw[he _ (by omega),vC]at this
     have ek:((k.toNat:Nat):Int)=k:=by omega
     rcases this with h1|h1
     ·rw[ek]at h1;exact h1
     ·rw[yY,←zH,hn i k.toNat hi (by omega),ek]at h1
      exact absurd hk h1
    ·intro h k hk
     rw[yS,hl]at hk
     unfold freeP
     rw[he k hk,vC]
     by_cases hm:(k:Int)∈need g i
     ·exact .inl (h _ hm)
     ·right
      rw[yY,←zH,hn i k hi hk];exact hm
   have:∀(l:List Nat),(∀i∈l,readyP g' done i=isNext g out i)→l.find? (readyP g' done)=l.find? (isNext g out):=by
    intro l
    induction l with
    | nil=>intros;rfl
    | cons x l ih =>
     intro h
     rw[List.find?_cons,List.find?_cons,h x (zM ..),ih fun i hi=>h i (zI _ hi)]
   apply this;assumption
  rw[kR,iterC,hnx]
  cases hx:nextC g out with
  | none =>
   simp only
   rw[if_neg (by omega)]
  | some i =>
   simp only
   have hi:i<g.length:=by
    unfold nextC at hx
    exact yS.1 (List.mem_of_find?_eq_some hx)
   rw[kR_iter g g' hl hn hr m (done.set i true) (out++[(i:Int)]) (by simpa using hd) (fun j hj=>by
    by_cases e:i=j
    ·subst e;rw[zF,yK (by omega)];simp
    ·rw[zF,yT e,←zF,he j hj]
     rw[Bool.eq_iff_iff,xV,xV,zY]
     have:¬(j:Int)=i:=by omega
     simp[this])]
   have:(out++[(i:Int)]).length+m=out.length+(m+1):=by simp;omega
   rw[this]
end Go.Proofs.Ytcgbdndkfonphaa.Ai.Ord
namespace Go.Proofs.Ytcgbdndkfonphaa.Ai
open Go Go.Ai
theorem setN_other(g:Eqn→List Int)(v:Nat):∀(l:List Eqn)(rows:List (List Int)),(∀q∈l,q.var.toNat≠v)→(setN g rows l).getD v []=rows.getD v []
 | [],_,_=>rfl
 | q::l,rows,h=>by
  rw[setN,setN_other g v l _ fun q' hq=>h q' (zI _ hq)]
  rw[zF,yT (h q (zM ..)),←zF]
theorem setN_get(g:Eqn→List Int):∀(l:List Eqn)(rows:List (List Int)),(∀q∈l,0≤q.var∧q.var<(rows.length:Int))→(l.map (·.var)).Nodup→∀q∈l,(setN g rows l).getD q.var.toNat []=g q
 | [],_,_,_=>by simp
 | q::l,rows,h,hn=>by
  rw[yJ,xA]at hn
  have hq:=h q (zM ..)
  intro q' hq'
  rw[setN]
  rcases zO.1 hq' with rfl|hq'
  ·rw[setN_other g _ l _ fun x hx e=>hn.1 (zW.2 ⟨x,hx,by have:=h x (zI _ hx);omega⟩)]
   rw[zF,yK (by omega)];rfl
  ·exact setN_get g l _ (fun x hx=>by rw[yW];exact h x (zI _ hx)) hn.2 q' hq'
theorem NC_get(f:FlatV)(G:GoodF f)(q:Eqn)(hq:q∈f.eqs):(NC f).getD q.var.toNat []=needC f q:=setN_get (needC f) f.eqs _ (fun q hq=>by rw[xM];exact G.var q hq) G.nodup q hq
theorem NR_get(f:FlatV)(G:GoodF f)(q:Eqn)(hq:q∈f.eqs):(NR f).getD q.var.toNat []=needR f q:=setN_get (needR f) f.eqs _ (fun q hq=>by rw[xM];exact G.var q hq) G.nodup q hq
theorem mem_needC(f:FlatV)(q:Eqn)(x:Int):x∈needC f q↔0≤x∧x∈needR f q:=by
 unfold needC needR
 rw[xL,Ord.mem_compI,Ord.mem_sortI]
 simp only[yY,decide_eq_false_iff_not,zY,zO,yG,or_false]
 constructor
 ·rintro ⟨(h|h)|h,h0⟩
  ·exact⟨by omega,.inl (.inl h)⟩
  ·exact⟨by omega,.inr h⟩
  ·refine⟨by omega,.inl (.inr ?_)⟩
   rw[if_pos (by omega)];simp[h]
 ·rintro ⟨h0,(h|h)|h⟩
  ·exact⟨.inl (.inl h),by omega⟩
  ·split at h
   ·simp only[zO,yG,or_false]at h;exact⟨.inr h,by omega⟩
   ·cases h
  ·exact⟨.inl (.inr h),by omega⟩
theorem needsP_NC(f:FlatV)(F:FitsS f)(G:GoodF f)(i k:Nat)(hi:i<f.names.length)(hk:k<f.names.length):needsP (NR f) i k=true↔(k:Int)∈(NC f).getD i []:=by
 obtain⟨q,hq,e⟩:=G.all i hi
 have h1:=NC_get f G q hq
 have h2:=NR_get f G q hq
 rw[e]at h1 h2
 rw[h1,mem_needC]
 unfold needsP
 rw[xF,h2,NR_len,decide_eq_true (show(0:Int)≤i by omega),decide_eq_true (show(i:Int)<f.names.length by omega),decide_eq_true (show(0:Int)≤k by omega),decide_eq_true (show(k:Int)<f.names.length by omega)]
 simp only[zQ,xV]
 exact⟨fun h=>⟨by omega,h⟩,fun h=>h.2⟩
theorem need_NC(f:FlatV)(F:FitsS f)(G:GoodF f)(i:Nat)(x:Int):x∈Ord.need (NC f) i↔x∈(NC f).getD i []:=by
 cases hg:(NC f)[i]? with
 | none =>
  unfold Ord.need
  rw[hg,zF,hg];rfl
 | some row =>
  rw[Ord.mem_need hg,zF,hg]
  simp only[wD]
  constructor
  ·exact fun h=>h.1
  ·intro h
   have:=NC_rng f F G row (zX hg) x h
   rw[NC_len];exact⟨h,this⟩
theorem ordRef_eq(f:FlatV)(F:FitsS f)(G:GoodF f):ordRef (NR f)=if Ord.okL (NC f)=true then some (ordL (NC f))else none:=by
 unfold ordRef
 have h:=Ord.kR_iter (NC f) (NR f) (by rw[NC_len,NR_len]) (fun i k hi hk=>by
  rw[NC_len]at hi hk
  rw[needsP_NC f F G i k hi hk,need_NC f F G]) (fun i k hk=>by
  rw[need_NC f F G]at hk
  have:(NC f).getD i []∈NC f∨(NC f).getD i []=[]:=by
   rw[zF]
   cases hg:(NC f)[i]? with
   | none=>exact .inr rfl
   | some row=>exact .inl (zX hg)
  rcases this with h|h
  ·rw[NC_len];exact NC_rng f F G _ h k hk
  ·rw[h]at hk;cases hk) (NC f).length (List.replicate (NC f).length false) [] (by simp) (fun i hi=>by
  rw[zF,wS,if_pos hi];rfl)
 rw[←Ord.outL_iter]at h
 rw[show(NR f).length=(NC f).length by rw[NC_len,NR_len],h]
 have hle:(Ord.outL (NC f)).length≤(NC f).length:=by
  obtain⟨ws,K⟩:=Ord.outL_ok (NC f)
  have:=K.len_le
  simpa using this
 by_cases hk:Ord.okL (NC f)=true
 ·rw[if_pos hk]
  have hk':=hk
  simp only[Ord.okL,decide_eq_true_eq]at hk'
  rw[if_pos (by simp;omega),ordL,if_pos hk]
 ·rw[if_neg hk]
  simp only[Ord.okL,decide_eq_true_eq]at hk
  rw[if_neg (by simp;omega)]
theorem nodup_inj{l:List Int}(h:l.Nodup){i j:Nat}{x:Int}(hi:l[i]?=some x)(hj:l[j]?=some x):i=j:=by
 obtain⟨h1,e1⟩:=zG.1 hi
 obtain⟨h2,e2⟩:=zG.1 hj
 rw[List.Nodup,List.pairwise_iff_getElem]at h
 rcases Nat.lt_trichotomy i j with hlt|heq|hgt
 ·exact absurd (e1.trans e2.symm) (h i j h1 h2 hlt)
 ·exact heq
 ·exact absurd (e2.trans e1.symm) (h j i h2 h1 hgt)
structure PermO(n:Nat)(ord:List Int):Prop where
 len:ord.length=n
 rng:∀x∈ord,0≤x∧x<(n:Int)
 nd:ord.Nodup
def posO(ord:List Int)(v:Nat):Nat:=(placeI ord v).toNat
theorem PermO.all{n:Nat}{ord:List Int}(P:PermO n ord)(v:Nat)(hv:v<n):(v:Int)∈ord:=by
 have hm:(ord.map Int.toNat).Nodup:=by
  have hr:=P.rng
  have hn:=P.nd
  clear P
  induction ord with
  | nil=>simp
  | cons x l ih =>
   rw[xA]at hn
   rw[yJ,xA]
   refine⟨fun hm=>hn.1 ?_,ih (fun y hy=>hr y (zI _ hy)) hn.2⟩
   obtain⟨y,hy,e⟩:=zW.1 hm
   have h1:=hr x (zM ..)
   have h2:=hr y (zI _ hy)
   rw[show x=y by omega];exact hy
 have:=nodup_all hm (by rw[yV,P.len]) (fun x hx=>by
  obtain⟨y,hy,rfl⟩:=zW.1 hx
  have:=P.rng y hy;omega) v hv
 obtain⟨y,hy,e⟩:=zW.1 this
 have:=P.rng y hy
 rw[show(v:Int)=y by omega];exact hy
theorem PermO.pos{n:Nat}{ord:List Int}(P:PermO n ord)(v:Nat)(hv:v<n):placeI ord v=(posO ord v:Int)∧ord[posO ord v]?=some (v:Int):=by
 rcases placeF_spec v ord 0 with⟨_,h2⟩|⟨j,h1,h2,_⟩
 ·exact absurd (P.all v hv) h2
 ·have e:placeI ord v=(j:Int):=by unfold placeI;rw[h1];congr 1;omega
  unfold posO
  rw[e]
  exact⟨rfl,h2⟩
theorem PermO.at_{n:Nat}{ord:List Int}(P:PermO n ord){i:Nat}{v:Nat}(h:ord[i]?=some (v:Int)):posO ord v=i:=by
 have hv:v<n:=by have:=P.rng _ (zX h);omega
 have h2:=(P.pos v hv).2
 exact nodup_inj P.nd h2 h
theorem PermO.lt{n:Nat}{ord:List Int}(P:PermO n ord){v:Nat}(hv:v<n):posO ord v<n:=by
 have:=(zG.1 (P.pos v hv).2).1
 rw[P.len]at this;exact this
theorem PermO.inj{n:Nat}{ord:List Int}(P:PermO n ord){u v:Nat}(hu:u<n)(hv:v<n)(h:posO ord u=posO ord v):u=v:=by
 have h1:=(P.pos u hu).2
 have h2:=(P.pos v hv).2
 rw[h,h2]at h1
 simp only[sI]at h1
 omega
theorem setAll_get:∀(l r:List Int)(i:Nat)(v:Nat),l.Nodup→(∀x∈l,0≤x∧x<(r.length:Int))→(∀j,l[j]?=some (v:Int)→(setAll r i l).getD v 0=(i+j:Nat))∧(¬(v:Int)∈l→(setAll r i l).getD v 0=r.getD v 0)
 | [],r,i,v,_,_=>⟨fun j h=>(by cases h),fun _=>rfl⟩
 | x::l,r,i,v,hn,hr=>by
  rw[xA]at hn
  have hx:=hr x (zM ..)
  obtain⟨h1,h2⟩:=setAll_get l (r.set x.toNat i) (i+1) v hn.2 (fun y hy=>by rw[yW];exact hr y (zI _ hy))
  rw[setAll]
  refine⟨fun j hj=>?_,fun hm=>?_⟩
  ·cases j with
   | zero =>
    simp only[wH,sI]at hj
    rw[h2 (by rw[←hj];exact hn.1),hj,xF,zF,yK (by omega)];rfl
   | succ j =>
    simp only[wI]at hj
    rw[h1 j hj];congr 1;omega
  ·rw[zO]at hm
   rw[h2 fun h=>hm (.inr h),zF,yT (by omega),←zF]
theorem firstF_get{n:Nat}{ord:List Int}(P:PermO n ord)(v:Nat)(hv:v<n):(firstF ord).getD v 0=(posO ord v:Int):=by
 unfold firstF
 have:=(setAll_get ord (List.replicate ord.length 0) 0 v P.nd (fun x hx=>by rw[xM,P.len];exact P.rng x hx)).1 _ (P.pos v hv).2
 rw[this];congr 1;omega
end Go.Proofs.Ytcgbdndkfonphaa.Ai
namespace Go.Proofs.Ytcgbdndkfonphaa.Ai
open Go Go.Ai
theorem getD_set'(l:List Int)(i a:Nat)(x:Int)(hi:i<l.length):(l.set i x).getD a 0=if i=a then x else l.getD a 0:=by
 rw[Ord.getD_set]
 by_cases h:i=a
 ·rw[if_pos ⟨h,hi⟩,if_pos h]
 ·rw[if_neg (fun h2=>h h2.1),if_neg h]
theorem maxK_le(fv:Int)(k:Nat)(z:Int):∀(row last:List Int),(∀x∈row,0≤x∧x<(last.length:Int))→((maxK fv last row).getD k 0≤z↔last.getD k 0≤z∧((k:Int)∈row→fv≤z))
 | [],last,_=>by simp[maxK]
 | x::row,last,h=>by
  have hx:=h x (zM ..)
  rw[maxK,maxK_le fv k z row _ (fun y hy=>by rw[yW];exact h y (zI _ hy)),getD_set' _ _ _ _ (by omega),zO]
  by_cases e:x.toNat=k
  ·have e':(k:Int)=x:=by omega
   rw[if_pos e,e]
   constructor
   ·rintro ⟨h1,h2⟩;exact⟨by omega,fun _=>by omega⟩
   ·rintro ⟨h1,h2⟩;exact⟨by have:=h2 (.inl e');omega,fun _=>h2 (.inl e')⟩
  ·have e':¬(k:Int)=x:=by omega
   rw[if_neg e]
   constructor
   ·rintro ⟨h1,h2⟩;exact⟨h1,fun h=>h2 (h.resolve_left e')⟩
   ·rintro ⟨h1,h2⟩;exact⟨h1,fun h=>h2 (.inr h)⟩
theorem maxV_le(first:List Int)(k:Nat)(z:Int):∀(g:List (List Int))(v:Nat)(last:List Int),(∀r∈g,∀x∈r,0≤x∧x<(last.length:Int)) →
  ((maxV first v last g).getD k 0≤z↔last.getD k 0≤z∧∀j,(k:Int)∈g.getD j []→first.getD (v+j) 0≤z)
 | [],v,last,_=>by simp[maxV]
 | row::g,v,last,h=>by
  rw[maxV,maxV_le first k z g (v+1) _ (fun r hr x hx=>by rw[maxK_len];exact h r (zI _ hr) x hx),maxK_le _ _ _ _ _ (h row (zM ..))]
  constructor
  ·rintro ⟨⟨h1,h2⟩,h3⟩
   refine⟨h1,fun j hj=>?_⟩
   cases j with
   | zero=>exact h2 hj
   | succ j =>
    have:=h3 j hj
    rw[show v+(j+1)=v+1+j by omega];exact this
  ·rintro ⟨h1,h2⟩
   refine⟨⟨h1,fun hm=>h2 0 hm⟩,fun j hj=>?_⟩
   have:=h2 (j+1) hj
   rw[show v+1+j=v+(j+1) by omega];exact this
theorem endK_get(n:Int)(k:Nat):∀(l last:List Int),(∀x∈l,0≤x∧x<(last.length:Int))→(endK n last l).getD k 0=if(k:Int)∈l then n else last.getD k 0
 | [],last,_=>by simp[endK]
 | x::l,last,h=>by
  have hx:=h x (zM ..)
  rw[endK,endK_get n k l _ (fun y hy=>by rw[yW];exact h y (zI _ hy)),getD_set' _ _ _ _ (by omega)]
  by_cases e:x.toNat=k
  ·have e':(k:Int)=x:=by omega
   rw[if_pos e,if_pos (show(k:Int)∈x::l from zO.2 (.inl e'))]
   split<;>rfl
  ·have e':¬(k:Int)=x:=by omega
   rw[if_neg e]
   simp only[zO,e',false_or]
theorem maxR_le(g:List (List Int))(v z:Int):∀(l:List Int)(i:Nat)(acc:Int),(maxR g v i l acc≤z↔acc≤z∧∀(j:Nat)(o:Int),l[j]?=some o→needsP g o v=true→((i+j:Nat):Int)≤z)
 | [],i,acc=>by simp[maxR]
 | x::l,i,acc=>by
  rw[maxR,maxR_le g v z l (i+1)]
  by_cases hp:needsP g x v=true
  ·rw[if_pos hp]
   constructor
   ·rintro ⟨h1,h2⟩
    refine⟨by omega,fun j o hj hn=>?_⟩
    cases j with
    | zero=>omega
    | succ j =>
     simp only[wI]at hj
     have:=h2 j o hj hn
     rw[show i+(j+1)=i+1+j by omega];exact this
   ·rintro ⟨h1,h2⟩
    have h0:=h2 0 x rfl hp
    refine⟨by simp at h0;omega,fun j o hj hn=>?_⟩
    have:=h2 (j+1) o (by simpa using hj) hn
    rw[show i+1+j=i+(j+1) by omega];exact this
  ·rw[if_neg hp]
   constructor
   ·rintro ⟨h1,h2⟩
    refine⟨h1,fun j o hj hn=>?_⟩
    cases j with
    | zero=>simp only[wH,sI]at hj;subst hj;exact absurd hn hp
    | succ j =>
     simp only[wI]at hj
     have:=h2 j o hj hn
     rw[show i+(j+1)=i+1+j by omega];exact this
   ·rintro ⟨h1,h2⟩
    refine⟨h1,fun j o hj hn=>?_⟩
    have:=h2 (j+1) o (by simpa using hj) hn
    rw[show i+1+j=i+(j+1) by omega];exact this
theorem endB_get(k:Nat):∀(l:List Int)(bs_:List Bool),k<bs_.length→(∀x∈l,x<(bs_.length:Int))→((endB bs_ l).getD k false=true↔bs_.getD k false=true∨(k:Int)∈l)
 | [],bs_,_,_=>by simp[endB]
 | x::l,bs_,hk,h=>by
  have hx:=h x (zM ..)
  rw[endB]
  by_cases h0:0≤x
  ·rw[if_pos h0,endB_get k l _ (by simpa using hk) (fun y hy=>by rw[yW];exact h y (zI _ hy)),zO]
   by_cases e:x.toNat=k
   ·have e':(k:Int)=x:=by omega
    have:(bs_.set x.toNat true).getD k false=true:=by
     rw[e,zF,yK hk];rfl
    rw[this];exact⟨fun _=>.inr (.inl e'),fun _=>.inl rfl⟩
   ·have e':¬(k:Int)=x:=by omega
    have:(bs_.set x.toNat true).getD k false=bs_.getD k false:=by
     rw[zF,yT e,←zF]
    rw[this];simp[e']
  ·rw[if_neg h0,endB_get k l _ hk (fun y hy=>h y (zI _ hy)),zO]
   have e':¬(k:Int)=x:=by omega
   simp[e']
theorem le_all{a b:Int}(h:∀z,a≤z↔b≤z):a=b:=by
 have h1:=(h b).2 (vR _)
 have h2:=(h a).1 (vR _)
 omega
section
variable(f:FlatV)(F:FitsS f)(G:GoodF f){ord:List Int}(P:PermO f.names.length ord)
include F G P
theorem endF_iff(k:Nat)(hk:k<f.names.length):(endF f).getD k false=true↔(k:Int)∈behF f:=by
 unfold endF behF
 rw[endB_get k _ _ (by simpa using hk) (fun x hx=>by rw[xM];exact endL_rng f G x hx),xL]
 have:(List.replicate f.names.length false).getD k false=false:=by
  rw[zF,wS];split<;>rfl
 rw[this]
 have hneg:¬((k:Int)<0):=by omega
 simp[hneg]
theorem lastF_get(k:Nat)(hk:k<f.names.length):(lastF f ord).getD k 0=lastR f ord k:=by
 unfold lastF
 have hfl:(firstF ord).length=f.names.length:=by rw[firstF_len,P.len]
 rw[endK_get _ k _ _ (fun x hx=>by rw[maxV_len,hfl];exact behF_rng f G x hx)]
 unfold lastR
 by_cases he:(k:Int)∈behF f
 ·rw[if_pos he,if_pos ((endF_iff f F G P k hk).2 he)]
 ·rw[if_neg he,if_neg (fun h=>he ((endF_iff f F G P k hk).1 h))]
  refine le_all fun z=>?_
  rw[maxV_le _ k z _ _ _ (fun r hr x hx=>by rw[hfl];exact NC_rng f F G r hr x hx),maxR_le,firstF_get P k hk,(P.pos k hk).1]
  refine and_congr Iff.rfl ?_
  constructor
  ·intro h j o hj hn
   have hoR:=P.rng o (zX hj)
   have hoe:((o.toNat:Nat):Int)=o:=by omega
   rw[←hoe]at hn hj
   have hm:=(needsP_NC f F G o.toNat k (by omega) hk).1 hn
   have:=h o.toNat hm
   rw[zB,firstF_get P _ (by omega),P.at_ hj]at this
   rw[zB];exact this
  ·intro h v hv
   have hvl:v<f.names.length:=by
    apply Classical.byContradiction
    intro hc
    rw[zF,xU (by rw[NC_len];omega)]at hv
    cases hv
   have hn:=(needsP_NC f F G v k hvl hk).2 hv
   have:=h (posO ord v) v (P.pos v hvl).2 hn
   rw[zB]at this
   rw[zB,firstF_get P _ hvl];exact this
theorem lastF_eq:lastF f ord=lastsR f ord:=by
 apply List.ext_getElem
 ·rw[lastF_len,P.len];simp[lastsR]
 ·intro k h1 h2
  have hk:k<f.names.length:=by simpa [lastsR]using h2
  have:=lastF_get f F G P k hk
  rw[zF,zE h1]at this
  simp only[wD]at this
  rw[this]
  simp[lastsR]
theorem lastR_ge(k:Nat)(hk:k<f.names.length):(posO ord k:Int)≤lastR f ord k:=by
 unfold lastR
 have hp:=P.lt hk
 split
 ·rw[P.len];omega
 ·have:=(maxR_le (NR f) k _ ord 0 (placeI ord k)).1 (vR _)
  rw[(P.pos k hk).1]at this ⊢
  exact this.1
end
end Go.Proofs.Ytcgbdndkfonphaa.Ai
namespace Go.Proofs.Ytcgbdndkfonphaa.Ai
open Go Go.Ai
theorem atF_eq(n:Nat):∀(l at_:List Int)(i:Nat),at_.length=n→(atF n at_ i l=some (setAll at_ i l)∧l.Nodup∧∀x∈l,(0≤x∧x<(n:Int))∧at_.getD x.toNat 0<0)∨(atF n at_ i l=none∧¬(l.Nodup∧∀x∈l,(0≤x∧x<(n:Int))∧at_.getD x.toNat 0<0))
 | [],at_,i,_=>.inl ⟨rfl,List.nodup_nil,by simp⟩
 | v::l,at_,i,ha=>by
  rw[atF,setAll]
  by_cases hc:v<0∨(n:Int)≤v∨0≤at_.getD v.toNat 0
  ·right
   rw[if_pos hc]
   refine⟨rfl,fun h=>?_⟩
   have:=h.2 v (zM ..)
   omega
  ·rw[if_neg hc]
   have gs:∀x:Int,0≤x→x<(n:Int)→((at_.set v.toNat i).getD x.toNat 0<0↔x≠v∧at_.getD x.toNat 0<0):=by
    intro x h0 h1
    rw[getD_set' _ _ _ _ (by omega)]
    by_cases e:v.toNat=x.toNat
    ·rw[if_pos e]
     have:x=v:=by omega
     simp[this]
    ·rw[if_neg e]
     have:x≠v:=by omega
     simp[this]
   rcases atF_eq n l (at_.set v.toNat i) (i+1) (by simpa using ha)with⟨h1,h2,h3⟩|⟨h1,h2⟩
   ·left
    refine⟨h1,?_,fun x hx=>?_⟩
    ·rw[xA]
     refine⟨fun hm=>?_,h2⟩
     have:=h3 v hm
     exact((gs v this.1.1 this.1.2).1 this.2).1 rfl
    ·rcases zO.1 hx with rfl|hx
     ·exact⟨⟨by omega,by omega⟩,by omega⟩
     ·have:=h3 x hx
      exact⟨this.1,((gs x this.1.1 this.1.2).1 this.2).2⟩
   ·right
    refine⟨h1,fun h=>h2 ?_⟩
    obtain⟨hn,hr⟩:=h
    rw[xA]at hn
    refine⟨hn.2,fun x hx=>?_⟩
    have:=hr x (zI _ hx)
    exact⟨this.1,(gs x this.1.1 this.1.2).2 ⟨fun e=>hn.1 (e▸hx),this.2⟩⟩
theorem needsAt_iff(at_:List Int):∀(g:List (List Int))(v:Nat),needsAt at_ v g=true↔∀j,j<g.length→behindA at_ (v+j) (g.getD j [])=true
 | [],v=>by simp[needsAt]
 | row::g,v=>by
  rw[needsAt,zL,needsAt_iff at_ g (v+1)]
  constructor
  ·rintro ⟨h1,h2⟩ j hj
   cases j with
   | zero=>exact h1
   | succ j =>
    have:=h2 j (by simpa using hj)
    rw[show v+(j+1)=v+1+j by omega];exact this
  ·intro h
   refine⟨h 0 (by simp),fun j hj=>?_⟩
   have:=h (j+1) (by simpa using hj)
   rw[show v+1+j=v+(j+1) by omega];exact this
structure OrdOk(f:FlatV)(ord:List Int):Prop where
 p:PermO f.names.length ord
 b:∀v k:Nat,v<f.names.length→k<f.names.length→(k:Int)∈(NC f).getD v []→posO ord k<posO ord v
section
variable(f:FlatV)(F:FitsS f)(G:GoodF f)
include F G
theorem ordered_iff{ord:List Int}(hl:ord.length=f.names.length):orderedF f ord=true↔OrdOk f ord:=by
 unfold orderedF
 have hm1:∀x:Nat,x<f.names.length→(List.replicate f.names.length (-1:Int)).getD x 0 = -1:=fun x hx=>by
  rw[zF,wS,if_pos hx];rfl
 rcases atF_eq f.names.length ord (List.replicate f.names.length (-1)) 0 (by simp)with⟨h1,h2,h3⟩|⟨h1,h2⟩
 ·rw[h1]
  simp only
  have P:PermO f.names.length ord:=⟨hl,fun x hx=>(h3 x hx).1,h2⟩
  have ga:∀v:Nat,v<f.names.length→(setAll (List.replicate f.names.length (-1)) 0 ord).getD v 0=(posO ord v:Int):=by
   intro v hv
   have:=(setAll_get ord (List.replicate f.names.length (-1)) 0 v P.nd (fun x hx=>by rw[xM];exact P.rng x hx)).1 _ (P.pos v hv).2
   rw[this];congr 1;omega
  rw[needsAt_iff]
  constructor
  ·intro h
   refine⟨P,fun v k hv hk hn=>?_⟩
   have:=h v (by rw[NC_len];exact hv)
   rw[zB]at this
   unfold behindA at this
   rw[zL,yY,yY,vP]at this
   have:=this.2 _ hn
   rw[xF,ga v hv,ga k hk]at this
   simp only[ge_iff_le,decide_eq_true_eq]at this
   omega
  ·intro h v hv
   rw[NC_len]at hv
   rw[zB]
   unfold behindA
   rw[zL,yY,yY,vP,ga v hv]
   refine⟨by simp,fun x hx=>?_⟩
   have hrow:(NC f).getD v []∈NC f:=by
    rw[zF,zE (by rw[NC_len];exact hv)];exact zV _
   have hxr:=NC_rng f F G _ hrow x hx
   have:=h.b v x.toNat hv (by omega) (by rw[show((x.toNat:Nat):Int)=x by omega];exact hx)
   rw[ga x.toNat (by omega)]
   simp;omega
 ·rw[h1]
  constructor
  ·intro h;cases h
  ·intro h
   exfalso
   refine h2 ⟨h.p.nd,fun x hx=>⟨h.p.rng x hx,?_⟩⟩
   rw[hm1 _ (by have:=h.p.rng x hx;omega)];omega
def sAt(ord slots:List Int)(k:Nat):Int:=slots.getD (ord.getD k 0).toNat 0
def lAt(ord last:List Int)(k:Nat):Int:=last.getD (ord.getD k 0).toNat 0
def Apart(ord slots last:List Int)(n:Nat):Prop:=∀i,i<n→∀k,k<i→sAt ord slots k=sAt ord slots i→lAt ord last k<(i:Int)
def MapAt(ord slots:List Int)(i:Nat)(m:Int→Option Int):Prop:=∀s,(m s=none∧∀k,k<i→sAt ord slots k≠s)∨∃k,k<i∧m s=some (ord.getD k 0)∧sAt ord slots k=s∧∀k',k<k'→k'<i→sAt ord slots k'≠s
omit F G in
theorem liesOk_iff(ord slots last:List Int):∀(j i:Nat)(m:Int→Option Int),j+i=ord.length→MapAt ord slots i m→Apart ord slots last i→(liesOk last slots i (ord.drop i) m=true↔Apart ord slots last ord.length)
 | 0,i,m,h,M,A=>by
  have hi:i=ord.length:=by omega
  subst hi
  rw[yB,liesOk]
  exact⟨fun _=>A,fun _=>rfl⟩
 | j+1,i,m,h,M,A=>by
  have hi:i<ord.length:=by omega
  have hg:ord.getD i 0=ord[i]:=by rw[zF,zE hi];rfl
  rw[zS hi,liesOk,←hg]
  have hs:slots.getD (ord.getD i 0).toNat 0=sAt ord slots i:=rfl
  rw[hs]
  have key:(match m (sAt ord slots i)with|some old=>decide (last.getD old.toNat 0<(i:Int))|none=>true)=true↔∀k,k<i→sAt ord slots k=sAt ord slots i→lAt ord last k<(i:Int):=by
   rcases M (sAt ord slots i)with⟨h1,h2⟩|⟨k,h1,h2,h3,h4⟩
   ·rw[h1]
    exact⟨fun _ k hk e=>absurd e (h2 k hk),fun _=>rfl⟩
   ·rw[h2]
    simp only[decide_eq_true_eq]
    constructor
    ·intro hl k' hk' e
     by_cases e1:k'=k
     ·subst e1;exact hl
     ·by_cases hlt:k<k'
      ·exact absurd e (h4 k' hlt hk')
      ·have:=A k h1 k' (by omega) (e.trans h3.symm)
       unfold lAt at this ⊢
       omega
    ·intro h
     exact h k h1 h3
  have M':MapAt ord slots (i+1) fun s=>if s=sAt ord slots i then some (ord.getD i 0)else m s:=by
   intro s
   by_cases e:s=sAt ord slots i
   ·right
    refine⟨i,by omega,if_pos e,e.symm,fun k' h1 h2=>by omega⟩
   ·rcases M s with⟨h1,h2⟩|⟨k,h1,h2,h3,h4⟩
    ·left
     refine⟨by simp only[if_neg e];exact h1,fun k hk=>?_⟩
     by_cases e2:k=i
     ·subst e2;exact fun h=>e h.symm
     ·exact h2 k (by omega)
    ·right
     refine⟨k,by omega,by simp only[if_neg e];exact h2,h3,fun k' h5 h6=>?_⟩
     by_cases e2:k'=i
     ·subst e2;exact fun h=>e h.symm
     ·exact h4 k' h5 (by omega)
  rw[zL]
  refine(and_congr key Iff.rfl).trans ?_
  constructor
  ·rintro ⟨h1,h2⟩
   refine(liesOk_iff ord slots last j (i+1) _ (by omega) M' (fun i' hi' k hk e=>?_)).1 h2
   by_cases e2:i'=i
   ·subst e2;exact h1 k hk e
   ·exact A i' (by omega) k hk e
  ·intro h
   refine⟨h i hi,(liesOk_iff ord slots last j (i+1) _ (by omega) M' (fun i' hi' k hk e=>?_)).2 h⟩
   exact h i' (by omega) k hk e
end
end Go.Proofs.Ytcgbdndkfonphaa.Ai
namespace Go.Proofs.Ytcgbdndkfonphaa.Ai
open Go Go.Ai
def Greedy(ord slots last:List Int)(i:Nat):Prop:=∀j,j<i→(∀k,k<j→sAt ord slots k=sAt ord slots j→lAt ord last k<(j:Int))∧0≤sAt ord slots j∧∀s:Nat,(s:Int)<sAt ord slots j→∃k,k<j∧sAt ord slots k=s∧(j:Int)≤lAt ord last k
section
variable {n:Nat}{ord last:List Int}(P:PermO n ord)(hll:last.length=n)
include P hll
theorem sAt_set{slots:List Int}(hs:slots.length=n){i:Nat}(hi:i<n)(x:Int){k:Nat}(hk:k<n):sAt ord (slots.set (ord.getD i 0).toNat x) k=if k=i then x else sAt ord slots k:=by
 unfold sAt
 have gi:ord[i]?=some (ord.getD i 0):=Ord.getI (by rw[P.len];exact hi)
 have gk:ord[k]?=some (ord.getD k 0):=Ord.getI (by rw[P.len];exact hk)
 have ri:=P.rng _ (zX gi)
 have rk:=P.rng _ (zX gk)
 rw[getD_set' _ _ _ _ (by omega)]
 by_cases e:k=i
 ·subst e;simp
 ·rw[if_neg e,if_neg]
  intro h
  have:ord.getD i 0=ord.getD k 0:=by omega
  rw[←this]at gk
  exact e (nodup_inj P.nd gk gi)
theorem greedy_unique{slots slots':List Int}(hs:slots.length=n)(hs':slots'.length=n)(A:Greedy ord slots last n)(B:Greedy ord slots' last n):slots=slots':=by
 have key:∀i,i<n→sAt ord slots i=sAt ord slots' i:=by
  intro i
  induction i using Nat.strongRecOn with
  | _ i ih =>
   intro hi
   obtain⟨a1,a2,a3⟩:=A i hi
   obtain⟨b1,b2,b3⟩:=B i hi
   rcases Int.lt_trichotomy (sAt ord slots i) (sAt ord slots' i)with h|h|h
   ·exfalso
    obtain⟨k,hk,e,hl⟩:=b3 (sAt ord slots i).toNat (by omega)
    have:=a1 k hk (by rw[ih k hk (by omega),e];omega)
    omega
   ·exact h
   ·exfalso
    obtain⟨k,hk,e,hl⟩:=a3 (sAt ord slots' i).toNat (by omega)
    have:=b1 k hk (by rw[←ih k hk (by omega),e];omega)
    omega
 apply List.ext_getElem (hs.trans hs'.symm)
 intro v h1 h2
 have hv:v<n:=by omega
 have:=key (posO ord v) (P.lt hv)
 unfold sAt at this
 have hp:=(P.pos v hv).2
 have:slots.getD v 0=slots'.getD v 0:=by
  have e:(ord.getD (posO ord v) 0).toNat=v:=by rw[zF,hp];simp
  rw[e]at this;exact this
 rw[zF,zF,zE h1,zE h2]at this
 simpa using this
theorem greedy_step{slots:List Int}(hs:slots.length=n){i:Nat}(hi:i<n)(A:Greedy ord slots last i){s:Nat}(h1:∀k,k<i→sAt ord slots k=s→lAt ord last k<(i:Int))(h2:∀t:Nat,t<s→∃k,k<i∧sAt ord slots k=t∧(i:Int)≤lAt ord last k) :
  Greedy ord (slots.set (ord.getD i 0).toNat s) last (i+1):=by
 have e:∀k,k<n→sAt ord (slots.set (ord.getD i 0).toNat s) k=if k=i then(s:Int)else sAt ord slots k:=fun k hk=>sAt_set P hll hs hi s hk
 intro j hj
 by_cases eji:j=i
 ·subst eji
  rw[e j hi,if_pos rfl]
  refine⟨fun k hk hse=>?_,by omega,fun t ht=>?_⟩
  ·rw[e k (by omega),if_neg (by omega)]at hse
   exact h1 k hk hse
  ·obtain⟨k,hk,k1,k2⟩:=h2 t (by omega)
   exact⟨k,hk,by rw[e k (by omega),if_neg (by omega)];exact k1,k2⟩
 ·obtain⟨a1,a2,a3⟩:=A j (by omega)
  rw[e j (by omega),if_neg eji]
  refine⟨fun k hk hse=>?_,a2,fun t ht=>?_⟩
  ·rw[e k (by omega),if_neg (by omega)]at hse
   exact a1 k hk hse
  ·obtain⟨k,hk,k1,k2⟩:=a3 t ht
   exact⟨k,hk,by rw[e k (by omega),if_neg (by omega)];exact k1,k2⟩
structure UOk(slots u:List Int)(i:Nat):Prop where
 b:∀k,k<i→0≤sAt ord slots k∧sAt ord slots k<(u.length:Int)
 u:∀s:Nat,s<u.length→∃k,k<i∧sAt ord slots k=s∧lAt ord last k=u.getD s 0∧∀k',k<k'→k'<i→sAt ord slots k'≠s
theorem uok_free{slots u:List Int}{i:Nat}(hi:i≤n)(A:Greedy ord slots last i)(U:UOk (ord:=ord) (last:=last) slots u i){s:Nat}(hs:s<u.length):u.getD s 0<(i:Int)↔∀k,k<i→sAt ord slots k=s→lAt ord last k<(i:Int):=by
 obtain⟨k,hk,k1,k2,k3⟩:=U.u s hs
 rw[←k2]
 constructor
 ·intro h k' hk' e
  by_cases e1:k'=k
  ·subst e1;exact h
  ·by_cases hlt:k<k'
   ·exact absurd e (k3 k' hlt hk')
   ·have:=(A k hk).1 k' (by omega) (e.trans k1.symm)
    omega
 ·intro h;exact h k hk k1
theorem plF_greedy:∀(j i:Nat)(slots u:List Int),j+i=n→slots.length=n→Greedy ord slots last i→UOk (ord:=ord) (last:=last) slots u i→(∀k,k<n→(k:Int)≤lAt ord last k) →
  Greedy ord (plF last i (ord.drop i) (u,slots)).2 last n∧UOk (ord:=ord) (last:=last) (plF last i (ord.drop i) (u,slots)).2 (plF last i (ord.drop i) (u,slots)).1 n
 | 0,i,slots,u,h,hs,A,U,hL=>by
  have hi:i=n:=by omega
  subst hi
  rw[←P.len,yB,plF,P.len]
  exact⟨A,U⟩
 | j+1,i,slots,u,h,hs,A,U,hL=>by
  have hi:i<n:=by omega
  have hio:i<ord.length:=by rw[P.len];exact hi
  have hg:ord[i]=ord.getD i 0:=by rw[zF,zE hio];rfl
  rw[zS hio,plF,hg]
  have gi:ord[i]?=some (ord.getD i 0):=Ord.getI hio
  have ri:=P.rng _ (zX gi)
  have free:=fun s hs'=>uok_free P hll (by omega:i≤n) A U (s:=s) hs'
  have e:∀(x:Int) k,k<n→sAt ord (slots.set (ord.getD i 0).toNat x) k=if k=i then x else sAt ord slots k:=fun x k hk=>sAt_set P hll hs hi x hk
  refine plF_greedy j (i+1) _ _ (by omega) (by simpa using hs) ?_ ?_ hL
  ·refine greedy_step P hll hs hi A ?_ ?_
   ·rcases findF_del (fun x=>decide (x<(i:Int))) u 0 with⟨h1,_⟩|⟨t,h1,h2,h3⟩
    ·have:slotOf i u=u.length:=by unfold slotOf;rw[h1];rfl
     rw[this]
     intro k hk hse
     have:=U.b k hk
     omega
    ·rw[zB]at h1
     have hst:slotOf i u=t:=by unfold slotOf;rw[h1,if_neg (by omega)];rfl
     rw[hst]
     refine(free t h2).1 ?_
     have hmem:¬(u.getD t 0)∈(u.take (t+1)).filter (fun x=>!decide (x<(i:Int)))∨u.getD t 0<(i:Int):=by
      by_cases hlt:u.getD t 0<(i:Int)
      ·exact .inr hlt
      ·left
       intro hm
       have hl:((u.take (t+1)).filter fun x=>!decide (x<(i:Int))).length=(u.take t).length:=by rw[h3]
       have htk:u.take (t+1)=u.take t++[u.getD t 0]:=by
        rw[tG,zF,zE h2];rfl
       rw[htk,uT,zN]at hl
       have hall:(u.take t).filter (fun x=>!decide (x<(i:Int)))=u.take t:=by
        rw[tD]
        intro y hy
        have:y∈(u.take (t+1)).filter (fun x=>!decide (x<(i:Int))):=by rw[h3];exact hy
        exact(xL.1 this).2
       rw[hall]at hl
       simp[hlt]at hl
       exact hlt (by rw[zF];exact hl)
     rcases hmem with hm|hm
     ·apply Classical.byContradiction
      intro hlt
      refine hm ?_
      rw[xL]
      refine⟨?_,by simpa using hlt⟩
      rw[zF,zE h2]
      refine zX (i:=t) ?_
      rw[yI,if_pos (by omega),zE h2];rfl
     ·exact hm
   ·intro t ht
    have hb:∀t,t<slotOf i u→t<u.length∧¬u.getD t 0<(i:Int):=by
     intro t ht
     rcases findF_del (fun x=>decide (x<(i:Int))) u 0 with⟨h1,h2⟩|⟨w,h1,h2,h3⟩
     ·have hsl:slotOf i u=u.length:=by unfold slotOf;rw[h1];rfl
      rw[hsl]at ht
      refine⟨ht,?_⟩
      rw[tD]at h2
      have:=h2 (u.getD t 0) (by rw[zF,zE ht];exact zV _)
      simpa using this
     ·rw[zB]at h1
      have hsl:slotOf i u=w:=by unfold slotOf;rw[h1,if_neg (by omega)];rfl
      rw[hsl]at ht
      refine⟨by omega,?_⟩
      have hy:u.getD t 0∈u.take w:=by
       rw[zF,zE (show t<u.length by omega)]
       refine zX (i:=t) ?_
       rw[yI,if_pos ht,zE (show t<u.length by omega)];rfl
      rw[←h3]at hy
      have:=(xL.1 hy).2
      simpa using this
    obtain⟨h1,h2⟩:=hb t ht
    rw[free t h1]at h2
    apply Classical.byContradiction
    intro hne
    refine h2 fun k hk hse=>?_
    apply Classical.byContradiction
    intro hc
    exact hne ⟨k,hk,hse,by omega⟩
  · -- what is known then
   have hsu:slotOf i u≤u.length:=(slotOf_lt i u).1
   have hul:(stepU last i (ord.getD i 0).toNat u).length=max u.length (slotOf i u+1):=by
    have:=(slotOf_lt i u).2
    unfold stepU at this ⊢
    rw[yW]at this ⊢
    exact this
   have hug:∀s:Nat,s<(stepU last i (ord.getD i 0).toNat u).length→(stepU last i (ord.getD i 0).toNat u).getD s 0=if s=slotOf i u then lAt ord last i else u.getD s 0:=by
    intro s hs'
    rw[hul]at hs'
    unfold stepU
    rw[Ord.getD_set]
    by_cases e1:slotOf i u=s
    ·rw[if_pos e1.symm,if_pos]
     ·rfl
     ·refine⟨e1,?_⟩
      split
      ·simp;omega
      ·rename_i hf
       unfold slotOf
       rw[if_neg hf]
       rcases findF_lt (fun x=>decide (x<(i:Int))) u 0 with h|⟨w,h1,h2⟩
       ·exact absurd h hf
       ·rw[h1];omega
    ·rw[if_neg (fun h:slotOf i u=s∧_=>e1 h.1),if_neg (show ¬s=slotOf i u from fun h=>e1 h.symm)]
     split
     ·rename_i hf
      have:slotOf i u=u.length:=by unfold slotOf;rw[if_pos hf]
      rw[zF,yC (by omega),←zF]
     ·rfl
   refine⟨fun k hk=>?_,fun s hs'=>?_⟩
   ·rw[e _ k (by omega),hul]
    by_cases ek:k=i
    ·rw[if_pos ek];simp only;omega
    ·rw[if_neg ek]
     have:=U.b k (by omega)
     omega
   ·rw[hug s hs']
    rw[hul]at hs'
    by_cases es:s=slotOf i u
    ·rw[if_pos es]
     refine⟨i,by omega,by rw[e _ i hi,if_pos rfl];simp only[es],rfl,fun k' h1 h2=>by omega⟩
    ·rw[if_neg es]
     obtain⟨k,hk,k1,k2,k3⟩:=U.u s (by omega)
     refine⟨k,by omega,by rw[e _ k (by omega),if_neg (by omega)];exact k1,k2,fun k' h1 h2=>?_⟩
     rw[e _ k' (by omega)]
     by_cases ek:k'=i
     ·rw[if_pos ek];exact fun h=>es (by simp only at h;omega)
     ·rw[if_neg ek];exact k3 k' h1 (by omega)
structure MOk(slots:List Int)(m:Int)(i:Nat):Prop where
 b:∀k,k<i→0≤sAt ord slots k∧sAt ord slots k<m
 u:m=0∨∃k,k<i∧sAt ord slots k+1=m
theorem takenL_iff(slots:List Int)(i:Nat)(hi:i≤n)(s:Int):takenL last slots i s (ord.take i)=true↔∃k,k<i∧sAt ord slots k=s∧(i:Int)≤lAt ord last k:=by
 unfold takenL
 rw[List.any_eq_true]
 constructor
 ·rintro ⟨v,hv,h⟩
  obtain⟨k,hk⟩:=wM hv
  rw[yI]at hk
  split at hk
  ·rename_i hlt
   rw[zL,beq_iff_eq,decide_eq_true_eq]at h
   have:ord.getD k 0=v:=by rw[zF,hk];rfl
   refine⟨k,hlt,?_,?_⟩
   ·unfold sAt;rw[this];exact h.1
   ·unfold lAt;rw[this];exact h.2
  ·cases hk
 ·rintro ⟨k,hk,h1,h2⟩
  have gk:ord[k]?=some (ord.getD k 0):=Ord.getI (by rw[P.len];omega)
  refine⟨ord.getD k 0,zX (i:=k) (by rw[yI,if_pos hk];exact gk),?_⟩
  unfold sAt at h1
  unfold lAt at h2
  rw[zL,beq_iff_eq,decide_eq_true_eq]
  exact⟨h1,h2⟩
theorem ofR_greedy:∀(j i:Nat)(slots:List Int)(m:Int),j+i=n→slots.length=n→Greedy ord slots last i→MOk (ord:=ord) slots m i →
  Greedy ord (ofR last ord i (ord.drop i) (slots,m)).1 last n∧MOk (ord:=ord) (ofR last ord i (ord.drop i) (slots,m)).1 (ofR last ord i (ord.drop i) (slots,m)).2 n
 | 0,i,slots,m,h,hs,A,M=>by
  have hi:i=n:=by omega
  subst hi
  rw[←P.len,yB,ofR,P.len]
  exact⟨A,M⟩
 | j+1,i,slots,m,h,hs,A,M=>by
  have hi:i<n:=by omega
  have hio:i<ord.length:=by rw[P.len];exact hi
  have hg:ord[i]=ord.getD i 0:=by rw[zF,zE hio];rfl
  rw[zS hio,ofR,hg]
  have e:∀(x:Int) k,k<n→sAt ord (slots.set (ord.getD i 0).toNat x) k=if k=i then x else sAt ord slots k:=fun x k hk=>sAt_set P hll hs hi x hk
  obtain⟨s1,s2,s3⟩:=slotR_spec ord last slots i (by omega)
  refine ofR_greedy j (i+1) _ _ (by omega) (by simpa using hs) ?_ ?_
  ·refine greedy_step P hll hs hi A ?_ ?_
   ·intro k hk hse
    apply Classical.byContradiction
    intro hc
    rw[←zH,takenL_iff P hll slots i (by omega)]at s2
    exact s2 ⟨k,hk,hse,by omega⟩
   ·intro t ht
    exact(takenL_iff P hll slots i (by omega) t).1 (s3 t ht)
  ·refine⟨fun k hk=>?_,?_⟩
   ·rw[e _ k (by omega)]
    by_cases ek:k=i
    ·rw[if_pos ek];simp only;omega
    ·rw[if_neg ek]
     have:=M.b k (by omega)
     simp only;omega
   ·right
    by_cases hm:m≤((slotR last slots ord i:Nat):Int)
    ·refine⟨i,by omega,?_⟩
     rw[e _ i hi,if_pos rfl]
     simp only;omega
    ·rcases M.u with h0|⟨k,hk,h0⟩
     ·omega
     ·by_cases hge:m≤((slotR last slots ord i+1:Nat):Int)
      ·refine⟨i,by omega,?_⟩
       rw[e _ i hi,if_pos rfl]
       simp only;omega
      ·refine⟨k,by omega,?_⟩
       rw[e _ k (by omega),if_neg (by omega)]
       simp only;omega
end
end Go.Proofs.Ytcgbdndkfonphaa.Ai
namespace Go.Proofs.Ytcgbdndkfonphaa.Ai
open Go Go.Ai
section
variable(f:FlatV)(F:FitsS f)(G:GoodF f)(hK:Ord.okL (NC f)=true)
include F G hK
theorem ordL_ok:OrdOk f (ordL (NC f)):=by
 have e0:ordL (NC f)=Ord.outL (NC f):=if_pos hK
 obtain⟨k1,k2,k3⟩:=ord_facts (NC f) hK
 rw[←e0,NC_len]at k1
 rw[←e0,NC_len]at k2
 rw[←e0]at k3
 have P:PermO f.names.length (ordL (NC f)):=⟨k1,k2,k3⟩
 refine⟨P,fun v k hv hk hm=>?_⟩
 obtain⟨ws,K⟩:=Ord.outL_ok (NC f)
 have hv2:=(P.pos v hv).2
 have hl:=P.lt hv
 have:=K.t (posO (ordL (NC f)) v) (by rw[←e0,k1];exact hl) k (by
  rw[←e0,zF,hv2]
  exact(need_NC f F G v k).2 hm)
 rw[←e0]at this
 obtain⟨j,hj⟩:=wM this
 rw[yI]at hj
 split at hj
 ·rename_i h
  rw[P.at_ hj];exact h
 ·cases hj
abbrev plS:List Int:=(slotsF f (ordL (NC f))).2
abbrev plN:Nat:=(slotsF f (ordL (NC f))).1.length
abbrev plL:List Int:=lastsR f (ordL (NC f))
omit F G hK in
theorem lastsR_len(ord:List Int):(lastsR f ord).length=f.names.length:=by simp[lastsR]
omit F G hK in
theorem lastsR_at{ord:List Int}(v:Nat)(hv:v<f.names.length):(lastsR f ord).getD v 0=lastR f ord v:=by
 rw[zF];simp[lastsR,hv]
omit hK in
theorem lAt_pos{ord:List Int}(P:PermO f.names.length ord)(v:Nat)(hv:v<f.names.length):lAt ord (lastsR f ord) (posO ord v)=lastR f ord v:=by
 unfold lAt
 have e:(ord.getD (posO ord v) 0).toNat=v:=by rw[zF,(P.pos v hv).2];simp
 rw[e,lastsR_at f v hv]
omit hK in
theorem sAt_pos{ord slots:List Int}(P:PermO f.names.length ord)(v:Nat)(hv:v<f.names.length):sAt ord slots (posO ord v)=slots.getD v 0:=by
 unfold sAt
 have e:(ord.getD (posO ord v) 0).toNat=v:=by rw[zF,(P.pos v hv).2];simp
 rw[e]
omit F G hK in
theorem at_pos{ord:List Int}(P:PermO f.names.length ord)(i:Nat)(hi:i<f.names.length):∃v:Nat,v<f.names.length∧ord[i]?=some (v:Int)∧posO ord v=i:=by
 have g:=Ord.getI (l:=ord) (n:=i) (by rw[P.len];exact hi)
 have r:=P.rng _ (zX g)
 refine⟨(ord.getD i 0).toNat,by omega,?_,?_⟩
 ·rw[wR r.1];exact g
 ·exact P.at_ (by rw[wR r.1];exact g)
omit hK in
theorem lAt_ge{ord:List Int}(P:PermO f.names.length ord)(k:Nat)(hk:k<f.names.length):(k:Int)≤lAt ord (lastsR f ord) k:=by
 obtain⟨v,h1,h2,h3⟩:=at_pos f P k hk
 have:=lastR_ge f F G P v h1
 rw[←h3,lAt_pos f F G P v h1];exact this
theorem pl_len:(plS f).length=f.names.length:=by
 have P:=(ordL_ok f F G hK).p
 unfold plS slotsF
 rw[plF_len,xM,P.len]
theorem pl_greedy:Greedy (ordL (NC f)) (plS f) (plL f) f.names.length∧UOk (ord:=ordL (NC f)) (last:=plL f) (plS f) (slotsF f (ordL (NC f))).1 f.names.length:=by
 have P:=(ordL_ok f F G hK).p
 have hL:=lastsR_len f (ordL (NC f))
 have h:=plF_greedy P hL f.names.length 0 (List.replicate (ordL (NC f)).length 0) [] (by omega) (by simp[P.len]) (fun j hj=>by omega) ⟨fun k hk=>by omega,fun s hs=>by simp at hs⟩ (fun k hk=>lAt_ge f F G P k hk)
 rw[zJ]at h
 unfold plS slotsF
 rw[lastF_eq f F G P]
 exact h
theorem ofR_pl:ofR (lastsR f (ordL (NC f))) (ordL (NC f)) 0 (ordL (NC f)) (List.replicate f.names.length 0,0)=(plS f,(plN f:Int)):=by
 have P:=(ordL_ok f F G hK).p
 have hL:=lastsR_len f (ordL (NC f))
 obtain⟨A,U⟩:=pl_greedy f F G hK
 obtain⟨B,M⟩:=ofR_greedy P hL f.names.length 0 (List.replicate f.names.length 0) 0 (by omega) (by simp) (fun j hj=>by omega) ⟨fun k hk=>by omega,.inl rfl⟩
 rw[zJ]at B M
 have len:∀(r:List Int)(i:Nat)(s:List Int×Int),(ofR (lastsR f (ordL (NC f))) (ordL (NC f)) i r s).1.length=s.1.length:=by
  intro r
  induction r with
  | nil=>intro i s;rfl
  | cons x r ih=>intro i s;rw[ofR,ih];simp
 have e1:=greedy_unique P hL (pl_len f F G hK) (by rw[len];simp) A B
 generalize ofR (lastsR f (ordL (NC f))) (ordL (NC f)) 0 (ordL (NC f)) (List.replicate f.names.length 0,0)=t at e1 M
 obtain⟨t1,t2⟩:=t
 simp only at e1 M
 subst e1
 have e2:t2=(plN f:Int):=by
  have h1:(plN f:Int)≤t2:=by
   by_cases h0:plN f=0
   ·rw[h0]
    rcases M.u with h|⟨k,hk,h⟩
    ·omega
    ·have:=M.b k hk;omega
   ·obtain⟨k,hk,e,_⟩:=U.u (plN f-1) (by show plN f-1<plN f;omega)
    have:=M.b k hk
    omega
  rcases M.u with h|⟨k,hk,h⟩
  ·omega
  ·have h3:=(U.b k hk).2
   change _<(plN f:Int)at h3
   omega
 rw[e2]
theorem pl_apart:Apart (ordL (NC f)) (plS f) (plL f) f.names.length:=fun i hi k hk hs=>((pl_greedy f F G hK).1 i hi).1 k hk hs
theorem pl_rng(v:Nat)(hv:v<f.names.length):0≤(plS f).getD v 0∧(plS f).getD v 0<(plN f:Int):=by
 have P:=(ordL_ok f F G hK).p
 have:=(pl_greedy f F G hK).2.b (posO (ordL (NC f)) v) (P.lt hv)
 rw[sAt_pos f F G P v hv]at this
 exact this
theorem pl_right(hG:goodOk f=true):rightF f (ordL (NC f)) (plS f) (plN f)=true:=by
 have O:=ordL_ok f F G hK
 have P:=O.p
 have hl:=pl_len f F G hK
 unfold rightF
 simp only[zL]
 refine⟨⟨⟨⟨⟨hG,?_⟩,?_⟩,?_⟩,?_⟩,?_⟩
 ·rw[P.len];exact beq_self_eq_true _
 ·rw[hl];exact beq_self_eq_true _
 ·rw[yY,vP]
  intro s hs
  obtain⟨v,hv⟩:=wM hs
  have hvl:=(zG.1 hv).1
  have:=pl_rng f F G hK v (by omega)
  rw[zF,hv]at this
  simp only[wD]at this
  simp;omega
 ·exact(ordered_iff f F G P.len).2 O
 ·have A:=pl_apart f F G hK
  have:=liesOk_iff (ordL (NC f)) (plS f) (plL f) f.names.length 0 (fun _=>none) (by rw[P.len];omega) (fun s=>.inl ⟨rfl,fun k hk=>by omega⟩) (fun i hi=>by omega)
  rw[zJ,P.len]at this
  rw[lastF_eq f F G P]
  exact this.2 A
def liveN(ord last:List Int)(i:Nat):Nat→Nat
 | 0=>0
 | k+1=>liveN ord last i k+if(i:Int)≤lAt ord last k then 1 else 0
def maxN(g:Nat→Nat):Nat→Nat
 | 0=>0
 | i+1=>Nat.max (maxN g i) (g i)
omit F G hK in
theorem liveN_eq(ord last:List Int)(i:Nat):∀k,liveN ord last i k=((List.range k).filter fun j=>decide ((i:Int)≤lAt ord last j)).length
 | 0=>rfl
 | k+1=>by
  rw[List.range_succ,uT,zN,liveN,liveN_eq ord last i k]
  congr 1
  by_cases h:(i:Int)≤lAt ord last k
  ·rw[if_pos h];simp[h]
  ·rw[if_neg h];simp[h]
omit F G hK in
theorem maxN_le(g:Nat→Nat)(m:Nat):∀n,(∀i,i<n→g i≤m)→maxN g n≤m
 | 0,_=>uI _
 | n+1,h=>by
  rw[maxN]
  exact Nat.max_le.2 ⟨maxN_le g m n (fun i hi=>h i (by omega)),h n (by omega)⟩
omit F G hK in
theorem maxN_ge(g:Nat→Nat):∀n i,i<n→g i≤maxN g n
 | 0,i,h=>by omega
 | n+1,i,h=>by
  rw[maxN]
  by_cases e:i=n
  ·subst e;exact xQ _ _
  ·exact vW (maxN_ge g n i (by omega)) (wF _ _)
omit F G hK in
theorem nodup_map_on{l:List Nat}{g:Nat→Nat}(hl:l.Nodup)(h:∀a∈l,∀b∈l,a<b→g a≠g b):(l.map g).Nodup:=by
 induction l with
 | nil=>simp
 | cons x l ih =>
  rw[xA]at hl
  rw[yJ,xA]
  refine⟨fun hm=>?_,ih hl.2 fun a ha b hb=>h a (zI _ ha) b (zI _ hb)⟩
  obtain⟨y,hy,e⟩:=zW.1 hm
  rcases Nat.lt_trichotomy x y with hxy|hxy|hxy
  ·exact h x (zM ..) y (zI _ hy) hxy e.symm
  ·exact hl.1 (hxy▸hy)
  ·exact h y (zI _ hy) x (zM ..) hxy e
theorem pl_least:(maxN (fun i=>liveN (ordL (NC f)) (plL f) i (i+1)) f.names.length)=plN f:=by
 obtain⟨A,U⟩:=pl_greedy f F G hK
 have P:=(ordL_ok f F G hK).p
 apply Nat.le_antisymm
 ·refine maxN_le _ _ _ fun i hi=>?_
  rw[liveN_eq]
  have hn:=nodup_map_on (l:=(List.range (i+1)).filter fun j=>decide ((i:Int)≤lAt (ordL (NC f)) (plL f) j)) (g:=fun j=>(sAt (ordL (NC f)) (plS f) j).toNat) (List.nodup_range.filter _) (fun a ha b hb hab=>by
   rw[xL,yS,decide_eq_true_eq]at ha hb
   intro e
   have u1:=U.b a (by omega)
   have u2:=U.b b (by omega)
   have:=(A b (by omega)).1 a hab (by omega)
   omega)
  have:=nodup_le (m:=List.range (plN f)) hn (fun x hx=>by
   obtain⟨j,hj,rfl⟩:=zW.1 hx
   rw[xL,yS]at hj
   have:=U.b j (by omega)
   rw[yS]
   show(sAt (ordL (NC f)) (plS f) j).toNat<plN f
   have h3:=this.2
   change _<(plN f:Int)at h3
   omega)
  rw[yV,uU]at this
  exact this
 ·by_cases h0:plN f=0
  ·omega
  ·obtain⟨k,hk,e,_⟩:=U.u (plN f-1) (by show plN f-1<plN f;omega)
   refine vW ?_ (maxN_ge _ _ k hk)
   rw[liveN_eq]
   have:=nodup_le (l:=List.range (plN f)) (m:=((List.range (k+1)).filter fun j=>decide ((k:Int)≤lAt (ordL (NC f)) (plL f) j)).map fun j=>(sAt (ordL (NC f)) (plS f) j).toNat) List.nodup_range (fun s hs=>by
    rw[yS]at hs
    rw[zW]
    by_cases es:s=plN f-1
    ·refine⟨k,?_,by omega⟩
     rw[xL,yS,decide_eq_true_eq]
     exact⟨by omega,lAt_ge f F G P k hk⟩
    ·obtain⟨j,h1,h2,h3⟩:=(A k hk).2.2 s (by omega)
     refine⟨j,?_,by omega⟩
     rw[xL,yS,decide_eq_true_eq]
     exact⟨by omega,h3⟩)
   rw[yV,uU]at this
   exact this
end
end Go.Proofs.Ytcgbdndkfonphaa.Ai
namespace Go.Proofs.Ytcgbdndkfonphaa.Ai
open Go Go.Ai
variable {call:CallF}{mt:MtF}{md:FuncId→Md}
theorem store_pl(f:FlatV)(R:List AO){O S:AV}{o s:List Int}(hO:RowA O o)(hS:RowA S s)(m:Int)(x:List AV)(hx:x.length=3)(r:Nat)(H:List AO)(h:H[r]?=some (.row x 32)):storeAt H 3 (.ptr r 0) (planA O S m)=some (setL H r (.row [O,S,litI .i64 m] 32)) :=
 storeAt_agg (cs:=x) h hx rfl (by simp[hO.cell.1,hS.cell.1];rfl)
abbrev zPl:List AV:=[.sl 0 [] (some 0),.sl 0 [] (some 0),litI .i64 0]
end Go.Proofs.Ytcgbdndkfonphaa.Ai
namespace Go.Proofs.Ytcgbdndkfonphaa.Ai
open Go Go.Ai
variable {call:CallF}{mt:MtF}{md:FuncId→Md}
theorem liveN_bd(ord last:List Int)(i:Nat):∀k,liveN ord last i k≤k
 | 0=>zT _
 | k+1=>by
  rw[liveN]
  have:=liveN_bd ord last i k
  split<;>omega
section
variable(f:FlatV)(B S:AV)(m:Int)(ord:List Int)(hB:RowA B ord)(last:List Int)(c:Option Nat)(hll:last.length=ord.length)(hr:∀x∈ord,0≤x∧x<(ord.length:Int))(hol:ord.length≤100000)
include hB hll hr hol
end
end Go.Proofs.Ytcgbdndkfonphaa.Ai
namespace Go.Proofs.Ytcgbdndkfonphaa.Ai
open Go Go.Ai
variable {call:CallF}{mt:MtF}{md:FuncId→Md}
theorem cat_drop:∀(T:List (List AV))(v:Nat),(∀x∈T,x.length=10)→v≤T.length→T.flatten.drop (v*10)=(T.drop v).flatten
 | T,0,_,_=>by simp
 | [],v+1,_,h=>by simp at h
 | x::T,v+1,h,hv=>by
  have hx:=h x (zM ..)
  rw[wE,List.drop_append,tF (by omega),yF,hx,show(v+1)*10-10=v*10 by omega,uZ]
  exact cat_drop T v (fun y hy=>h y (zI _ hy)) (by simpa using hv)
theorem cat_take:∀(T:List (List AV))(v:Nat),(∀x∈T,x.length=10)→v≤T.length→T.flatten.take (v*10)=(T.take v).flatten
 | T,0,_,_=>by simp
 | [],v+1,_,h=>by simp at h
 | x::T,v+1,h,hv=>by
  have hx:=h x (zM ..)
  rw[wE,List.take_append,xW (by omega),hx,show(v+1)*10-10=v*10 by omega,vS,wE]
  rw[cat_take T v (fun y hy=>h y (zI _ hy)) (by simpa using hv)]
theorem cat_len:∀(T:List (List AV)),(∀x∈T,x.length=10)→T.flatten.length=T.length*10
 | [],_=>rfl
 | x::T,h=>by
  rw[wE,zN,cat_len T (fun y hy=>h y (zI _ hy)),h x (zM ..),zC];omega
theorem cat_load{H:List AO}{r:Nat}{T:List (List AV)}{t:TypeId}{v:Nat}{x:List AV}(h:H[r]?=some (.row T.flatten t))(hT:∀x∈T,x.length=10)(hv:T[v]?=some x):Ai.load H (some 10) (.ptr r (0+v*10))=some (.agg x):=by
 obtain⟨h1,h2⟩:=zG.1 hv
 have hx:=hT x (zX hv)
 have e:T.flatten.drop (0+v*10)=x++(T.drop (v+1)).flatten:=by
  rw[zB,cat_drop T v hT (by omega),zS h1,wE,h2]
 simp only[Ai.load,rowAt_of h,zD,e]
 show(bif Nat.ble 10 (x++(T.drop (v+1)).flatten).length then some (AV.agg ((x++(T.drop (v+1)).flatten).take 10))else none)=_
 rw[yH (by rw[zN];omega),cond_true,←hx,List.take_left]
theorem cat_store{H:List AO}{r:Nat}{T:List (List AV)}{t:TypeId}{v:Nat}{x:List AV}(h:H[r]?=some (.row T.flatten t))(hT:∀x∈T,x.length=10)(hv:v<T.length)(hx:x.length=10)(hc:x.all cellA=true):storeAt H 10 (.ptr r (0+v*10)) (.agg x)=some (setL H r (.row (T.set v x).flatten t)):=by
 have hle:Nat.ble (0+v*10+10) T.flatten.length=true:=yH (by rw[cat_len T hT];omega)
 simp only[storeAt,rowAt_of h,zD,cellsOf,hx,hc,hle,beq_self_eq_true,yX,cond_true]
 congr 3
 rw[zB,show v*10+10=(v+1)*10 by omega,cat_take T v hT (by omega),cat_drop T (v+1) hT (by omega),List.set_eq_take_append_cons_drop,if_pos hv,List.flatten_append,wE,zU]
theorem reps_cat(z:List AV):∀n,reps n z=(List.replicate n z).flatten
 | 0=>rfl
 | n+1=>by rw[reps,reps_cat z n,List.replicate_succ,wE]
theorem iadr_own10{r n:Nat}{c:Option Nat}{x:Int}(h0:0≤x)(h1:x<(n:Int)):iadr 10 (.own r 0 n 10 c) (litI .i64 x)=some (.ptr r (0+x.toNat*10)):=by
 rw[iadr_own,if_pos ⟨h0,h1⟩]
theorem eqn_cells(q:Eqn):q.cs.all cellA=true:=rfl
def setT(T:List (List AV)):List Eqn→List (List AV)
 | []=>T
 | q::l=>setT (T.set q.var.toNat q.cs) l
theorem setT_10:∀(l:List Eqn)(T:List (List AV)),(∀x∈T,x.length=10)→∀x∈setT T l,x.length=10
 | [],_,h=>h
 | q::l,T,h=>by
  rw[setT]
  refine setT_10 l _ fun x hx=>?_
  rcases tB hx with hx|rfl
  ·exact h x hx
  ·rfl
theorem setT_other(v:Nat):∀(l:List Eqn)(T:List (List AV)),(∀q∈l,q.var.toNat≠v)→(setT T l)[v]?=T[v]?
 | [],_,_=>rfl
 | q::l,T,h=>by
  rw[setT,setT_other v l _ fun q' hq=>h q' (zI _ hq),yT (h q (zM ..))]
theorem setT_get:∀(l:List Eqn)(T:List (List AV)),(∀q∈l,0≤q.var∧q.var<(T.length:Int))→(l.map (·.var)).Nodup→∀q∈l,(setT T l)[q.var.toNat]?=some q.cs
 | [],_,_,_=>by simp
 | q::l,T,h,hn=>by
  rw[yJ,xA]at hn
  have hq:=h q (zM ..)
  intro q' hq'
  rw[setT]
  rcases zO.1 hq' with rfl|hq'
  ·rw[setT_other _ l _ fun q2 h2 e=>?_,yK (by omega)]
   have h3:=h q2 (zI _ h2)
   exact hn.1 (zW.2 ⟨q2,h2,by omega⟩)
  ·exact setT_get l _ (fun q2 h2=>by rw[yW];exact h q2 (zI _ h2)) hn.2 q' hq'
section
variable(f:FlatV)(F:FitsS f)(G:GoodF f)(B S:AV)(m:Nat)
include F G
end
end Go.Proofs.Ytcgbdndkfonphaa.Ai
namespace Go.Proofs.Ytcgbdndkfonphaa.Ai
open Go Go.Ai
variable {call:CallF}{mt:MtF}{md:FuncId→Md}
theorem plN_le(f:FlatV)(F:FitsS f)(G:GoodF f)(hK:Ord.okL (NC f)=true):plN f≤f.names.length:=by
 rw[←pl_least f F G hK]
 refine maxN_le _ _ _ fun i hi=>?_
 have:=liveN_bd (ordL (NC f)) (plL f) i (i+1)
 omega
end Go.Proofs.Ytcgbdndkfonphaa.Ai
namespace Go.Proofs.Ytcgbdndkfonphaa.Ai
open Go Go.Ai
set_option maxRecDepth 100000
theorem flat_arg{a:AV}(h:argSh Try.prog 29 tFlat a):∃f:FlatV,a=flatA f:=by
 unfold argSh at h
 rw[Try.underlying29]at h
 simp only at h
 obtain⟨xs,rfl,h2⟩:=h
 obtain⟨f,rfl⟩:=flat_sh h2
 exact⟨f,rfl⟩
end Go.Proofs.Ytcgbdndkfonphaa.Ai
namespace Go.Proofs.Ytcgbdndkfonphaa.Ai
open Go Go.Ai
variable {call:CallF}{mt:MtF}{md:FuncId→Md}
def SlZ(A:AV)(l:List Int)(o:List Obj1):Prop:=(A=.sl 0 [] (some 0)∧l=[]∧o=[])∨∃p,l≠[]∧A=.own p 0 l.length 1 none∧o=[(p,cellsI l,3)]
theorem SlZ.nil:SlZ (.sl 0 [] (some 0)) [] []:=.inl ⟨rfl,rfl,rfl⟩
theorem SlZ.push{A:AV}{l:List Int}{o d:List Obj1}{H:List AO}(S:SlZ A l o)(O:Own H (o++d))(y:Int)(hb:l.length≤100000) :
  ∃A' o' H',App (Ai.append H H.length 1 8 3 A (rowC [y] (some 1))) H A' H'∧SlZ A' (l++[y]) o'∧Own H' (o'++d):=by
 have h8:Nat.ble ((l.length+1)*8) 140737488355328=true:=yH (by omega)
 rcases S with⟨rfl,rfl,rfl⟩|⟨p,hne,rfl,rfl⟩
 ·exact⟨.own H.length 0 1 1 none,[(H.length,cellsI [y],3)],H++[.row (cellsI [y]) 3],.inr (.inl ⟨.row (cellsI [y]) 3,rfl,rfl⟩),.inr ⟨H.length,by simp,rfl,rfl⟩,O.new (cellsI [y]) 3⟩
 ·have hp:H[p]?=some (.row (cellsI l) 3):=O.head
  refine⟨.own H.length 0 (l++[y]).length 1 none,[(H.length,cellsI (l++[y]),3)],setL H p .dead++[.row (cellsI (l++[y])) 3],.inr (.inr ?_),.inr ⟨H.length,by simp,rfl,rfl⟩,?_⟩
  ·have h2:(cellsI l).take (l.length*1)=cellsI l:=xW (by simp[cellsI])
   have h3:Nat.ble (0+l.length*1) (cellsI l).length=true:=yH (by simp[cellsI])
   unfold Ai.append
   rw[(RowA.of [y] (some 1)).elems]
   simp only[zD,zC,zA,zB,Nat.reduceBEq,cond_false,rowAt_of hp,BEq.rfl,h3,h8,yX,cond_true,zJ,h2]
   simp[cellsI,yH (zT l.length)]
  ·have On:=(Own.kill O).new (cellsI (l++[y])) 3
   rw[setL_len]at On
   exact On
theorem SlZ.lenV{A:AV}{l:List Int}{o:List Obj1}(h:SlZ A l o):Ai.lenV A=some (litI .i64 l.length):=by
 rcases h with⟨rfl,rfl,_⟩|⟨p,_,rfl,_⟩<;>rfl
def newS(id:Nat)(l:List Int):Option Out:=if l=[]then some (.val (.sl 0 [] (some 0)) none)else some (.val (.own id 0 l.length 1 none) (some (.row (cellsI l) 3)))
theorem flat_ints(l:List Int):(cellsI l).all (flat frzF)=true:=by
 rw[yD];intro a ha
 unfold cellsI at ha
 obtain⟨x,_,rfl⟩:=zW.1 ha
 rfl
theorem callV_newS{f:FuncId}{args ys:List AV}{ids:List Nat}{A:AV}{l:List Int}{o:List Obj1}{H H':List AO}{id:Nat}(hm:mds f=.own)(hf:mapL (frz H frzF) args=some (ys,ids))(h:cw f ys []=some (.ret A,H'))(S:SlZ A l o)(O:Own H' o):callV cw mds f args H id=newS id l:=by
 unfold callV
 rw[hm]
 simp only
 rw[hf]
 simp only[zD]
 rw[h]
 simp only[zD]
 rcases S with⟨rfl,rfl,rfl⟩|⟨p,hne,rfl,rfl⟩
 ·simp only[newS,if_true]
  rw[show frz H' frzF (.sl 0 [] (some 0))=some (.sl 0 [] (some 0),[])from rfl]
  simp only[zD]
  rw[show light H' (.sl 0 [] (some 0)) (.sl 0 [] (some 0))=true from rfl,xD]
  rfl
 ·have hp:H'[p]?=some (.row (cellsI l) 3):=O.head
  rw[newS,if_neg hne]
  simp only
  rw[rowAt_of hp]
  simp only[zD]
  rw[show frzF=15+1 from rfl,mapL_whole (Ord.cells_whole l)]
  simp only[zD]
  rw[show 15+1=frzF from rfl,flat_ints,xD]
  rfl
def slotV(slots:List Int)(v:Int):Int:=if v<0 then -1 else slots.getD v.toNat 0
def mkC(f:FlatV)(O S:AV)(m:Int)(out:List AV):List AV:=f.cs++(O::S::litI .i64 m::out)
theorem slot_tells(f:FlatV){O S:AV}{slots:List Int}(hS:RowA S slots)(m:Int)(out:List AV)(v:Int)(hv:v<slots.length):cw 49 [.ip (mkC f O S m out),litI .i64 v] []=some (.ret (litI .i64 (slotV slots v)),[]):=by
 refine cw_of fn49 (c:=c49) rfl rfl rfl rfl ?_
 have n1:nilck (.ip (mkC f O S m out))=some (.ip (mkC f O S m out)):=rfl
 have f8:fadr 8 (.ip (mkC f O S m out))=some (.ip (O::S::litI .i64 m::out)):=rfl
 have f1:fadr 1 (.ip (O::S::litI .i64 m::out))=some (.ip (S::litI .i64 m::out)):=rfl
 have l1:∀H,Ai.load H none (.ip (S::litI .i64 m::out))=some S:=fun _=>rfl
 by_cases h0:v<0
 ·rw[slotV,if_pos h0]
  simp -implicitDefEqProofs only[c49,aW,↓aP,makes,reduceLT,reduceEqDiff,reduceAdd,h0]
  rfl
 ·rw[slotV,if_neg h0]
  have iS:iadr 1 S (litI .i64 v)=some (.ip [litI .i64 (slots.getD v.toNat 0)]):=by
   have:=hS.iadr (Ord.getI (l:=slots) (n:=v.toNat) (by omega))
   rw[wR (by omega)]at this
   exact this
  simp -implicitDefEqProofs only[c49,aW,↓aP,makes,reduceLT,reduceEqDiff,reduceAdd,h0,core_nilck,n1,f8,f1,l1,iS]
  rfl
theorem slotIp_call(f:FlatV){O S:AV}{slots:List Int}(hS:RowA S slots)(m:Int)(out:List AV)(v:Int)(hv:v<slots.length)(H:List AO)(id:Nat):callV cw mds 49 [.ip (mkC f O S m out),litI .i64 v] H id=some (.val (litI .i64 (slotV slots v)) none) :=
 callV_flat (p:=([.ip (mkC f O S m out),litI .i64 v],[])) rfl (by rw[show frzF=15+1 from rfl,mapL_whole rfl]) (slot_tells f hS m out v hv)
def Lent(H:List AO)(p:Nat)(f:FlatV)(O S:AV)(m:Int):Prop:=∃out ids,frz H frzF (.ptr p 0)=some (.ip (mkC f O S m out),ids)
theorem slot_call{H:List AO}{p:Nat}{f:FlatV}{O S:AV}{m:Int}(L:Lent H p f O S m){slots:List Int}(hS:RowA S slots)(v:Int)(hv:v<slots.length)(id:Nat):callV cw mds 49 [.ptr p 0,litI .i64 v] H id=some (.val (litI .i64 (slotV slots v)) none):=by
 obtain⟨out,ids,h⟩:=L
 exact callV_flat (p:=([.ip (mkC f O S m out),litI .i64 v],ids++[])) rfl (by simp only[mapL,h,zD];rfl) (slot_tells f hS m out v hv)
theorem map_loop(fv Y:AV)(l:List Int)(t:Int→Int)(hY:RowA Y l)(hp:∀x∈l,∀H id,fnV cw mds fv [litI .i64 x] H id=some (.val (litI .i64 (t x)) none))(hl:l.length≤100000)(d:List Obj1):∀(m i:Nat)(A:AV)(o:List Obj1)(H:List AO),m+i=l.length→SlZ A ((l.take i).map t) o→Own H (o++d) →
  ∃A' o' H',loopW (codeW cw (lookM mtl) mds c52l0) [1,5,8,9,10] [(1,fv),(5,A),(8,Y),(9,litI .i64 l.length),(10,litI .i64 i)] H =
   some (.exit 0,[(1,fv),(5,A'),(8,Y),(9,litI .i64 l.length),(10,litI .i64 l.length),(11,litB false)],H')∧SlZ A' (l.map t) o'∧Own H' (o'++d)
 | 0,i,A,o,H,h,S,O=>by
  have hi:i=l.length:=by omega
  subst hi
  rw[xR]at S
  refine⟨A,o,H,loopW_out ?_ (by simp),S,O⟩
  simp -implicitDefEqProofs only[c52l0,aW,↓aP,makes,reduceLT,reduceEqDiff,reduceAdd,zR]
 | m+1,i,A,o,H,h,S,O=>by
  have hi:i<l.length:=by omega
  have hg:l[i]?=some l[i]:=zE hi
  have hlt:(i:Int)<l.length:=by omega
  have hx:=hp l[i] (zV hi)
  obtain⟨A1,o1,H1,ap,S1,O1⟩:=S.push O (t l[i]) (by simp;omega)
  have e:(l.take i).map t++[t l[i]]=(l.take (i+1)).map t:=by rw[List.take_succ_eq_append_getElem hi,vG];rfl
  rw[e]at S1
  obtain⟨A',o',H',L,S',O'⟩:=map_loop fv Y l t hY hp hl d m (i+1) A1 o1 H1 (by omega) S1 O1
  refine⟨A',o',H',loopW_round ?_ L,S',O'⟩
  generalize l[i]=x at hg hx ap
  simp -implicitDefEqProofs only[c52l0,aW,↓aP,makes,reduceLT,reduceEqDiff,reduceAdd,hlt,hY.iadr hg,load_ip1,hx,core_bsl,bslV_1r,ap.opS,wrap1 (show i<4611686018427387904 by omega)]
theorem map_tells(fv Y:AV)(l:List Int)(t:Int→Int)(hY:RowA Y l)(hp:∀x∈l,∀H id,fnV cw mds fv [litI .i64 x] H id=some (.val (litI .i64 (t x)) none))(hl:l.length≤100000):∃A o H',cw 52 [Y,fv] []=some (.ret A,H')∧SlZ A (l.map t) o∧Own H' o:=by
 obtain⟨A,o,H',L,S,O⟩:=map_loop fv Y l t hY hp hl [] l.length 0 (.sl 0 [] (some 0)) [] [] (by omega) SlZ.nil ⟨by simp,by simp⟩
 rw[show((0:Nat):Int)=0 from rfl]at L
 rw[zZ]at O
 refine⟨A,o,H',cw_of fn52 (c:=c52) rfl rfl rfl rfl ?_,S,O⟩
 simp -implicitDefEqProofs only[c52,aW,↓aP,makes,reduceLT,reduceEqDiff,reduceAdd,hY.lenV,L]
 rfl
theorem map_call{fv fv' Y:AV}{ids:List Nat}{H:List AO}{l:List Int}{t:Int→Int}(hY:RowA Y l)(hf:frz H frzF fv=some (fv',ids))(hp:∀x∈l,∀H id,fnV cw mds fv' [litI .i64 x] H id=some (.val (litI .i64 (t x)) none))(hl:l.length≤100000)(id:Nat):callV cw mds 52 [Y,fv] H id=newS id (l.map t):=by
 obtain⟨A,o,H',h,S,O⟩:=map_tells fv' Y l t hY hp hl
 have hy:frz H frzF Y=some (Y,[]):=frz_whole hY.whole 15
 exact callV_newS (ys:=[Y,fv']) (ids:=[]++(ids++[])) rfl (by simp only[mapL,hy,hf,zD]) h S O
theorem slots_tells(f:FlatV){O S:AV}{slots:List Int}(hS:RowA S slots)(m:Int)(out:List AV){Y:AV}{l:List Int}(hY:RowA Y l)(hl:l.length≤100000)(hv:∀v∈l,v<slots.length):∃A o H',cw 48 [.ip (mkC f O S m out),Y] []=some (.ret A,H')∧SlZ A (l.map (slotV slots)) o∧Own H' o:=by
 have hc:=fun H id=>map_call (fv:=.fn (.func 49) [.ip (mkC f O S m out)] []) (fv':=.fn (.func 49) [.ip (mkC f O S m out)] []) (ids:=[]) (H:=H) (t:=slotV slots) hY rfl (fun x hx H id=>slotIp_call f hS m out x (hv x hx) H id) hl id
 by_cases h0:l.map (slotV slots)=[]
 ·have hc':∀H id,callV cw mds 52 [Y,.fn (.func 49) [.ip (mkC f O S m out)] []] H id=some (.val (.sl 0 [] (some 0)) none):=fun H id=>by rw[hc,newS,if_pos h0]
  refine⟨.sl 0 [] (some 0),[],[],cw_of fn48 (c:=c48) rfl rfl rfl rfl ?_,by rw[h0];exact SlZ.nil,⟨by simp,by simp⟩⟩
  simp -implicitDefEqProofs only[c48,aW,↓aP,makes,reduceLT,reduceEqDiff,reduceAdd,core_mkf,hc']
  rfl
 ·have hc':∀H id,callV cw mds 52 [Y,.fn (.func 49) [.ip (mkC f O S m out)] []] H id=some (.val (.own id 0 (l.map (slotV slots)).length 1 none) (some (.row (cellsI (l.map (slotV slots))) 3))):=fun H id=>by rw[hc,newS,if_neg h0]
  refine⟨.own 0 0 (l.map (slotV slots)).length 1 none,[(0,cellsI (l.map (slotV slots)),3)],[.row (cellsI (l.map (slotV slots))) 3],cw_of fn48 (c:=c48) rfl rfl rfl rfl ?_,.inr ⟨0,h0,rfl,rfl⟩,⟨by simp,fun x hx=>?_⟩⟩
  ·generalize l.map (slotV slots)=r at hc'
   simp -implicitDefEqProofs only[c48,aW,↓aP,makes,reduceLT,reduceEqDiff,reduceAdd,core_mkf,hc',zA]
   rfl
  ·simp only[zO,yG,or_false]at hx
   subst hx;rfl
theorem slots_call{H:List AO}{p:Nat}{f:FlatV}{O S:AV}{m:Int}(L:Lent H p f O S m){slots:List Int}(hS:RowA S slots){Y:AV}{l:List Int}(hY:RowA Y l)(hl:l.length≤100000)(hv:∀v∈l,v<slots.length)(id:Nat):callV cw mds 48 [.ptr p 0,Y] H id=newS id (l.map (slotV slots)):=by
 obtain⟨out,ids,h⟩:=L
 obtain⟨A,o,H',ht,St,Ot⟩:=slots_tells f hS m out hY hl hv
 have hy:frz H frzF Y=some (Y,[]):=frz_whole hY.whole 15
 exact callV_newS (ys:=[.ip (mkC f O S m out),Y]) (ids:=ids++([]++[])) rfl (by simp only[mapL,h,hy,zD]) ht St Ot
end Go.Proofs.Ytcgbdndkfonphaa.Ai
namespace Go.Proofs.Ytcgbdndkfonphaa.Ai
open Go Go.Ai
variable {call:CallF}{mt:MtF}{md:FuncId→Md}
theorem rowAt_app(H Y:List AO)(j:Nat):Ai.rowAt (H++Y) (H.length+j)=Ai.rowAt Y j:=by
 unfold Ai.rowAt
 rw[wJ (by omega),Nat.add_sub_cancel_left]
theorem load_app(H Y:List AO)(n:Option Nat)(j o:Nat):Ai.load (H++Y) n (.ptr (H.length+j) o)=Ai.load Y n (.ptr j o):=by
 simp only[Ai.load,rowAt_app]
theorem load_app0(H Y:List AO)(n:Option Nat)(o:Nat):Ai.load (H++Y) n (.ptr H.length o)=Ai.load Y n (.ptr 0 o):=load_app H Y n 0 o
theorem setL_app(H Y:List AO)(j:Nat)(x:AO):setL (H++Y) (H.length+j) x=H++setL Y j x:=by
 unfold setL
 rw[List.set_append_right _ _ (by omega),Nat.add_sub_cancel_left]
theorem store_app(H Y:List AO)(n j o:Nat)(x:AV):storeAt (H++Y) n (.ptr (H.length+j) o) x=(storeAt Y n (.ptr j o) x).map (H++·):=by
 simp only[storeAt,rowAt_app]
 cases Ai.rowAt Y j with
 | none=>rfl
 | some c =>
  simp only[zD]
  cases ((cellsOf x).length==n&&(cellsOf x).all cellA&&Nat.ble (o+n) c.1.length)with
  | false=>rfl
  | true=>simp only[cond_true,yR,setL_app]
theorem Lent.ext{H:List AO}{p:Nat}{f:FlatV}{O S:AV}{m:Int}(L:Lent H p f O S m)(Y:List AO):Lent (H++Y) p f O S m:=by
 obtain⟨out,ids,h⟩:=L
 exact⟨out,ids,frz_ext _ _ _ h⟩
def newA(id:Nat)(l:List Int):AV:=if l=[]then .sl 0 [] (some 0)else .own id 0 l.length 1 none
def newO(l:List Int):AO:=if l=[]then .dead else .row (cellsI l) 3
theorem newS_hS(id:Nat)(l:List Int)(k:AV→AO→Option S):hS (newS id l) k=k (newA id l) (newO l):=by
 unfold newS newA newO
 by_cases h:l=[]
 ·simp only[h,if_true];rfl
 ·simp only[if_neg h];rfl
theorem newA_cell(id:Nat)(l:List Int):cellsOf (newA id l)=[newA id l]∧cellA (newA id l)=true:=by
 unfold newA
 split<;>exact⟨rfl,rfl⟩
def insC(op:ByteArray)(dst:Int)(a:AV)(k:Int)(l4 l5 l6 l7 l8:AV)(g:Int)(r:AV):List AV:=[litS op,litI .i64 dst,a,litI .i64 k,l4,l5,l6,l7,l8,litI .i64 g,r]
abbrev z11:List AV:=[litS (bs []),litI .i64 0,.sl 0 [] (some 0),litI .i64 0,litI .i64 0,litB false,.sl 0 [] (some 0),.sl 0 [] (some 0),litS (bs []),litI .i64 0,.sl 0 [] (some 0)]
abbrev insQ(q:Eqn)(slots:List Int)(a:AV):List AV:=insC q.op (slotV slots q.var) a 0 (litI .i64 0) (litB false) (.sl 0 [] (some 0)) (.sl 0 [] (some 0)) (litS (bs [])) (slotV slots q.guard) (.sl 0 [] (some 0))
abbrev eqY(q:Eqn)(l:List Int)(c x:List AV)(Z:List AO):List AO:=.row q.cs 60::.row c 54::.dead::.dead::.dead::.dead::.dead::.dead::.dead::.dead::.dead::newO l::.dead::.dead::.dead::.dead::.dead::.row x 54::Z
abbrev insL(q:Eqn)(slots:List Int)(a:AV):List AV:=insC q.op (slotV slots q.var) a 0 (litI .i64 q.lit.kind) (litB q.lit.neg) (limbs q.lit.mag) (limbs q.lit.den) (litS q.lit.name) (slotV slots q.guard) (.sl 0 [] (some 0))
abbrev insK(q:Eqn)(slots:List Int)(a:AV):List AV:=insC q.op (slotV slots q.var) a q.k (litI .i64 0) (litB false) (.sl 0 [] (some 0)) (.sl 0 [] (some 0)) (litS (bs [])) (slotV slots q.guard) (.sl 0 [] (some 0))
abbrev insR(q:Eqn)(slots:List Int)(a r:AV):List AV:=insC q.op (slotV slots q.var) a q.k (litI .i64 0) (litB false) (.sl 0 [] (some 0)) (.sl 0 [] (some 0)) (litS (bs [])) (slotV slots q.guard) r
theorem build_ins(op:ByteArray)(d g:Int)(id:Nat)(l:List Int):buildV z11 [(0,1,litS op),(1,1,litI .i64 d),(2,1,newA id l),(9,1,litI .i64 g)]=some (.val (.agg (insC op d (newA id l) 0 (litI .i64 0) (litB false) (.sl 0 [] (some 0)) (.sl 0 [] (some 0)) (litS (bs [])) g (.sl 0 [] (some 0)))) none):=by
 unfold newA
 split<;>rfl
theorem ins_cells(op:ByteArray)(d k g:Int)(id:Nat)(l:List Int)(l4 l5 l6 l7 l8:AV)(r:AV)(h:[l4,l5,l6,l7,l8,r].all cellA=true):(insC op d (newA id l) k l4 l5 l6 l7 l8 g r).all cellA=true:=by
 simp only[xE,xX,xY,zL]at h
 obtain⟨h4,h5,h6,h7,h8,h9⟩:=h
 simp only[insC,xE,xX,(newA_cell id l).2,h4,h5,h6,h7,h8,h9]
 rfl
section
variable {H:List AO}{p:Nat}{f:FlatV}{O S:AV}{m:Int}(L:Lent H p f O S m){slots:List Int}(hS:RowA S slots)(q:Eqn)(hq:q.args.length≤30)(h1:q.var<slots.length)(h2:∀x∈q.args,x<(slots.length:Int))(h3:q.guard<slots.length)
include L hS hq h1 h2 h3
theorem eq_plain(k0:isS q.op [108,105,116]=false)(k1:isS q.op [105,110]=false)(k2:isS q.op [102,108,97,103]=false)(k3:isS q.op [109,101,109]=false)(k4:isS q.op [99,111,110,116]=false) :
  cw 47 [.ptr p 0,.agg q.cs] H=some (.ret (.agg (insQ q slots (newA (H.length+11) (q.args.map (slotV slots))))),H++eqY q (q.args.map (slotV slots)) (insQ q slots (newA (H.length+11) (q.args.map (slotV slots)))) (insQ q slots (newA (H.length+11) (q.args.map (slotV slots)))) []):=by
 have L2:=L.ext [.row q.cs 60,.row z11 54]
 have c1:=fun id=>slot_call L2 hS q.var h1 id
 have c3:=fun id=>slot_call L2 hS q.guard h3 id
 have c2:=fun id=>slots_call L2 hS (RowA.of q.args none) (by omega) h2 id
 generalize q.args.map (slotV slots)=l at c2
 have l0:Ai.load (H++[.row q.cs 60,.row z11 54]) none (.ptr H.length 0)=some (litI .i64 q.var):=by rw[load_app0];rfl
 have l1:Ai.load (H++[.row q.cs 60,.row z11 54]) none (.ptr H.length 1)=some (litS q.op):=by rw[load_app0];rfl
 have l2:Ai.load (H++[.row q.cs 60,.row z11 54]) none (.ptr H.length 2)=some (rowC q.args none):=by rw[load_app0];rfl
 have l9:Ai.load (H++[.row q.cs 60,.row z11 54]) none (.ptr H.length 9)=some (litI .i64 q.guard):=by rw[load_app0];rfl
 have hx:=ins_cells q.op (slotV slots q.var) 0 (slotV slots q.guard) (H.length+11) l (litI .i64 0) (litB false) (.sl 0 [] (some 0)) (.sl 0 [] (some 0)) (litS (bs [])) (.sl 0 [] (some 0)) rfl
 have st1:storeAt (H++eqY q l z11 z11 []) 11 (.ptr (H.length+17) 0) (.agg (insQ q slots (newA (H.length+11) l)))=some (H++eqY q l z11 (insQ q slots (newA (H.length+11) l)) []):=by
  rw[store_app,storeAt_agg (n:=11) (H:=eqY q l z11 z11 []) (r:=17) (cs:=z11) (xs:=insQ q slots (newA (H.length+11) l)) (t:=54) rfl rfl rfl hx];rfl
 have m1:Ai.load (H++eqY q l z11 (insQ q slots (newA (H.length+11) l)) []) none (.ptr H.length 1)=some (litS q.op):=by rw[load_app0];rfl
 have m2:Ai.load (H++eqY q l z11 (insQ q slots (newA (H.length+11) l)) []) (some 11) (.ptr (H.length+17) 0)=some (.agg (insQ q slots (newA (H.length+11) l))):=by rw[load_app];rfl
 have st2:storeAt (H++eqY q l z11 (insQ q slots (newA (H.length+11) l)) []) 11 (.ptr (H.length+1) 0) (.agg (insQ q slots (newA (H.length+11) l)))=some (H++eqY q l (insQ q slots (newA (H.length+11) l)) (insQ q slots (newA (H.length+11) l)) []):=by
  rw[store_app,storeAt_agg (n:=11) (H:=eqY q l z11 (insQ q slots (newA (H.length+11) l)) []) (r:=1) (cs:=z11) (xs:=insQ q slots (newA (H.length+11) l)) (t:=54) rfl rfl rfl hx];rfl
 have m3:Ai.load (H++eqY q l (insQ q slots (newA (H.length+11) l)) (insQ q slots (newA (H.length+11) l)) []) (some 11) (.ptr (H.length+1) 0)=some (.agg (insQ q slots (newA (H.length+11) l))):=by rw[load_app];rfl
 have bu:=build_ins q.op (slotV slots q.var) (slotV slots q.guard) (H.length+11) l
 refine cw_of fn47 (c:=c47) rfl rfl rfl rfl ?_
 simp -implicitDefEqProofs only[c47,aW,↓aP,makes,reduceLT,reduceEqDiff,reduceAdd,core_box,eq_b10 q,zN,zC,zA,zU,xK,fadr_ptr,l0,l1,l2,l9,c1,c2,c3,newS_hS,core_build,bu,st1,m1,bin_isS,k0,k1,k2,k3,k4,m2,st2]
 simp only[zD,fin,res,resV,resL,get_cons,if_true,fn47,m3]
theorem eq_lit(k0:isS q.op [108,105,116]=true) :
  cw 47 [.ptr p 0,.agg q.cs] H=some (.ret (.agg (insL q slots (newA (H.length+11) (q.args.map (slotV slots))))),H++eqY q (q.args.map (slotV slots)) (insL q slots (newA (H.length+11) (q.args.map (slotV slots)))) (insL q slots (newA (H.length+11) (q.args.map (slotV slots)))) []):=by
 have L2:=L.ext [.row q.cs 60,.row z11 54]
 have c1:=fun id=>slot_call L2 hS q.var h1 id
 have c3:=fun id=>slot_call L2 hS q.guard h3 id
 have c2:=fun id=>slots_call L2 hS (RowA.of q.args none) (by omega) h2 id
 generalize q.args.map (slotV slots)=l at c2
 have l0:Ai.load (H++[.row q.cs 60,.row z11 54]) none (.ptr H.length 0)=some (litI .i64 q.var):=by rw[load_app0];rfl
 have l1:Ai.load (H++[.row q.cs 60,.row z11 54]) none (.ptr H.length 1)=some (litS q.op):=by rw[load_app0];rfl
 have l2:Ai.load (H++[.row q.cs 60,.row z11 54]) none (.ptr H.length 2)=some (rowC q.args none):=by rw[load_app0];rfl
 have l9:Ai.load (H++[.row q.cs 60,.row z11 54]) none (.ptr H.length 9)=some (litI .i64 q.guard):=by rw[load_app0];rfl
 have hx:=ins_cells q.op (slotV slots q.var) 0 (slotV slots q.guard) (H.length+11) l (litI .i64 0) (litB false) (.sl 0 [] (some 0)) (.sl 0 [] (some 0)) (litS (bs [])) (.sl 0 [] (some 0)) rfl
 have st1:storeAt (H++eqY q l z11 z11 []) 11 (.ptr (H.length+17) 0) (.agg (insQ q slots (newA (H.length+11) l)))=some (H++eqY q l z11 (insQ q slots (newA (H.length+11) l)) []):=by
  rw[store_app,storeAt_agg (n:=11) (H:=eqY q l z11 z11 []) (r:=17) (cs:=z11) (xs:=insQ q slots (newA (H.length+11) l)) (t:=54) rfl rfl rfl hx];rfl
 have m1:Ai.load (H++eqY q l z11 (insQ q slots (newA (H.length+11) l)) []) none (.ptr H.length 1)=some (litS q.op):=by rw[load_app0];rfl
 have hx1:=ins_cells q.op (slotV slots q.var) 0 (slotV slots q.guard) (H.length+11) l (litI .i64 q.lit.kind) (litB q.lit.neg) (limbs q.lit.mag) (limbs q.lit.den) (litS q.lit.name) (.sl 0 [] (some 0)) rfl
 have e1:Ai.load (H++eqY q l z11 (insQ q slots (newA (H.length+11) l)) []) (some 5) (.ptr H.length 4)=some (.agg [litI .i64 q.lit.kind,litB q.lit.neg,limbs q.lit.mag,limbs q.lit.den,litS q.lit.name]):=by rw[load_app0];rfl
 have e2:storeAt (H++eqY q l z11 (insQ q slots (newA (H.length+11) l)) []) 5 (.ptr (H.length+17) 4) (.agg [litI .i64 q.lit.kind,litB q.lit.neg,limbs q.lit.mag,limbs q.lit.den,litS q.lit.name])=some (H++eqY q l z11 (insL q slots (newA (H.length+11) l)) []):=by rw[store_app];rfl
 have m2:Ai.load (H++eqY q l z11 (insL q slots (newA (H.length+11) l)) []) (some 11) (.ptr (H.length+17) 0)=some (.agg (insL q slots (newA (H.length+11) l))):=by rw[load_app];rfl
 have st2:storeAt (H++eqY q l z11 (insL q slots (newA (H.length+11) l)) []) 11 (.ptr (H.length+1) 0) (.agg (insL q slots (newA (H.length+11) l)))=some (H++eqY q l (insL q slots (newA (H.length+11) l)) (insL q slots (newA (H.length+11) l)) []):=by
  rw[store_app,storeAt_agg (n:=11) (H:=eqY q l z11 (insL q slots (newA (H.length+11) l)) []) (r:=1) (cs:=z11) (xs:=insL q slots (newA (H.length+11) l)) (t:=54) rfl rfl rfl hx1];rfl
 have m3:Ai.load (H++eqY q l (insL q slots (newA (H.length+11) l)) (insL q slots (newA (H.length+11) l)) []) (some 11) (.ptr (H.length+1) 0)=some (.agg (insL q slots (newA (H.length+11) l))):=by rw[load_app];rfl
 have bu:=build_ins q.op (slotV slots q.var) (slotV slots q.guard) (H.length+11) l
 refine cw_of fn47 (c:=c47) rfl rfl rfl rfl ?_
 simp -implicitDefEqProofs only[c47,aW,↓aP,makes,reduceLT,reduceEqDiff,reduceAdd,core_box,eq_b10 q,zN,zC,zA,zU,xK,fadr_ptr,l0,l1,l2,l9,c1,c2,c3,newS_hS,core_build,bu,st1,m1,bin_isS,k0,e1,e2,m2,st2]
 simp only[zD,fin,res,resV,resL,get_cons,if_true,fn47,m3]
theorem eq_in(k0:isS q.op [108,105,116]=false)(k1:isS q.op [105,110]=true) :
  cw 47 [.ptr p 0,.agg q.cs] H=some (.ret (.agg (insK q slots (newA (H.length+11) (q.args.map (slotV slots))))),H++eqY q (q.args.map (slotV slots)) (insK q slots (newA (H.length+11) (q.args.map (slotV slots)))) (insK q slots (newA (H.length+11) (q.args.map (slotV slots)))) []):=by
 have L2:=L.ext [.row q.cs 60,.row z11 54]
 have c1:=fun id=>slot_call L2 hS q.var h1 id
 have c3:=fun id=>slot_call L2 hS q.guard h3 id
 have c2:=fun id=>slots_call L2 hS (RowA.of q.args none) (by omega) h2 id
 generalize q.args.map (slotV slots)=l at c2
 have l0:Ai.load (H++[.row q.cs 60,.row z11 54]) none (.ptr H.length 0)=some (litI .i64 q.var):=by rw[load_app0];rfl
 have l1:Ai.load (H++[.row q.cs 60,.row z11 54]) none (.ptr H.length 1)=some (litS q.op):=by rw[load_app0];rfl
 have l2:Ai.load (H++[.row q.cs 60,.row z11 54]) none (.ptr H.length 2)=some (rowC q.args none):=by rw[load_app0];rfl
 have l9:Ai.load (H++[.row q.cs 60,.row z11 54]) none (.ptr H.length 9)=some (litI .i64 q.guard):=by rw[load_app0];rfl
 have hx:=ins_cells q.op (slotV slots q.var) 0 (slotV slots q.guard) (H.length+11) l (litI .i64 0) (litB false) (.sl 0 [] (some 0)) (.sl 0 [] (some 0)) (litS (bs [])) (.sl 0 [] (some 0)) rfl
 have st1:storeAt (H++eqY q l z11 z11 []) 11 (.ptr (H.length+17) 0) (.agg (insQ q slots (newA (H.length+11) l)))=some (H++eqY q l z11 (insQ q slots (newA (H.length+11) l)) []):=by
  rw[store_app,storeAt_agg (n:=11) (H:=eqY q l z11 z11 []) (r:=17) (cs:=z11) (xs:=insQ q slots (newA (H.length+11) l)) (t:=54) rfl rfl rfl hx];rfl
 have m1:Ai.load (H++eqY q l z11 (insQ q slots (newA (H.length+11) l)) []) none (.ptr H.length 1)=some (litS q.op):=by rw[load_app0];rfl
 have hx1:=ins_cells q.op (slotV slots q.var) q.k (slotV slots q.guard) (H.length+11) l (litI .i64 0) (litB false) (.sl 0 [] (some 0)) (.sl 0 [] (some 0)) (litS (bs [])) (.sl 0 [] (some 0)) rfl
 have e1:Ai.load (H++eqY q l z11 (insQ q slots (newA (H.length+11) l)) []) none (.ptr H.length 3)=some (litI .i64 q.k):=by rw[load_app0];rfl
 have e2:storeAt (H++eqY q l z11 (insQ q slots (newA (H.length+11) l)) []) 1 (.ptr (H.length+17) 3) (litI .i64 q.k)=some (H++eqY q l z11 (insK q slots (newA (H.length+11) l)) []):=by rw[store_app];rfl
 have m2:Ai.load (H++eqY q l z11 (insK q slots (newA (H.length+11) l)) []) (some 11) (.ptr (H.length+17) 0)=some (.agg (insK q slots (newA (H.length+11) l))):=by rw[load_app];rfl
 have st2:storeAt (H++eqY q l z11 (insK q slots (newA (H.length+11) l)) []) 11 (.ptr (H.length+1) 0) (.agg (insK q slots (newA (H.length+11) l)))=some (H++eqY q l (insK q slots (newA (H.length+11) l)) (insK q slots (newA (H.length+11) l)) []):=by
  rw[store_app,storeAt_agg (n:=11) (H:=eqY q l z11 (insK q slots (newA (H.length+11) l)) []) (r:=1) (cs:=z11) (xs:=insK q slots (newA (H.length+11) l)) (t:=54) rfl rfl rfl hx1];rfl
 have m3:Ai.load (H++eqY q l (insK q slots (newA (H.length+11) l)) (insK q slots (newA (H.length+11) l)) []) (some 11) (.ptr (H.length+1) 0)=some (.agg (insK q slots (newA (H.length+11) l))):=by rw[load_app];rfl
 have bu:=build_ins q.op (slotV slots q.var) (slotV slots q.guard) (H.length+11) l
 refine cw_of fn47 (c:=c47) rfl rfl rfl rfl ?_
 simp -implicitDefEqProofs only[c47,aW,↓aP,makes,reduceLT,reduceEqDiff,reduceAdd,core_box,eq_b10 q,zN,zC,zA,zU,xK,fadr_ptr,l0,l1,l2,l9,c1,c2,c3,newS_hS,core_build,bu,st1,m1,bin_isS,k0,k1,e1,e2,m2,st2]
 simp only[zD,fin,res,resV,resL,get_cons,if_true,fn47,m3]
theorem eq_flag(k0:isS q.op [108,105,116]=false)(k1:isS q.op [105,110]=false)(k2:isS q.op [102,108,97,103]=true) :
  cw 47 [.ptr p 0,.agg q.cs] H=some (.ret (.agg (insK q slots (newA (H.length+11) (q.args.map (slotV slots))))),H++eqY q (q.args.map (slotV slots)) (insK q slots (newA (H.length+11) (q.args.map (slotV slots)))) (insK q slots (newA (H.length+11) (q.args.map (slotV slots)))) []):=by
 have L2:=L.ext [.row q.cs 60,.row z11 54]
 have c1:=fun id=>slot_call L2 hS q.var h1 id
 have c3:=fun id=>slot_call L2 hS q.guard h3 id
 have c2:=fun id=>slots_call L2 hS (RowA.of q.args none) (by omega) h2 id
 generalize q.args.map (slotV slots)=l at c2
 have l0:Ai.load (H++[.row q.cs 60,.row z11 54]) none (.ptr H.length 0)=some (litI .i64 q.var):=by rw[load_app0];rfl
 have l1:Ai.load (H++[.row q.cs 60,.row z11 54]) none (.ptr H.length 1)=some (litS q.op):=by rw[load_app0];rfl
 have l2:Ai.load (H++[.row q.cs 60,.row z11 54]) none (.ptr H.length 2)=some (rowC q.args none):=by rw[load_app0];rfl
 have l9:Ai.load (H++[.row q.cs 60,.row z11 54]) none (.ptr H.length 9)=some (litI .i64 q.guard):=by rw[load_app0];rfl
 have hx:=ins_cells q.op (slotV slots q.var) 0 (slotV slots q.guard) (H.length+11) l (litI .i64 0) (litB false) (.sl 0 [] (some 0)) (.sl 0 [] (some 0)) (litS (bs [])) (.sl 0 [] (some 0)) rfl
 have st1:storeAt (H++eqY q l z11 z11 []) 11 (.ptr (H.length+17) 0) (.agg (insQ q slots (newA (H.length+11) l)))=some (H++eqY q l z11 (insQ q slots (newA (H.length+11) l)) []):=by
  rw[store_app,storeAt_agg (n:=11) (H:=eqY q l z11 z11 []) (r:=17) (cs:=z11) (xs:=insQ q slots (newA (H.length+11) l)) (t:=54) rfl rfl rfl hx];rfl
 have m1:Ai.load (H++eqY q l z11 (insQ q slots (newA (H.length+11) l)) []) none (.ptr H.length 1)=some (litS q.op):=by rw[load_app0];rfl
 have hx1:=ins_cells q.op (slotV slots q.var) q.k (slotV slots q.guard) (H.length+11) l (litI .i64 0) (litB false) (.sl 0 [] (some 0)) (.sl 0 [] (some 0)) (litS (bs [])) (.sl 0 [] (some 0)) rfl
 have e1:Ai.load (H++eqY q l z11 (insQ q slots (newA (H.length+11) l)) []) none (.ptr H.length 3)=some (litI .i64 q.k):=by rw[load_app0];rfl
 have e2:storeAt (H++eqY q l z11 (insQ q slots (newA (H.length+11) l)) []) 1 (.ptr (H.length+17) 3) (litI .i64 q.k)=some (H++eqY q l z11 (insK q slots (newA (H.length+11) l)) []):=by rw[store_app];rfl
 have m2:Ai.load (H++eqY q l z11 (insK q slots (newA (H.length+11) l)) []) (some 11) (.ptr (H.length+17) 0)=some (.agg (insK q slots (newA (H.length+11) l))):=by rw[load_app];rfl
 have st2:storeAt (H++eqY q l z11 (insK q slots (newA (H.length+11) l)) []) 11 (.ptr (H.length+1) 0) (.agg (insK q slots (newA (H.length+11) l)))=some (H++eqY q l (insK q slots (newA (H.length+11) l)) (insK q slots (newA (H.length+11) l)) []):=by
  rw[store_app,storeAt_agg (n:=11) (H:=eqY q l z11 (insK q slots (newA (H.length+11) l)) []) (r:=1) (cs:=z11) (xs:=insK q slots (newA (H.length+11) l)) (t:=54) rfl rfl rfl hx1];rfl
 have m3:Ai.load (H++eqY q l (insK q slots (newA (H.length+11) l)) (insK q slots (newA (H.length+11) l)) []) (some 11) (.ptr (H.length+1) 0)=some (.agg (insK q slots (newA (H.length+11) l))):=by rw[load_app];rfl
 have bu:=build_ins q.op (slotV slots q.var) (slotV slots q.guard) (H.length+11) l
 refine cw_of fn47 (c:=c47) rfl rfl rfl rfl ?_
 simp -implicitDefEqProofs only[c47,aW,↓aP,makes,reduceLT,reduceEqDiff,reduceAdd,core_box,eq_b10 q,zN,zC,zA,zU,xK,fadr_ptr,l0,l1,l2,l9,c1,c2,c3,newS_hS,core_build,bu,st1,m1,bin_isS,k0,k1,k2,e1,e2,m2,st2]
 simp only[zD,fin,res,resV,resL,get_cons,if_true,fn47,m3]
theorem eq_mem{out:List AV}(hp:H[p]?=some (.row (mkC f O S m out) 70)){mc:List AV}{rs:List Int}(hi:iadr 8 (memsA f.mems) (litI .i64 q.k)=some (.ip mc))(h7:(mc.drop 7).head?=some (rowC rs none))(hrl:rs.length≤100000)(hr:∀x∈rs,x<(slots.length:Int))(k0:isS q.op [108,105,116]=false)(k1:isS q.op [105,110]=false)(k2:isS q.op [102,108,97,103]=false)(k3:isS q.op [109,101,109]=true) :
  ∃Z,cw 47 [.ptr p 0,.agg q.cs] H=some (.ret (.agg (insR q slots (newA (H.length+11) (q.args.map (slotV slots))) (newA (H.length+18) (rs.map (slotV slots))))),H++eqY q (q.args.map (slotV slots)) (insR q slots (newA (H.length+11) (q.args.map (slotV slots))) (newA (H.length+18) (rs.map (slotV slots)))) (insR q slots (newA (H.length+11) (q.args.map (slotV slots))) (newA (H.length+18) (rs.map (slotV slots)))) Z)∧Z=(if rs.map (slotV slots)=[]then []else [.row (cellsI (rs.map (slotV slots))) 3]):=by
 have L2:=L.ext [.row q.cs 60,.row z11 54]
 have c1:=fun id=>slot_call L2 hS q.var h1 id
 have c3:=fun id=>slot_call L2 hS q.guard h3 id
 have c2:=fun id=>slots_call L2 hS (RowA.of q.args none) (by omega) h2 id
 have L3:=fun x Z=>L.ext (eqY q (q.args.map (slotV slots)) z11 x Z)
 have c4:=fun x Z id=>slots_call (L3 x Z) hS (RowA.of rs none) hrl hr id
 generalize q.args.map (slotV slots)=l at c2 c4
 generalize rs.map (slotV slots)=l2 at c4
 have l0:Ai.load (H++[.row q.cs 60,.row z11 54]) none (.ptr H.length 0)=some (litI .i64 q.var):=by rw[load_app0];rfl
 have l1:Ai.load (H++[.row q.cs 60,.row z11 54]) none (.ptr H.length 1)=some (litS q.op):=by rw[load_app0];rfl
 have l2':Ai.load (H++[.row q.cs 60,.row z11 54]) none (.ptr H.length 2)=some (rowC q.args none):=by rw[load_app0];rfl
 have l9:Ai.load (H++[.row q.cs 60,.row z11 54]) none (.ptr H.length 9)=some (litI .i64 q.guard):=by rw[load_app0];rfl
 have hx:=ins_cells q.op (slotV slots q.var) 0 (slotV slots q.guard) (H.length+11) l (litI .i64 0) (litB false) (.sl 0 [] (some 0)) (.sl 0 [] (some 0)) (litS (bs [])) (.sl 0 [] (some 0)) rfl
 have st1:storeAt (H++eqY q l z11 z11 []) 11 (.ptr (H.length+17) 0) (.agg (insQ q slots (newA (H.length+11) l)))=some (H++eqY q l z11 (insQ q slots (newA (H.length+11) l)) []):=by
  rw[store_app,storeAt_agg (n:=11) (H:=eqY q l z11 z11 []) (r:=17) (cs:=z11) (xs:=insQ q slots (newA (H.length+11) l)) (t:=54) rfl rfl rfl hx];rfl
 have m1:Ai.load (H++eqY q l z11 (insQ q slots (newA (H.length+11) l)) []) none (.ptr H.length 1)=some (litS q.op):=by rw[load_app0];rfl
 have hx1:(insR q slots (newA (H.length+11) l) (newA (H.length+18) l2)).all cellA=true:=ins_cells q.op (slotV slots q.var) q.k (slotV slots q.guard) (H.length+11) l (litI .i64 0) (litB false) (.sl 0 [] (some 0)) (.sl 0 [] (some 0)) (litS (bs [])) (newA (H.length+18) l2) (by simp only[xE,(newA_cell _ l2).2];rfl)
 have le:∀x Z,Ai.load (H++eqY q l z11 x Z) none (.ptr H.length 3)=some (litI .i64 q.k):=fun x Z=>by rw[load_app0];rfl
 have lr:∀Y,Ai.load (H++Y) none (.ptr p 4)=some (memsA f.mems):=fun Y=>by
  rw[load_ptr (cs:=mkC f O S m out) (t:=70) (by rw[yC (zG.1 hp).1];exact hp)];rfl
 have n1:nilck (.ptr p 0)=some (.ptr p 0):=rfl
 have s1:∀Z,storeAt (H++eqY q l z11 (insQ q slots (newA (H.length+11) l)) Z) 1 (.ptr (H.length+17) 3) (litI .i64 q.k)=some (H++eqY q l z11 (insK q slots (newA (H.length+11) l)) Z):=fun Z=>by rw[store_app];rfl
 have s2:∀Z,storeAt (H++eqY q l z11 (insK q slots (newA (H.length+11) l)) Z) 1 (.ptr (H.length+17) 10) (newA (H.length+18) l2)=some (H++eqY q l z11 (insR q slots (newA (H.length+11) l) (newA (H.length+18) l2)) Z):=fun Z=>by
  rw[store_app,store_ptr (H:=eqY q l z11 (insK q slots (newA (H.length+11) l)) Z) (r:=17) (cs:=insK q slots (newA (H.length+11) l)) (t:=54) rfl (show 10<11 by omega) (newA_cell _ l2).1 (newA_cell _ l2).2];rfl
 have m2:∀Z,Ai.load (H++eqY q l z11 (insR q slots (newA (H.length+11) l) (newA (H.length+18) l2)) Z) (some 11) (.ptr (H.length+17) 0)=some (.agg (insR q slots (newA (H.length+11) l) (newA (H.length+18) l2))):=fun Z=>by rw[load_app];rfl
 have st2:∀Z,storeAt (H++eqY q l z11 (insR q slots (newA (H.length+11) l) (newA (H.length+18) l2)) Z) 11 (.ptr (H.length+1) 0) (.agg (insR q slots (newA (H.length+11) l) (newA (H.length+18) l2)))=some (H++eqY q l (insR q slots (newA (H.length+11) l) (newA (H.length+18) l2)) (insR q slots (newA (H.length+11) l) (newA (H.length+18) l2)) Z):=fun Z=>by
  rw[store_app,storeAt_agg (n:=11) (H:=eqY q l z11 (insR q slots (newA (H.length+11) l) (newA (H.length+18) l2)) Z) (r:=1) (cs:=z11) (xs:=insR q slots (newA (H.length+11) l) (newA (H.length+18) l2)) (t:=54) rfl rfl rfl hx1];rfl
 have m3:∀Z,Ai.load (H++eqY q l (insR q slots (newA (H.length+11) l) (newA (H.length+18) l2)) (insR q slots (newA (H.length+11) l) (newA (H.length+18) l2)) Z) (some 11) (.ptr (H.length+1) 0)=some (.agg (insR q slots (newA (H.length+11) l) (newA (H.length+18) l2))):=fun Z=>by rw[load_app];rfl
 have bu:=build_ins q.op (slotV slots q.var) (slotV slots q.guard) (H.length+11) l
 refine⟨_,cw_of fn47 (c:=c47) rfl rfl rfl rfl ?_,rfl⟩
 by_cases hl2:l2=[]
 ·have c5:∀x Z id,callV cw mds 48 [.ptr p 0,rowC rs none] (H++eqY q l z11 x Z) id=some (.val (newA (H.length+18) l2) none):=fun x Z id=>by rw[c4,newS,if_pos hl2,newA,if_pos hl2]
  rw[if_pos hl2]
  simp -implicitDefEqProofs only[c47,aW,↓aP,makes,reduceLT,reduceEqDiff,reduceAdd,core_box,eq_b10 q,zN,zC,zA,zU,xK,fadr_ptr,fadr_ip,l0,l1,l2',l9,c1,c2,c3,newS_hS,core_build,bu,st1,m1,bin_isS,k0,k1,k2,k3,le,core_nilck,n1,lr,hi,load_ip,h7,c5,s1,s2,m2,st2]
  simp only[zD,fin,res,resV,resL,get_cons,if_true,fn47,m3]
 ·have c5:∀x,callV cw mds 48 [.ptr p 0,rowC rs none] (H++eqY q l z11 x []) (H.length+18)=some (.val (newA (H.length+18) l2) (some (.row (cellsI l2) 3))):=fun x=>by rw[c4,newS,if_neg hl2,newA,if_neg hl2]
  rw[if_neg hl2]
  simp -implicitDefEqProofs only[c47,aW,↓aP,makes,reduceLT,reduceEqDiff,reduceAdd,core_box,eq_b10 q,zN,zC,zA,zU,xK,fadr_ptr,fadr_ip,l0,l1,l2',l9,c1,c2,c3,newS_hS,core_build,bu,st1,m1,bin_isS,k0,k1,k2,k3,le,core_nilck,n1,lr,hi,load_ip,h7,c5,s1,s2,m2,st2]
  simp only[zD,fin,res,resV,resL,get_cons,if_true,fn47,m3]
theorem eq_cont{out:List AV}(hp:H[p]?=some (.row (mkC f O S m out) 70)){mc:List AV}{rs:List Int}(hi:iadr 9 (contsA f.conts) (litI .i64 q.k)=some (.ip mc))(h7:(mc.drop 7).head?=some (rowC rs none))(hrl:rs.length≤100000)(hr:∀x∈rs,x<(slots.length:Int))(k0:isS q.op [108,105,116]=false)(k1:isS q.op [105,110]=false)(k2:isS q.op [102,108,97,103]=false)(k3:isS q.op [109,101,109]=false)(k4:isS q.op [99,111,110,116]=true) :
  ∃Z,cw 47 [.ptr p 0,.agg q.cs] H=some (.ret (.agg (insR q slots (newA (H.length+11) (q.args.map (slotV slots))) (newA (H.length+18) (rs.map (slotV slots))))),H++eqY q (q.args.map (slotV slots)) (insR q slots (newA (H.length+11) (q.args.map (slotV slots))) (newA (H.length+18) (rs.map (slotV slots)))) (insR q slots (newA (H.length+11) (q.args.map (slotV slots))) (newA (H.length+18) (rs.map (slotV slots)))) Z)∧Z=(if rs.map (slotV slots)=[]then []else [.row (cellsI (rs.map (slotV slots))) 3]):=by
 have L2:=L.ext [.row q.cs 60,.row z11 54]
 have c1:=fun id=>slot_call L2 hS q.var h1 id
 have c3:=fun id=>slot_call L2 hS q.guard h3 id
 have c2:=fun id=>slots_call L2 hS (RowA.of q.args none) (by omega) h2 id
 have L3:=fun x Z=>L.ext (eqY q (q.args.map (slotV slots)) z11 x Z)
 have c4:=fun x Z id=>slots_call (L3 x Z) hS (RowA.of rs none) hrl hr id
 generalize q.args.map (slotV slots)=l at c2 c4
 generalize rs.map (slotV slots)=l2 at c4
 have l0:Ai.load (H++[.row q.cs 60,.row z11 54]) none (.ptr H.length 0)=some (litI .i64 q.var):=by rw[load_app0];rfl
 have l1:Ai.load (H++[.row q.cs 60,.row z11 54]) none (.ptr H.length 1)=some (litS q.op):=by rw[load_app0];rfl
 have l2':Ai.load (H++[.row q.cs 60,.row z11 54]) none (.ptr H.length 2)=some (rowC q.args none):=by rw[load_app0];rfl
 have l9:Ai.load (H++[.row q.cs 60,.row z11 54]) none (.ptr H.length 9)=some (litI .i64 q.guard):=by rw[load_app0];rfl
 have hx:=ins_cells q.op (slotV slots q.var) 0 (slotV slots q.guard) (H.length+11) l (litI .i64 0) (litB false) (.sl 0 [] (some 0)) (.sl 0 [] (some 0)) (litS (bs [])) (.sl 0 [] (some 0)) rfl
 have st1:storeAt (H++eqY q l z11 z11 []) 11 (.ptr (H.length+17) 0) (.agg (insQ q slots (newA (H.length+11) l)))=some (H++eqY q l z11 (insQ q slots (newA (H.length+11) l)) []):=by
  rw[store_app,storeAt_agg (n:=11) (H:=eqY q l z11 z11 []) (r:=17) (cs:=z11) (xs:=insQ q slots (newA (H.length+11) l)) (t:=54) rfl rfl rfl hx];rfl
 have m1:Ai.load (H++eqY q l z11 (insQ q slots (newA (H.length+11) l)) []) none (.ptr H.length 1)=some (litS q.op):=by rw[load_app0];rfl
 have hx1:(insR q slots (newA (H.length+11) l) (newA (H.length+18) l2)).all cellA=true:=ins_cells q.op (slotV slots q.var) q.k (slotV slots q.guard) (H.length+11) l (litI .i64 0) (litB false) (.sl 0 [] (some 0)) (.sl 0 [] (some 0)) (litS (bs [])) (newA (H.length+18) l2) (by simp only[xE,(newA_cell _ l2).2];rfl)
 have le:∀x Z,Ai.load (H++eqY q l z11 x Z) none (.ptr H.length 3)=some (litI .i64 q.k):=fun x Z=>by rw[load_app0];rfl
 have lr:∀Y,Ai.load (H++Y) none (.ptr p 5)=some (contsA f.conts):=fun Y=>by
  rw[load_ptr (cs:=mkC f O S m out) (t:=70) (by rw[yC (zG.1 hp).1];exact hp)];rfl
 have n1:nilck (.ptr p 0)=some (.ptr p 0):=rfl
 have s1:∀Z,storeAt (H++eqY q l z11 (insQ q slots (newA (H.length+11) l)) Z) 1 (.ptr (H.length+17) 3) (litI .i64 q.k)=some (H++eqY q l z11 (insK q slots (newA (H.length+11) l)) Z):=fun Z=>by rw[store_app];rfl
 have s2:∀Z,storeAt (H++eqY q l z11 (insK q slots (newA (H.length+11) l)) Z) 1 (.ptr (H.length+17) 10) (newA (H.length+18) l2)=some (H++eqY q l z11 (insR q slots (newA (H.length+11) l) (newA (H.length+18) l2)) Z):=fun Z=>by
  rw[store_app,store_ptr (H:=eqY q l z11 (insK q slots (newA (H.length+11) l)) Z) (r:=17) (cs:=insK q slots (newA (H.length+11) l)) (t:=54) rfl (show 10<11 by omega) (newA_cell _ l2).1 (newA_cell _ l2).2];rfl
 have m2:∀Z,Ai.load (H++eqY q l z11 (insR q slots (newA (H.length+11) l) (newA (H.length+18) l2)) Z) (some 11) (.ptr (H.length+17) 0)=some (.agg (insR q slots (newA (H.length+11) l) (newA (H.length+18) l2))):=fun Z=>by rw[load_app];rfl
 have st2:∀Z,storeAt (H++eqY q l z11 (insR q slots (newA (H.length+11) l) (newA (H.length+18) l2)) Z) 11 (.ptr (H.length+1) 0) (.agg (insR q slots (newA (H.length+11) l) (newA (H.length+18) l2)))=some (H++eqY q l (insR q slots (newA (H.length+11) l) (newA (H.length+18) l2)) (insR q slots (newA (H.length+11) l) (newA (H.length+18) l2)) Z):=fun Z=>by
  rw[store_app,storeAt_agg (n:=11) (H:=eqY q l z11 (insR q slots (newA (H.length+11) l) (newA (H.length+18) l2)) Z) (r:=1) (cs:=z11) (xs:=insR q slots (newA (H.length+11) l) (newA (H.length+18) l2)) (t:=54) rfl rfl rfl hx1];rfl
 have m3:∀Z,Ai.load (H++eqY q l (insR q slots (newA (H.length+11) l) (newA (H.length+18) l2)) (insR q slots (newA (H.length+11) l) (newA (H.length+18) l2)) Z) (some 11) (.ptr (H.length+1) 0)=some (.agg (insR q slots (newA (H.length+11) l) (newA (H.length+18) l2))):=fun Z=>by rw[load_app];rfl
 have bu:=build_ins q.op (slotV slots q.var) (slotV slots q.guard) (H.length+11) l
 refine⟨_,cw_of fn47 (c:=c47) rfl rfl rfl rfl ?_,rfl⟩
 by_cases hl2:l2=[]
 ·have c5:∀x Z id,callV cw mds 48 [.ptr p 0,rowC rs none] (H++eqY q l z11 x Z) id=some (.val (newA (H.length+18) l2) none):=fun x Z id=>by rw[c4,newS,if_pos hl2,newA,if_pos hl2]
  rw[if_pos hl2]
  simp -implicitDefEqProofs only[c47,aW,↓aP,makes,reduceLT,reduceEqDiff,reduceAdd,core_box,eq_b10 q,zN,zC,zA,zU,xK,fadr_ptr,fadr_ip,l0,l1,l2',l9,c1,c2,c3,newS_hS,core_build,bu,st1,m1,bin_isS,k0,k1,k2,k3,k4,le,core_nilck,n1,lr,hi,load_ip,h7,c5,s1,s2,m2,st2]
  simp only[zD,fin,res,resV,resL,get_cons,if_true,fn47,m3]
 ·have c5:∀x,callV cw mds 48 [.ptr p 0,rowC rs none] (H++eqY q l z11 x []) (H.length+18)=some (.val (newA (H.length+18) l2) (some (.row (cellsI l2) 3))):=fun x=>by rw[c4,newS,if_neg hl2,newA,if_neg hl2]
  rw[if_neg hl2]
  simp -implicitDefEqProofs only[c47,aW,↓aP,makes,reduceLT,reduceEqDiff,reduceAdd,core_box,eq_b10 q,zN,zC,zA,zU,xK,fadr_ptr,fadr_ip,l0,l1,l2',l9,c1,c2,c3,newS_hS,core_build,bu,st1,m1,bin_isS,k0,k1,k2,k3,k4,le,core_nilck,n1,lr,hi,load_ip,h7,c5,s1,s2,m2,st2]
  simp only[zD,fin,res,resV,resL,get_cons,if_true,fn47,m3]
end
end Go.Proofs.Ytcgbdndkfonphaa.Ai
namespace Go.Proofs.Ytcgbdndkfonphaa.Ai
open Go Go.Ai
variable {call:CallF}{mt:MtF}{md:FuncId→Md}
def rowsOf:Nat→List AO→List Obj1
 | _,[]=>[]
 | n,.row cs t::r=>(n,cs,t)::rowsOf (n+1) r
 | n,.dead::r=>rowsOf (n+1) r
 | n,.mp _::r=>rowsOf (n+1) r
theorem Own.pad{H:List AO}{d:List Obj1}(O:Own H d)(b:AO):Own (H++[b]) d:=by
 refine⟨O.1,fun x hx=>?_⟩
 have:=O.2 x hx
 rw[yC (zG.1 this).1];exact this
theorem Own.obs:∀(Y:List AO){H:List AO}{d:List Obj1},Own H d→Own (H++Y) (rowsOf H.length Y++d)
 | [],H,d,O=>by rw[zZ];exact O
 | .row cs t::Y,H,d,O=>by
  have:=Own.obs Y (O.new cs t)
  rw[zU,zN]at this
  refine this.perm ?_
  rw[rowsOf]
  exact vL
 | .dead::Y,H,d,O=>by
  have:=Own.obs Y (Own.pad O .dead)
  rw[zU,zN]at this
  exact this
 | .mp k::Y,H,d,O=>by
  have:=Own.obs Y (Own.pad O (.mp k))
  rw[zU,zN]at this
  exact this
theorem callV_refA{f:FuncId}{args:List AV}{a:AV}{H Y:List AO}{id:Nat}(hm:mds f=.ref)(h:cw f args H=some (.ret a,H++Y)) :
  callV cw mds f args H id=some (.wr a (H++Y))∨below H.length frzF a=true∧callV cw mds f args H id=some (.wr a H):=by
 unfold callV
 rw[hm]
 simp only
 rw[h]
 simp only[zD]
 cases hb:(below H.length frzF a&&((H++Y).take H.length).all (belowO H.length))with
 | true =>
  right
  rw[zL]at hb
  refine⟨hb.1,?_⟩
  rw[vD]
  ·rfl
  ·rfl
 | false=>left;rfl
def cell2(a:AV):Bool:=whole a&&cellA a
def IntC(A:AV)(o:List Obj1):Prop:=(cell2 A=true∧cellsOf A=[A]∧o=[])∨∃p l,A=.own p 0 (l:List Int).length 1 none∧o=[(p,cellsI l,3)]
def InsOk(x:List AV)(o:List Obj1)(op:ByteArray)(dst k:Int):Prop :=
 ∃a l4 l5 l6 l7 l8 g r oa or_,x=insC op dst a k l4 l5 l6 l7 l8 g r∧[l4,l5,l6,l7,l8].all cell2=true∧IntC a oa∧IntC r or_∧o=oa++or_
theorem newA_below{n id:Nat}{l:List Int}{k:Nat}(hn:n≤id)(h:below n (k+1) (newA id l)=true):l=[]:=by
 unfold newA at h
 by_cases e:l=[]
 ·exact e
 ·rw[if_neg e]at h
  simp only[below]at h
  have h':id<n:=by rwa [wQ]at h
  omega
theorem newA_int(id:Nat)(l:List Int):∃o,IntC (newA id l) o∧o=(if l=[]then []else [(id,cellsI l,3)]):=by
 refine⟨_,?_,rfl⟩
 unfold newA
 by_cases e:l=[]
 ·rw[if_pos e,if_pos e];exact .inl ⟨rfl,rfl,rfl⟩
 ·rw[if_neg e,if_neg e];exact .inr ⟨id,l,rfl,rfl⟩
theorem eq_wr{H:List AO}{args:List AV}(q:Eqn){op:ByteArray}{dst k g:Int}{l l2:List Int}{l4 l5 l6 l7 l8:AV}{c x:List AV}{Z:List AO}(hw:[l4,l5,l6,l7,l8].all cell2=true)
  (hx:insC op dst (newA (H.length+11) l) k l4 l5 l6 l7 l8 g (newA (H.length+18) l2)=x)(hZ:Z=if l2=[]then []else [.row (cellsI l2) 3])(h:cw 47 args H=some (.ret (.agg x),H++eqY q l c x Z))(id:Nat) :
  ∃Y o,callV cw mds 47 args H id=some (.wr (.agg x) (H++Y))∧InsOk x o op dst k∧∀d,Own H d→Own (H++Y) (o++d):=by
 obtain⟨oa,ha,ea⟩:=newA_int (H.length+11) l
 obtain⟨or_,hr,er⟩:=newA_int (H.length+18) l2
 have hi:InsOk x (oa++or_) op dst k:=⟨_,_,_,_,_,_,_,_,oa,or_,hx.symm,hw,ha,hr,rfl⟩
 rcases callV_refA (id:=id) rfl h with e|⟨hb,e⟩
 ·refine⟨_,oa++or_,e,hi,fun d O=>(Own.obs _ O).sub ?_⟩
  refine List.Sublist.append ?_ (List.Sublist.refl d)
  rw[ea,er,hZ]
  by_cases e1:l=[]
  ·by_cases e2:l2=[]
   ·simp[e1,e2]
   ·simp only[e1,e2,if_true,if_false,yF,newO,rowsOf]
    simp
  ·by_cases e2:l2=[]
   ·simp only[e1,e2,if_true,if_false,zZ,newO,rowsOf]
    simp
   ·simp only[e1,e2,if_true,if_false,newO,rowsOf]
    simp
 ·have hbx:∀y∈x,below H.length 15 y=true:=by
   have:below H.length (15+1) (.agg x)=true:=hb
   simp only[below,yD]at this
   exact this
  have n1:l=[]:=newA_below (id:=H.length+11) (k:=14) (by omega) (hbx _ (by rw[←hx];simp[insC]))
  have n2:l2=[]:=newA_below (id:=H.length+18) (k:=14) (by omega) (hbx _ (by rw[←hx];simp[insC]))
  rw[if_pos n1]at ea
  rw[if_pos n2]at er
  subst ea er
  refine⟨[],[],by rw[zZ];exact e,hi,fun d O=>by rw[zZ];exact O⟩
end Go.Proofs.Ytcgbdndkfonphaa.Ai
