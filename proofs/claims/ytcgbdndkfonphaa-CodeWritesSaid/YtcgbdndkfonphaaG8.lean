/- Seat of layers 14 and 15: law12.Small, states. No condition. -/
import Derived.Test.YtcgbdndkfonphaaG7
set_option linter.unusedSimpArgs false
set_option linter.unusedVariables false
set_option linter.unusedSectionVars false
open Nat (reduceLT reduceEqDiff reduceAdd)
namespace Go.Proofs.Ytcgbdndkfonphaa.Ai
open Go Go.Ai
section
theorem co_hl(q:ContV)(H:List AO):Ai.load H (some 3) (.ip (List.drop 1 (List.drop 0 q.cs)))=some (.agg [litB q.init.neg,limbs q.init.mag,limbs q.init.den]):=rfl
theorem co_h8(q:ContV):(List.drop 8 q.cs).head?=some (slopesA q.slopes):=rfl
def contBig(q:ContV):Bool:=decide ((q.resets.length:Int) > 20)||decide ((q.slopes.length:Int) > 20)||longL q.init
theorem sm2_round(f:FlatV)(i:Nat)(q:ContV)(hi:f.conts[i]?=some q)(hlt:(i:Int)<f.conts.length)(hn:i<4611686018427387904)(H:List AO)(hH:H[0]?=some (.row f.cs 29)) :
  codeW cw (lookM mtl) mds c24l2 [(1,.ptr 0 0),(5,litI .i64 i)] H =
   some (bif contBig q then(.ret,[(2,litB false)],H)else(.normal,[(1,.ptr 0 0),(5,litI .i64 ((i+1:Nat):Int))],H)):=by
 have ce:=rg_k hH
 have hL:=long_call q.init
 unfold contBig
 cases a1:decide ((q.resets.length:Int) > 20)with
 | true =>
  simp -implicitDefEqProofs only[c24l2,aW,↓aP,makes,reduceLT,reduceEqDiff,reduceAdd,iadr_conts,lenV_conts,hi,hlt,ce,fadr_ptr,fadr_ip,cont_h7,lenV_row,a1]
 | false =>
 cases a2:decide ((q.slopes.length:Int) > 20)with
 | true =>
  simp -implicitDefEqProofs only[c24l2,aW,↓aP,makes,reduceLT,reduceEqDiff,reduceAdd,iadr_conts,lenV_conts,hi,hlt,ce,fadr_ptr,fadr_ip,cont_h7,lenV_row,a1,co_h8,lenV_slopes,a2]
 | false =>
 cases a3:longL q.init with
 | true =>
  rw[a3]at hL
  simp -implicitDefEqProofs only[c24l2,aW,↓aP,makes,reduceLT,reduceEqDiff,reduceAdd,iadr_conts,lenV_conts,hi,hlt,ce,fadr_ptr,fadr_ip,cont_h7,lenV_row,a1,co_h8,lenV_slopes,a2,co_hl,hL]
 | false =>
  rw[a3]at hL
  simp -implicitDefEqProofs only[c24l2,aW,↓aP,makes,reduceLT,reduceEqDiff,reduceAdd,iadr_conts,lenV_conts,hi,hlt,ce,fadr_ptr,fadr_ip,cont_h7,lenV_row,a1,co_h8,lenV_slopes,a2,co_hl,hL,wrap1 hn]
theorem sm2_loop(f:FlatV)(hm:f.conts.length≤1000000)(H:List AO)(hH:H[0]?=some (.row f.cs 29)):∀(m i:Nat),m+i=f.conts.length →
  loopW (codeW cw (lookM mtl) mds c24l2) [1,5] [(1,.ptr 0 0),(5,litI .i64 i)] H =
   some (bif(f.conts.drop i).any contBig then(.ret,[(2,litB false)],H)else(EX.exit 4,[(1,.ptr 0 0),(5,litI .i64 f.conts.length),(129,litB false)],H))
 | 0,i,h=>by
  have hn:i=f.conts.length:=by omega
  subst hn
  rw[yB,List.any_nil,cond_false]
  refine loopW_out ?_ (by simp)
  simp -implicitDefEqProofs only[c24l2,aW,↓aP,makes,reduceLT,reduceEqDiff,reduceAdd,fadr_ptr,rg_k hH,lenV_conts,zR]
 | m+1,i,h=>by
  have hn:i<f.conts.length:=by omega
  have hg:f.conts[i]?=some f.conts[i]:=zE hn
  have R:=sm2_round f i f.conts[i] hg (by omega) (by omega) H hH
  rw[zS hn,vT]
  cases ho:contBig f.conts[i]with
  | false =>
   rw[ho,cond_false]at R
   rw[yP]
   refine loopW_round ?_ (sm2_loop f hm H hH m (i+1) (by omega))
   simp -implicitDefEqProofs only[aW,↓aP,makes,reduceLT,reduceEqDiff,reduceAdd,R]
  | true =>
   rw[ho,cond_true]at R
   rw[xI,cond_true]
   refine loopW_out ?_ (by simp)
   simp -implicitDefEqProofs only[aW,↓aP,makes,reduceLT,reduceEqDiff,reduceAdd,R]
end
section
def opBig(o:COpV):Bool:=decide ((o.args.length:Int) > 5)
def crossBig(q:CrossV):Bool:=decide ((q.ops.length:Int) > 30)||q.ops.any opBig
theorem sm3_loop(f:FlatV)(i:Nat)(q:CrossV)(hi:f.cross[i]?=some q)(hm:q.ops.length≤1000000)(H:List AO)(hH:H[0]?=some (.row f.cs 29)):∀(m j:Nat),m+j=q.ops.length →
  loopW (codeW cw (lookM mtl) mds c24l3) [1,6,7] [(1,.ptr 0 0),(6,litI .i64 i),(7,litI .i64 j)] H =
   some (bif(q.ops.drop j).any opBig then(.ret,[(2,litB false)],H)else(EX.exit 8,[(1,.ptr 0 0),(6,litI .i64 i),(7,litI .i64 q.ops.length),(183,litB false)],H))
 | 0,j,h=>by
  have hn:j=q.ops.length:=by omega
  subst hn
  rw[yB,List.any_nil,cond_false]
  refine loopW_out ?_ (by simp)
  simp -implicitDefEqProofs only[c24l3,aW,↓aP,makes,reduceLT,reduceEqDiff,reduceAdd,fadr_ptr,fadr_ip,rg_x hH,iadr_cross,hi,cr_h1,lenV_cops,zR]
 | m+1,j,h=>by
  have hn:j<q.ops.length:=by omega
  have hg:q.ops[j]?=some q.ops[j]:=zE hn
  have hlt:(j:Int)<q.ops.length:=by omega
  rw[zS hn,vT]
  cases ho:opBig q.ops[j]with
  | false =>
   have ho':decide ((q.ops[j].args.length:Int) > 5)=false:=ho
   rw[yP]
   refine loopW_round ?_ (sm3_loop f i q hi hm H hH m (j+1) (by omega))
   simp -implicitDefEqProofs only[c24l3,aW,↓aP,makes,reduceLT,reduceEqDiff,reduceAdd,fadr_ptr,fadr_ip,rg_x hH,iadr_cross,hi,cr_h1,lenV_cops,iadr_cops,hg,hlt,cop_h1,lenV_row,ho',wrap1 (show j<4611686018427387904 by omega)]
  | true =>
   have ho':decide ((q.ops[j].args.length:Int) > 5)=true:=ho
   rw[xI,cond_true]
   refine loopW_out ?_ (by simp)
   simp -implicitDefEqProofs only[c24l3,aW,↓aP,makes,reduceLT,reduceEqDiff,reduceAdd,fadr_ptr,fadr_ip,rg_x hH,iadr_cross,hi,cr_h1,lenV_cops,iadr_cops,hg,hlt,cop_h1,lenV_row,ho']
theorem sm4_loop(f:FlatV)(hm:f.cross.length≤1000000)(H:List AO)(hH:H[0]?=some (.row f.cs 29)):∀(m i:Nat),m+i=f.cross.length →
  loopW (codeW cw (lookM mtl) mds c24l4) [1,6] [(1,.ptr 0 0),(6,litI .i64 i)] H =
   some (bif(f.cross.drop i).any crossBig then(.ret,[(2,litB false)],H)else(EX.exit 6,[(1,.ptr 0 0),(6,litI .i64 f.cross.length),(164,litB false)],H))
 | 0,i,h=>by
  have hn:i=f.cross.length:=by omega
  subst hn
  rw[yB,List.any_nil,cond_false]
  refine loopW_out ?_ (by simp)
  simp -implicitDefEqProofs only[c24l4,aW,↓aP,makes,reduceLT,reduceEqDiff,reduceAdd,fadr_ptr,rg_x hH,lenV_cross,zR]
 | m+1,i,h=>by
  have hn:i<f.cross.length:=by omega
  have hg:f.cross[i]?=some f.cross[i]:=zE hn
  have hlt:(i:Int)<f.cross.length:=by omega
  rw[zS hn,vT]
  cases a1:decide ((f.cross[i].ops.length:Int) > 30)with
  | true =>
   rw[show crossBig f.cross[i]=true by unfold crossBig;rw[a1,xI],xI,cond_true]
   refine loopW_out ?_ (by simp)
   simp -implicitDefEqProofs only[c24l4,aW,↓aP,makes,reduceLT,reduceEqDiff,reduceAdd,fadr_ptr,fadr_ip,rg_x hH,lenV_cross,iadr_cross,hg,hlt,cr_h1,lenV_cops,a1]
  | false =>
  have hle:f.cross[i].ops.length≤1000000:=by
   have:¬((f.cross[i].ops.length:Int) > 30):=by simpa using a1
   omega
  have L:=sm3_loop f i f.cross[i] hg hle H hH f.cross[i].ops.length 0 (by omega)
  rw[zJ,show((0:Nat):Int)=0 from rfl]at L
  cases ho:f.cross[i].ops.any opBig with
  | true =>
   rw[ho,cond_true]at L
   rw[show crossBig f.cross[i]=true by unfold crossBig;rw[ho,xD],xI,cond_true]
   refine loopW_out ?_ (by simp)
   simp -implicitDefEqProofs only[c24l4,aW,↓aP,makes,reduceLT,reduceEqDiff,reduceAdd,fadr_ptr,fadr_ip,rg_x hH,lenV_cross,iadr_cross,hg,hlt,cr_h1,lenV_cops,a1,L]
  | false =>
   rw[ho,cond_false]at L
   rw[show crossBig f.cross[i]=false by unfold crossBig;rw[a1,ho];rfl,yP]
   refine loopW_round ?_ (sm4_loop f hm H hH m (i+1) (by omega))
   simp -implicitDefEqProofs only[c24l4,aW,↓aP,makes,reduceLT,reduceEqDiff,reduceAdd,fadr_ptr,fadr_ip,rg_x hH,lenV_cross,iadr_cross,hg,hlt,cr_h1,lenV_cops,a1,L,wrap1 (show i<4611686018427387904 by omega)]
end
section
theorem sm_n{H:List AO}{f:FlatV}(h:H[0]?=some (.row f.cs 29)):Ai.load H none (.ptr 0 1)=some (strs f.names):=by rw[load_ptr h];rfl
theorem sm_i{H:List AO}{f:FlatV}(h:H[0]?=some (.row f.cs 29)):Ai.load H none (.ptr 0 0)=some (strs f.ins):=by rw[load_ptr h];rfl
def sizesBig(f:FlatV):Bool:=decide ((f.eqs.length:Int) > 200)||decide ((f.names.length:Int) > 200)||decide ((f.mems.length:Int) > 100)||decide ((f.conts.length:Int) > 20)||decide ((f.cross.length:Int) > 20)||decide ((f.outs.length:Int) > 50)||decide ((f.again.length:Int) > 50)||decide ((f.ins.length:Int) > 20)
def smallOk(f:FlatV):Bool:=!sizesBig f&&!f.eqs.any eqnBig&&!f.mems.any memBig&&!f.conts.any contBig&&!f.cross.any crossBig
theorem small_tells(f:FlatV):cw 24 [flatA f] []=some (.ret (litB (smallOk f)),[.row f.cs 29]):=by
 refine cw_of fn24 (c:=c24) rfl rfl rfl rfl ?_
 have hH:([.row f.cs 29]:List AO)[0]?=some (.row f.cs 29):=rfl
 unfold smallOk
 cases s0:decide ((f.eqs.length:Int) > 200)with
 | true =>
  rw[show sizesBig f=true by simp only[sizesBig,s0,xD,xI,yP]]
  simp -implicitDefEqProofs only[c24,aW,↓aP,makes,reduceLT,reduceEqDiff,reduceAdd,↓reduceIte,Nat.reduceBEq,core_box,flat_f,zA,fadr_ptr,lenV_eqs,lenV_strs,lenV_mems,lenV_conts,lenV_cross,lenV_row,rg_e hH,sm_n hH,rg_m hH,rg_k hH,rg_x hH,rg_o hH,rg_a hH,sm_i hH,s0]
  rfl
 | false =>
 cases s1:decide ((f.names.length:Int) > 200)with
 | true =>
  rw[show sizesBig f=true by simp only[sizesBig,s0,s1,xD,xI,yP]]
  simp -implicitDefEqProofs only[c24,aW,↓aP,makes,reduceLT,reduceEqDiff,reduceAdd,↓reduceIte,Nat.reduceBEq,core_box,flat_f,zA,fadr_ptr,lenV_eqs,lenV_strs,lenV_mems,lenV_conts,lenV_cross,lenV_row,rg_e hH,sm_n hH,rg_m hH,rg_k hH,rg_x hH,rg_o hH,rg_a hH,sm_i hH,s0,s1]
  rfl
 | false =>
 cases s2:decide ((f.mems.length:Int) > 100)with
 | true =>
  rw[show sizesBig f=true by simp only[sizesBig,s0,s1,s2,xD,xI,yP]]
  simp -implicitDefEqProofs only[c24,aW,↓aP,makes,reduceLT,reduceEqDiff,reduceAdd,↓reduceIte,Nat.reduceBEq,core_box,flat_f,zA,fadr_ptr,lenV_eqs,lenV_strs,lenV_mems,lenV_conts,lenV_cross,lenV_row,rg_e hH,sm_n hH,rg_m hH,rg_k hH,rg_x hH,rg_o hH,rg_a hH,sm_i hH,s0,s1,s2]
  rfl
 | false =>
 cases s3:decide ((f.conts.length:Int) > 20)with
 | true =>
  rw[show sizesBig f=true by simp only[sizesBig,s0,s1,s2,s3,xD,xI,yP]]
  simp -implicitDefEqProofs only[c24,aW,↓aP,makes,reduceLT,reduceEqDiff,reduceAdd,↓reduceIte,Nat.reduceBEq,core_box,flat_f,zA,fadr_ptr,lenV_eqs,lenV_strs,lenV_mems,lenV_conts,lenV_cross,lenV_row,rg_e hH,sm_n hH,rg_m hH,rg_k hH,rg_x hH,rg_o hH,rg_a hH,sm_i hH,s0,s1,s2,s3]
  rfl
 | false =>
 cases s4:decide ((f.cross.length:Int) > 20)with
 | true =>
  rw[show sizesBig f=true by simp only[sizesBig,s0,s1,s2,s3,s4,xD,xI,yP]]
  simp -implicitDefEqProofs only[c24,aW,↓aP,makes,reduceLT,reduceEqDiff,reduceAdd,↓reduceIte,Nat.reduceBEq,core_box,flat_f,zA,fadr_ptr,lenV_eqs,lenV_strs,lenV_mems,lenV_conts,lenV_cross,lenV_row,rg_e hH,sm_n hH,rg_m hH,rg_k hH,rg_x hH,rg_o hH,rg_a hH,sm_i hH,s0,s1,s2,s3,s4]
  rfl
 | false =>
 cases s5:decide ((f.outs.length:Int) > 50)with
 | true =>
  rw[show sizesBig f=true by simp only[sizesBig,s0,s1,s2,s3,s4,s5,xD,xI,yP]]
  simp -implicitDefEqProofs only[c24,aW,↓aP,makes,reduceLT,reduceEqDiff,reduceAdd,↓reduceIte,Nat.reduceBEq,core_box,flat_f,zA,fadr_ptr,lenV_eqs,lenV_strs,lenV_mems,lenV_conts,lenV_cross,lenV_row,rg_e hH,sm_n hH,rg_m hH,rg_k hH,rg_x hH,rg_o hH,rg_a hH,sm_i hH,s0,s1,s2,s3,s4,s5]
  rfl
 | false =>
 cases s6:decide ((f.again.length:Int) > 50)with
 | true =>
  rw[show sizesBig f=true by simp only[sizesBig,s0,s1,s2,s3,s4,s5,s6,xD,xI,yP]]
  simp -implicitDefEqProofs only[c24,aW,↓aP,makes,reduceLT,reduceEqDiff,reduceAdd,↓reduceIte,Nat.reduceBEq,core_box,flat_f,zA,fadr_ptr,lenV_eqs,lenV_strs,lenV_mems,lenV_conts,lenV_cross,lenV_row,rg_e hH,sm_n hH,rg_m hH,rg_k hH,rg_x hH,rg_o hH,rg_a hH,sm_i hH,s0,s1,s2,s3,s4,s5,s6]
  rfl
 | false =>
 cases s7:decide ((f.ins.length:Int) > 20)with
 | true =>
  rw[show sizesBig f=true by simp only[sizesBig,s0,s1,s2,s3,s4,s5,s6,s7,xD,xI,yP]]
  simp -implicitDefEqProofs only[c24,aW,↓aP,makes,reduceLT,reduceEqDiff,reduceAdd,↓reduceIte,Nat.reduceBEq,core_box,flat_f,zA,fadr_ptr,lenV_eqs,lenV_strs,lenV_mems,lenV_conts,lenV_cross,lenV_row,rg_e hH,sm_n hH,rg_m hH,rg_k hH,rg_x hH,rg_o hH,rg_a hH,sm_i hH,s0,s1,s2,s3,s4,s5,s6,s7]
  rfl
 | false =>
 rw[show sizesBig f=false by simp only[sizesBig,s0,s1,s2,s3,s4,s5,s6,s7,Bool.or_self]]
 have L0:=sm0_loop f (by have:=of_decide_eq_false s0;omega) [.row f.cs 29] hH f.eqs.length 0 (by omega)
 rw[zJ,show((0:Nat):Int)=0 from rfl]at L0
 cases t0:f.eqs.any eqnBig with
 | true =>
  rw[t0,cond_true]at L0
  simp -implicitDefEqProofs only[c24,aW,↓aP,makes,reduceLT,reduceEqDiff,reduceAdd,↓reduceIte,Nat.reduceBEq,core_box,flat_f,zA,fadr_ptr,lenV_eqs,lenV_strs,lenV_mems,lenV_conts,lenV_cross,lenV_row,rg_e hH,sm_n hH,rg_m hH,rg_k hH,rg_x hH,rg_o hH,rg_a hH,sm_i hH,s0,s1,s2,s3,s4,s5,s6,s7,L0]
  simp only[vK,vU,zP,yM,zQ]
  rfl
 | false =>
 rw[t0,cond_false]at L0
 have L1:=sm1_loop f (by have:=of_decide_eq_false s2;omega) [.row f.cs 29] hH f.mems.length 0 (by omega)
 rw[zJ,show((0:Nat):Int)=0 from rfl]at L1
 cases t1:f.mems.any memBig with
 | true =>
  rw[t1,cond_true]at L1
  simp -implicitDefEqProofs only[c24,aW,↓aP,makes,reduceLT,reduceEqDiff,reduceAdd,↓reduceIte,Nat.reduceBEq,core_box,flat_f,zA,fadr_ptr,lenV_eqs,lenV_strs,lenV_mems,lenV_conts,lenV_cross,lenV_row,rg_e hH,sm_n hH,rg_m hH,rg_k hH,rg_x hH,rg_o hH,rg_a hH,sm_i hH,s0,s1,s2,s3,s4,s5,s6,s7,L0,L1]
  simp only[vK,vU,zP,yM,zQ]
  rfl
 | false =>
 rw[t1,cond_false]at L1
 have L2:=sm2_loop f (by have:=of_decide_eq_false s3;omega) [.row f.cs 29] hH f.conts.length 0 (by omega)
 rw[zJ,show((0:Nat):Int)=0 from rfl]at L2
 cases t2:f.conts.any contBig with
 | true =>
  rw[t2,cond_true]at L2
  simp -implicitDefEqProofs only[c24,aW,↓aP,makes,reduceLT,reduceEqDiff,reduceAdd,↓reduceIte,Nat.reduceBEq,core_box,flat_f,zA,fadr_ptr,lenV_eqs,lenV_strs,lenV_mems,lenV_conts,lenV_cross,lenV_row,rg_e hH,sm_n hH,rg_m hH,rg_k hH,rg_x hH,rg_o hH,rg_a hH,sm_i hH,s0,s1,s2,s3,s4,s5,s6,s7,L0,L1,L2]
  simp only[vK,vU,zP,yM,zQ]
  rfl
 | false =>
 rw[t2,cond_false]at L2
 have L3:=sm4_loop f (by have:=of_decide_eq_false s4;omega) [.row f.cs 29] hH f.cross.length 0 (by omega)
 rw[zJ,show((0:Nat):Int)=0 from rfl]at L3
 cases t3:f.cross.any crossBig with
 | true =>
  rw[t3,cond_true]at L3
  simp -implicitDefEqProofs only[c24,aW,↓aP,makes,reduceLT,reduceEqDiff,reduceAdd,↓reduceIte,Nat.reduceBEq,core_box,flat_f,zA,fadr_ptr,lenV_eqs,lenV_strs,lenV_mems,lenV_conts,lenV_cross,lenV_row,rg_e hH,sm_n hH,rg_m hH,rg_k hH,rg_x hH,rg_o hH,rg_a hH,sm_i hH,s0,s1,s2,s3,s4,s5,s6,s7,L0,L1,L2,L3]
  simp only[vK,vU,zP,yM,zQ]
  rfl
 | false =>
 rw[t3,cond_false]at L3
 simp -implicitDefEqProofs only[c24,aW,↓aP,makes,reduceLT,reduceEqDiff,reduceAdd,↓reduceIte,Nat.reduceBEq,core_box,flat_f,zA,fadr_ptr,lenV_eqs,lenV_strs,lenV_mems,lenV_conts,lenV_cross,lenV_row,rg_e hH,sm_n hH,rg_m hH,rg_k hH,rg_x hH,rg_o hH,rg_a hH,sm_i hH,s0,s1,s2,s3,s4,s5,s6,s7,L0,L1,L2,L3]
 rfl
theorem small_call(f:FlatV)(H:List AO)(id:Nat):callV cw mds 24 [flatA f] H id=some (.val (litB (smallOk f)) none):=callV_pureA rfl rfl (small_tells f) rfl
end
section
theorem fits_of_small(f:FlatV)(h:smallOk f=true):FitsF f:=by
 simp only[smallOk,zL,yY,sizesBig,uP,decide_eq_false_iff_not,vP,eqnBig,memBig,contBig,crossBig,zH]at h
 obtain⟨⟨⟨⟨⟨⟨⟨⟨⟨⟨⟨s0,s1⟩,s2⟩,s3⟩,s4⟩,s5⟩,s6⟩,s7⟩,e⟩,m⟩,k⟩,x⟩:=h
 refine⟨by omega,by omega,by omega,by omega,by omega,by omega,by omega,fun q hq=>?_,fun q hq=>?_,fun q hq=>?_,fun q hq=>?_,fun q hq=>?_⟩
 ·have:=(e q hq).1.1.1;omega
 ·have:=(m q hq).1;omega
 ·have:=(k q hq).1.1;omega
 ·have:=(k q hq).1.2;omega
 ·have:=(x q hq).1;omega
end
section
variable {call:CallF}{mt:MtF}{md:FuncId→Md}
def RowA(A:AV)(l:List Int):Prop:=(∃c,A=rowC l c)∨∃e c,A=.sl e [] c∧l=[]
theorem RowA.of(l:List Int)(c:Option Nat):RowA (rowC l c) l:=.inl ⟨c,rfl⟩
theorem RowA.nil:RowA (.sl 0 [] (some 0)) []:=.inr ⟨0,some 0,rfl,rfl⟩
theorem RowA.nilE(e:Nat)(c:Option Nat):RowA (.sl e [] c) []:=.inr ⟨e,c,rfl,rfl⟩
theorem RowA.lenV{A:AV}{l:List Int}(h:RowA A l):Ai.lenV A=some (litI .i64 l.length):=by
 rcases h with⟨c,rfl⟩|⟨e,c,rfl,rfl⟩
 ·exact lenV_row l c
 ·rfl
theorem RowA.iadr{A:AV}{l:List Int}(h:RowA A l){n:Nat}{x:Int}(hn:l[n]?=some x):Ai.iadr 1 A (litI .i64 n)=some (.ip [litI .i64 x]):=by
 rcases h with⟨c,rfl⟩|⟨e,c,rfl,rfl⟩
 ·rw[iadr_row,hn];rfl
 ·cases hn
theorem RowA.whole{A:AV}{l:List Int}(h:RowA A l):Ai.whole A=true:=by
 rcases h with⟨c,rfl⟩|⟨e,c,rfl,rfl⟩<;>rfl
theorem RowA.cell{A:AV}{l:List Int}(h:RowA A l):Ai.cellA A=true∧cellsOf A=[A]:=by
 rcases h with⟨c,rfl⟩|⟨e,c,rfl,rfl⟩<;>exact⟨rfl,rfl⟩
def planA(O S:AV)(n:Int):AV:=.agg [O,S,litI .i64 n]
def small25(f:FlatV):Bool:=smallOk f&&decide (f.eqs.length≤25)
theorem small25_1{f:FlatV}(h:small25 f=true):smallOk f=true∧f.eqs.length≤25:=by simpa [small25]using h
theorem le25(n:Nat):decide ((n:Int)≤25)=decide (n≤25):=by congr 1;simp only[eq_iff_iff];omega
theorem le50(n:Nat):decide ((n:Int)≤50)=decide (n≤50):=by congr 1;simp only[eq_iff_iff];omega
def smallP(f:FlatV)(o s:List Int):Bool:=small25 f&&decide (o.length≤50)&&decide (s.length≤50)
theorem small10_tells(f:FlatV){O S:AV}{o s:List Int}(hO:RowA O o)(hS:RowA S s)(n:Int):∃H',cw 10 [flatA f,planA O S n] []=some (.ret (litB (smallP f o s)),H'):=by
 refine⟨_,cw_of fn10 (c:=c10) (r:=(.ret (litB (smallP f o s)),[.row f.cs 29,.row [O,S,litI .i64 n] 32])) rfl rfl rfl rfl ?_⟩
 have lA:Ai.load [.row f.cs 29,.row [O,S,litI .i64 n] 32] (some 8) (.ptr 0 0)=some (.agg f.cs):=load_agg rfl rfl
 have l3:Ai.load [.row f.cs 29,.row [O,S,litI .i64 n] 32] none (.ptr 0 3)=some (eqsA f.eqs):=rfl
 have k0:Ai.load [.row f.cs 29,.row [O,S,litI .i64 n] 32] none (.ptr 1 0)=some O:=rfl
 have k1:Ai.load [.row f.cs 29,.row [O,S,litI .i64 n] 32] none (.ptr 1 1)=some S:=rfl
 have hs:∀id,callV cw mds 24 [.agg f.cs] [.row f.cs 29,.row [O,S,litI .i64 n] 32] id=some (.val (litB (smallOk f)) none):=fun id=>small_call f [.row f.cs 29,.row [O,S,litI .i64 n] 32] id
 have hb:∀id,boxV id 3 (planA O S n) 32=some (.val (.ptr id 0) (some (.row [O,S,litI .i64 n] 32))):=fun id=>boxV_agg rfl (by simp[hO.cell.1,hS.cell.1];rfl)
 unfold smallP small25
 cases h:smallOk f with
 | false =>
  rw[h]at hs
  simp -implicitDefEqProofs only[c10,aW,↓aP,makes,reduceLT,reduceEqDiff,reduceAdd,core_box,flat_f,hb,zA,zC,lA,hs]
  rfl
 | true =>
  rw[h]at hs
  cases h1:decide (f.eqs.length≤25)with
  | false =>
   simp -implicitDefEqProofs only[c10,aW,↓aP,makes,reduceLT,reduceEqDiff,reduceAdd,core_box,flat_f,hb,zA,zC,lA,hs,fadr_ptr,l3,lenV_eqs,le25,h1]
   rfl
  | true =>
  cases h2:decide (o.length≤50)with
  | false =>
   simp -implicitDefEqProofs only[c10,aW,↓aP,makes,reduceLT,reduceEqDiff,reduceAdd,core_box,flat_f,hb,zA,zC,lA,hs,fadr_ptr,l3,lenV_eqs,le25,h1,k0,zK,hO.lenV,le50,h2]
   rfl
  | true =>
   simp -implicitDefEqProofs only[c10,aW,↓aP,makes,reduceLT,reduceEqDiff,reduceAdd,core_box,flat_f,hb,zA,zC,lA,hs,fadr_ptr,l3,lenV_eqs,le25,h1,k0,k1,zK,hO.lenV,hS.lenV,le50,h2]
   rfl
end
section
variable {call:CallF}{mt:MtF}{md:FuncId→Md}
def SlX(A:AV)(l:List Int)(o:List Obj1):Prop :=
 (∃e,A=.sl e [] (some 0)∧l=[]∧o=[])∨∃p z,z.all whole=true∧A=.own p 0 l.length 1 none∧o=[(p,cellsI l++z,3)]
theorem SlX.nil(e:Nat):SlX (.sl e [] (some 0)) [] []:=.inl ⟨e,rfl,rfl,rfl⟩
theorem SlX.own(p:Nat)(l:List Int)(z:List AV)(hz:z.all whole=true):SlX (.own p 0 l.length 1 none) l [(p,cellsI l++z,3)]:=.inr ⟨p,z,hz,rfl,rfl⟩
theorem SlX.lenV{A:AV}{l:List Int}{o:List Obj1}(h:SlX A l o):Ai.lenV A=some (litI .i64 l.length):=by
 rcases h with⟨e,rfl,rfl,_⟩|⟨p,z,_,rfl,_⟩<;>rfl
theorem SlX.cell{A:AV}{l:List Int}{o:List Obj1}(h:SlX A l o):cellsOf A=[A]∧Ai.cellA A=true:=by
 rcases h with⟨e,rfl,rfl,_⟩|⟨p,z,_,rfl,_⟩<;>exact⟨rfl,rfl⟩
def App(x:Option Out)(H:List AO)(a:AV)(H':List AO):Prop:=(x=some (.val a none)∧H'=H)∨(∃b,x=some (.val a (some b))∧H'=H++[b])∨x=some (.wr a H')
theorem App.opS{x:Option Out}{H H':List AO}{a:AV}(h:App x H a H')(d:Option Nat)(fr:Fr)(k:Fr→List AO→Option S):Ai.opS x d fr H k=k (putD fr d a) H':=by
 rcases h with⟨rfl,rfl⟩|⟨b,rfl,rfl⟩|rfl<;>rfl
theorem App.tlS{x:Option Out}{H H':List AO}{a:AV}(h:App x H a H')(d:Option Nat)(fr:Fr)(all:List O)(last:Bool)(k:Fr→List AO→Option S):Ai.tlS x d fr H all last k=k (putD fr d a) H':=by
 rcases h with⟨rfl,rfl⟩|⟨b,rfl,rfl⟩|rfl<;>rfl
theorem RowA.elems{A:AV}{l:List Int}(h:RowA A l)(H:List AO):Ai.elems H 1 A=some (l.length,cellsI l):=by
 rcases h with⟨c,rfl⟩|⟨e,c,rfl,rfl⟩
 ·simp only[rowC,Ai.elems,BEq.rfl,xI,cond_true,yV]
  congr 2
  simp only[cellsI]
  induction l with
  | nil=>rfl
  | cons x l ih=>simp only[yJ,wE,ih,yA]
 ·simp only[Ai.elems,uN,xD,cond_true];rfl
theorem SlX.append{A:AV}{l:List Int}{o d:List Obj1}{H:List AO}{Y:AV}{ys:List Int}(S:SlX A l o)(O:Own H (o++d))(hY:RowA Y ys)(hb:l.length+ys.length≤1000000) :
  ∃A' o' H',App (Ai.append H H.length 1 8 3 A Y) H A' H'∧SlX A' (l++ys) o'∧Own H' (o'++d):=by
 cases hys:ys with
 | nil =>
  subst hys
  refine⟨A,o,H,.inl ⟨?_,rfl⟩,by rw[zZ];exact S,O⟩
  unfold Ai.append
  rw[hY.elems]
  rcases S with⟨e,rfl,rfl,_⟩|⟨p,z,_,rfl,_⟩<;>rfl
 | cons y r =>
  have hn:(ys.length==0)=false:=by rw[hys];rfl
  have h8:Nat.ble ((l.length+ys.length)*8) 140737488355328=true:=yH (by omega)
  rw[←hys]
  rcases S with⟨e,rfl,rfl,rfl⟩|⟨p,z,hz,rfl,rfl⟩
  ·refine⟨.own H.length 0 ys.length 1 none,[(H.length,cellsI ys++[],3)],H++[.row (cellsI ys) 3],.inr (.inl ⟨.row (cellsI ys) 3,?_,rfl⟩),by rw[yF];exact SlX.own H.length ys [] rfl,?_⟩
   ·unfold Ai.append
    rw[hY.elems]
    simp only[zD,hn,cond_false,zA,BEq.rfl,uN,xD,xY,zQ,zB,List.flatten_nil,yF]
    rw[zA,zB]at h8
    rw[h8];rfl
   ·rw[zZ];exact O.new (cellsI ys) 3
  ·have hp:H[p]?=some (.row (cellsI l++z) 3):=O.head
   refine⟨.own H.length 0 (l++ys).length 1 none,[(H.length,cellsI (l++ys)++[],3)],setL H p .dead++[.row (cellsI (l++ys)) 3],.inr (.inr ?_),SlX.own H.length (l++ys) [] rfl,?_⟩
   ·have h2:(cellsI l++z).take (l.length*1)=cellsI l:=by rw[vB,vD (by simp[cellsI])]
    have h3:Nat.ble (0+l.length*1) (cellsI l++z).length=true:=yH (by simp[cellsI])
    unfold Ai.append
    rw[hY.elems]
    simp only[zD,hn,cond_false,rowAt_of hp,BEq.rfl,h3,h8,yX,cond_true,zJ,h2]
    simp[cellsI]
   ·have On:=(Own.kill O).new (cellsI (l++ys)) 3
    rw[setL_len]at On
    rw[zZ];exact On
def bslV(H:List AO)(e n:Nat)(zero:List AV)(ps:List (Nat×AV)):Option Out:=(fill (reps n zero) (ps.map fun p=>(p.1*e,e,p.2))).bind fun cs =>
 (mapL (frz H frzF) cs).bind fun p=>bif p.2.isEmpty then some (.val (.sl e (chunks e n p.1) (some n)) none)else none
theorem core_bsl{H:List AO}{id:Nat}{fr:Fr}(e n:Nat)(z:List AV)(ps:List (Nat×X))(t:TypeId):core call mt md H id (.bslice false e n z ps t) fr=bslV H e n z (ps.map fun p=>(p.1,ev fr p.2)):=by
 show((fill (reps n z) (ps.map fun p=>(p.1*e,e,ev fr p.2))).bind fun cs=>_)=_
 unfold bslV
 rw[yZ]
 rfl
theorem bslV_0(H:List AO)(z:List AV):bslV H 1 0 z []=some (.val (.sl 1 [] (some 0)) none):=rfl
theorem bslV_1(H:List AO)(z:AV)(k:IntKind)(n:Int):bslV H 1 1 [z] [(0,litI k n)]=some (.val (.sl 1 [[litI k n]] (some 1)) none):=rfl
theorem RowA.cases{A:AV}{l:List Int}(h:RowA A l):∃e xs c,A=.sl e xs c:=by
 rcases h with⟨c,rfl⟩|⟨e,c,rfl,rfl⟩
 ·exact⟨_,_,_,rfl⟩
 ·exact⟨_,_,_,rfl⟩
theorem bslV_r2(H:List AO)(z:AV){A B:AV}{a b:List Int}(hA:RowA A a)(hB:RowA B b):bslV H 1 2 [z] [(0,A),(1,B)]=some (.val (.sl 1 [[A],[B]] (some 2)) none):=by
 obtain⟨e,xs,c,rfl⟩:=hA.cases
 obtain⟨e2,xs2,c2,rfl⟩:=hB.cases
 rfl
theorem bslV_r3(H:List AO)(z:AV){A B C:AV}{a b c:List Int}(hA:RowA A a)(hB:RowA B b)(hC:RowA C c):bslV H 1 3 [z] [(0,A),(1,B),(2,C)]=some (.val (.sl 1 [[A],[B],[C]] (some 3)) none):=by
 obtain⟨e,xs,c,rfl⟩:=hA.cases
 obtain⟨e2,xs2,c2,rfl⟩:=hB.cases
 obtain⟨e3,xs3,c3,rfl⟩:=hC.cases
 rfl
theorem core_cap{H:List AO}{id:Nat}{fr:Fr}(x:X):core call mt md H id (.cap x) fr=valO (capV (ev fr x)):=rfl
theorem core_apm{H:List AO}{id:Nat}{fr:Fr}(e bytes:Nat)(z:List AV)(t:TypeId)(x n:X):core call mt md H id (.apm e bytes z t x n) fr=apmV id e bytes z t (ev fr x) (ev fr n):=rfl
theorem capV_nil:capV (.sl 0 [] (some 0))=some (litI .i64 0):=rfl
theorem grow0_tells:cw 69 [.sl 0 [] (some 0),litI .i64 0] []=some (.ret (.sl 0 [] (some 0)),[]):=by
 refine cw_of fn69 (c:=c69) rfl rfl rfl rfl ?_
 simp -implicitDefEqProofs only[c69,aW,↓aP,makes,reduceLT,reduceEqDiff,reduceAdd,core_cap,core_apm,capV_nil,zA,Int.ofNat_zero,zR,show IntKind.wrap .i64 (0-0)=0 from rfl]
 rfl
theorem grow1_tells(n:Nat)(h0:0<n)(hn:n≤1000000):cw 69 [.sl 0 [] (some 0),litI .i64 n] []=some (.ret (.own 0 0 0 1 none),[.row (List.replicate n (litI .i64 0)) 3]):=by
 refine cw_of fn69 (c:=c69) rfl rfl rfl rfl ?_
 have h1:¬(n:Int)<0:=by omega
 have h2:IntKind.wrap .i64 ((n:Int)-0)=n:=by rw[Go.Ai.wrap_small]<;>omega
 have h3:(0:Int)<n:=by omega
 have sl1:slice 1 (.sl 0 [] (some 0)) none (some (litI .i64 0)) none=some (.sl 1 [] (some 0)):=rfl
 have ap:∀id,apmV id 1 8 [litI .i64 0] 3 (.sl 1 [] (some 0)) (litI .i64 n)=some (.val (.own id 0 n 1 none) (some (.row (List.replicate n (litI .i64 0)) 3))):=by
  intro id
  have e1:(n:Int)*8≤140737488355328:=by omega
  have e2:(n:Int)≤140737488355328:=by omega
  simp only[apmV,litI,h3,e1,e2,decide_true,yX,cond_true,xF,Int.cast_ofNat_Int,reps_one]
 have sl2:∀r,slice 1 (.own r 0 n 1 none) none (some (litI .i64 0)) none=some (.own r 0 0 1 none):=fun r=>by
  rw[slice_own_to (by omega) (by omega)];rfl
 simp -implicitDefEqProofs only[c69,aW,↓aP,makes,reduceLT,reduceEqDiff,reduceAdd,core_cap,core_apm,capV_nil,zA,Int.ofNat_zero,h1,show IntKind.wrap .i64 (0-0)=0 from rfl,h2,h3,sl1,ap,sl2]
 rfl
theorem whole_zeros(n:Nat):(List.replicate n (litI .i64 0)).all whole=true:=by
 rw[yD];intro a ha;rw[vV ha];rfl
theorem grow0_call(H:List AO)(id:Nat):callV cw mds 69 [.sl 0 [] (some 0),litI .i64 0] H id=some (.val (.sl 0 [] (some 0)) none):=callV_ownP rfl rfl grow0_tells rfl
theorem grow1_call(n:Nat)(h0:0<n)(hn:n≤1000000)(H:List AO)(id:Nat):callV cw mds 69 [.sl 0 [] (some 0),litI .i64 n] H id=some (.val (.own id 0 0 1 none) (some (.row (List.replicate n (litI .i64 0)) 3))) :=
 callV_own rfl rfl (grow1_tells n h0 hn) rfl (whole_zeros n)
abbrev Rows:=List (AV×List Int)
def Rows.ok(L:Rows):Prop:=∀p∈L,RowA p.1 p.2
def Rows.cat(L:Rows):List Int:=L.flatMap (·.2)
def catA(L:Rows)(c:Option Nat):AV:=.sl 1 (L.map fun p=>[p.1]) c
theorem lenV_cat(L:Rows)(c:Option Nat):lenV (catA L c)=some (litI .i64 L.length):=by simp[catA,lenV]
theorem iadr_cat(L:Rows)(c:Option Nat)(n:Nat):iadr 1 (catA L c) (litI .i64 n)=(L[n]?).map fun p=>.ip [p.1]:=by
 rw[catA,iadr_sl];simp[Function.comp_def]
theorem cat_cons(p:AV×List Int)(L:Rows):Rows.cat (p::L)=p.2++Rows.cat L:=by simp[Rows.cat]
theorem cat_loop0(L:Rows)(c:Option Nat)(hL:L.ok)(H:List AO)(hl:L.length≤1000000):∀(m n s:Nat),m+n=L.length→s+(Rows.cat (L.drop n)).length≤1000000 →
  loopW (codeW call mt md c51l0) [0,3,9,10,11] [(0,catA L c),(3,litI .i64 s),(9,catA L c),(10,litI .i64 L.length),(11,litI .i64 n)] H =
   some (EX.exit 0,[(0,catA L c),(3,litI .i64 (s+(Rows.cat (L.drop n)).length:Nat)),(9,catA L c),(10,litI .i64 L.length),(11,litI .i64 L.length),(12,litB false)],H)
 | 0,n,s,h,hs=>by
  have hn:n=L.length:=by omega
  subst hn
  refine loopW_out ?_ (by simp)
  simp -implicitDefEqProofs only[c51l0,aW,↓aP,makes,reduceLT,reduceEqDiff,reduceAdd,zR,yB,show Rows.cat []=[]from rfl,zA,zK]
 | m+1,n,s,h,hs=>by
  have hn:n<L.length:=by omega
  have hg:L[n]?=some L[n]:=zE hn
  have hlt:(n:Int)<L.length:=by omega
  have hd:L.drop n=L[n]::L.drop (n+1):=zS hn
  rw[hd,cat_cons,zN]at hs
  have ih:=cat_loop0 L c hL H hl m (n+1) (s+L[n].2.length) (by omega) (by omega)
  rw[hd,cat_cons,zN,←xK]
  refine loopW_round ?_ ih
  have hr:=hL _ (zV hn)
  have hw:IntKind.wrap .i64 ((s:Int)+(L[n].2.length:Int))=((s+L[n].2.length:Nat):Int):=by rw[Go.Ai.wrap_small]<;>omega
  have h0:¬((s+L[n].2.length:Nat):Int)<0:=by omega
  simp -implicitDefEqProofs only[c51l0,aW,↓aP,makes,reduceLT,reduceEqDiff,reduceAdd,hlt,iadr_cat,hg,hr.lenV,hw,h0,wrap1 (show n<4611686018427387904 by omega)]
theorem cat_loop1(L:Rows)(c:Option Nat)(hL:L.ok)(hl:L.length≤1000000):∀(m n:Nat)(A:AV)(l:List Int)(o d:List Obj1)(H:List AO),m+n=L.length→l.length+(Rows.cat (L.drop n)).length≤1000000→SlX A l o→Own H (o++d) →
  ∃A' o' H',loopW (codeW call mt md c51l1) [6,25,26,27] [(6,A),(25,catA L c),(26,litI .i64 L.length),(27,litI .i64 n)] H =
   some (EX.exit 2,[(6,A'),(25,catA L c),(26,litI .i64 L.length),(27,litI .i64 L.length),(28,litB false)],H')∧SlX A' (l++Rows.cat (L.drop n)) o'∧Own H' (o'++d)
 | 0,n,A,l,o,d,H,h,hs,S,O=>by
  have hn:n=L.length:=by omega
  subst hn
  refine⟨A,o,H,loopW_out ?_ (by simp),?_,O⟩
  ·simp -implicitDefEqProofs only[c51l1,aW,↓aP,makes,reduceLT,reduceEqDiff,reduceAdd,zR]
  ·rw[yB,show Rows.cat []=[]from rfl,zZ];exact S
 | m+1,n,A,l,o,d,H,h,hs,S,O=>by
  have hn:n<L.length:=by omega
  have hg:L[n]?=some L[n]:=zE hn
  have hlt:(n:Int)<L.length:=by omega
  have hd:L.drop n=L[n]::L.drop (n+1):=zS hn
  rw[hd,cat_cons,zN]at hs
  obtain⟨A1,o1,H1,ap,S1,O1⟩:=S.append O (hL _ (zV hn)) (by omega)
  obtain⟨A',o',H',L',S',O'⟩:=cat_loop1 L c hL hl m (n+1) A1 (l++L[n].2) o1 d H1 (by omega) (by simp;omega) S1 O1
  rw[hd,cat_cons,←zU]
  refine⟨A',o',H',loopW_round ?_ L',S',O'⟩
  simp -implicitDefEqProofs only[c51l1,aW,↓aP,makes,reduceLT,reduceEqDiff,reduceAdd,hlt,iadr_cat,hg,ap.opS,wrap1 (show n<4611686018427387904 by omega)]
theorem concat_tells(L:Rows)(c:Option Nat)(hL:L.ok)(hl:L.length≤1000000)(hs:(Rows.cat L).length≤1000000) :
  ∃A o H',cw 51 [catA L c] []=some (.ret A,H')∧SlX A (Rows.cat L) o∧Own H' o∧(Rows.cat L=[]→A=.sl 0 [] (some 0)):=by
 have L0:=cat_loop0 (call:=cw) (mt:=lookM mtl) (md:=mds) L c hL [] hl L.length 0 0 (by omega) (by simpa using hs)
 rw[show((0:Nat):Int)=0 from rfl,zJ,zB]at L0
 by_cases h0:Rows.cat L=[]
 ·have all0:∀(m n:Nat),m+n=L.length→loopW (codeW cw (lookM mtl) mds c51l1) [6,25,26,27] [(6,.sl 0 [] (some 0)),(25,catA L c),(26,litI .i64 L.length),(27,litI .i64 n)] [] =
   some (EX.exit 2,[(6,.sl 0 [] (some 0)),(25,catA L c),(26,litI .i64 L.length),(27,litI .i64 L.length),(28,litB false)],[]):=by
   intro m
   induction m with
   | zero =>
    intro n h
    have hn:n=L.length:=by omega
    subst hn
    refine loopW_out ?_ (by simp)
    simp -implicitDefEqProofs only[c51l1,aW,↓aP,makes,reduceLT,reduceEqDiff,reduceAdd,zR]
   | succ m ih =>
    intro n h
    have hn:n<L.length:=by omega
    have hg:L[n]?=some L[n]:=zE hn
    have hlt:(n:Int)<L.length:=by omega
    refine loopW_round ?_ (ih (n+1) (by omega))
    have hr:=hL _ (zV hn)
    have he:L[n].2=[]:=by
     have:L[n].2 ⊆ Rows.cat L:=fun x hx=>List.mem_flatMap.2 ⟨_,zV hn,hx⟩
     rw[h0]at this
     exact List.eq_nil_of_subset_nil this
    rw[he]at hr
    have ap:∀id,append [] id 1 8 3 (.sl 0 [] (some 0)) L[n].1=some (.val (.sl 0 [] (some 0)) none):=by
     intro id
     unfold append
     rw[hr.elems];rfl
    simp -implicitDefEqProofs only[c51l1,aW,↓aP,makes,reduceLT,reduceEqDiff,reduceAdd,hlt,iadr_cat,hg,ap,wrap1 (show n<4611686018427387904 by omega)]
  have L1:=all0 L.length 0 (by omega)
  rw[show((0:Nat):Int)=0 from rfl]at L1
  rw[h0,zA,show((0:Nat):Int)=0 from rfl]at L0
  refine⟨.sl 0 [] (some 0),[],[],cw_of fn51 (c:=c51) rfl rfl rfl rfl ?_,by rw[h0];exact SlX.nil 0,Own.nil,fun _=>rfl⟩
  simp -implicitDefEqProofs only[c51,aW,↓aP,makes,reduceLT,reduceEqDiff,reduceAdd,lenV_cat,L0,grow0_call,L1]
  rfl
 ·have hpos:0<(Rows.cat L).length:=vX.2 h0
  have g1:=fun id=>grow1_call (Rows.cat L).length hpos hs [] id
  have O1:Own [AO.row (List.replicate (Rows.cat L).length (litI .i64 0)) 3] ([(0,cellsI []++List.replicate (Rows.cat L).length (litI .i64 0),3)]++[]):=by
   refine⟨by simp,fun x hx=>?_⟩
   simp only[zZ,zO,yG,or_false]at hx
   subst hx;rfl
  obtain⟨A',o',H',L1,S',O'⟩:=cat_loop1 (call:=cw) (mt:=lookM mtl) (md:=mds) L c hL hl L.length 0 (.own 0 0 0 1 none) [] _ [] _ (by omega) (by simpa using hs) (SlX.own 0 [] (List.replicate (Rows.cat L).length (litI .i64 0)) (whole_zeros _)) O1
  rw[show((0:Nat):Int)=0 from rfl]at L1
  rw[zJ,yF]at S'
  rw[zZ]at O'
  refine⟨A',o',H',cw_of fn51 (c:=c51) rfl rfl rfl rfl ?_,S',O',fun h=>absurd h h0⟩
  simp -implicitDefEqProofs only[c51,aW,↓aP,makes,reduceLT,reduceEqDiff,reduceAdd,lenV_cat,L0,g1,zA,L1]
  rfl
theorem concat_call(L:Rows)(c:Option Nat)(hL:L.ok)(hl:L.length≤1000000)(hs:(Rows.cat L).length≤1000000)(H:List AO)(d:List Obj1)(O:Own H d) :
  ∃A o H',App (callV cw mds 51 [catA L c] H H.length) H A H'∧SlX A (Rows.cat L) o∧Own H' (o++d):=by
 obtain⟨A,o,H',h,S,O',_⟩:=concat_tells L c hL hl hs
 rcases S with⟨e,rfl,h0,rfl⟩|⟨p,z,hz,rfl,rfl⟩
 ·exact⟨.sl e [] (some 0),[],H,.inl ⟨callV_ownP rfl rfl h rfl,rfl⟩,by rw[h0];exact SlX.nil e,O⟩
 ·refine⟨.own H.length 0 (Rows.cat L).length 1 none,_,_,.inr (.inl ⟨_,callV_own rfl rfl h O'.head (by rw[List.all_append,hz,xY,yD];intro a ha;obtain⟨b,_,rfl⟩:=zW.1 ha;rfl),rfl⟩),SlX.own _ _ z hz,O.new _ 3⟩
end
section
variable {call:CallF}{mt:MtF}{md:FuncId→Md}
structure Reads(H:List AO)(A:AV)(l:List Int):Prop where
 len:Ai.lenV A=some (litI .i64 l.length)
 el:∀(j:Nat)(x:Int),l[j]?=some x→∃c,iadr 1 A (litI .i64 j)=some c∧Ai.load H none c=some (litI .i64 x)
theorem cellsI_at(l:List Int)(n:Nat):(cellsI l)[n]?=(l[n]?).map (litI .i64):=by simp[cellsI]
theorem load_at{H:List AO}{r off:Nat}{cs:List AV}{t:TypeId}{a:AV}(h:H[r]?=some (.row cs t))(ha:cs[off]?=some a):Ai.load H none (.ptr r off)=some a:=by rw[load_ptr h,ha]
theorem reads_own{H:List AO}{q:Nat}{l:List Int}{z:List AV}{t:TypeId}{c:Option Nat}(h:H[q]?=some (.row (cellsI l++z) t)):Reads H (.own q 0 l.length 1 c) l:=by
 refine⟨rfl,fun j x hj=>?_⟩
 have hlt:=(zG.1 hj).1
 refine⟨.ptr q j,?_,load_at h ?_⟩
 ·rw[iadr_own,if_pos ⟨by omega,by omega⟩];simp
 ·rw[yC (by simp[cellsI];omega),cellsI_at,hj];rfl
theorem reads_row{H:List AO}{A:AV}{l:List Int}(h:RowA A l):Reads H A l :=
 ⟨h.lenV,fun j x hj=>⟨_,h.iadr hj,rfl⟩⟩
theorem index34p_loop(A:AV)(l:List Int)(p:Int→Bool)(fv:AV)(H:List AO)(R:Reads H A l)(hp:∀x id,fnV cw mds fv [litI .i64 x] H id=some (.val (litB (p x)) none))(hl:l.length≤1000000):∀(m n:Nat),m+n=l.length →
  loopW (codeW cw (lookM mtl) mds c34l0) [0,1,7,8] [(0,A),(1,fv),(7,litI .i64 l.length),(8,litI .i64 n)] H =
   some (if findF p n (l.drop n) = -1 then(EX.exit 0,[(0,A),(1,fv),(7,litI .i64 l.length),(8,litI .i64 l.length),(9,litB false)],H)else(.ret,[(4,litI .i64 (findF p n (l.drop n)))],H))
 | 0,n,h=>by
  have hn:n=l.length:=by omega
  subst hn
  rw[if_pos (by simp[findF])]
  refine loopW_out ?_ (by simp)
  simp -implicitDefEqProofs only[c34l0,aW,↓aP,makes,reduceLT,reduceEqDiff,reduceAdd,zR]
 | m+1,n,h=>by
  have hn:n<l.length:=by omega
  have hg:l[n]?=some l[n]:=zE hn
  obtain⟨c,hc1,hc2⟩:=R.el n _ hg
  have hlt:(n:Int)<l.length:=by omega
  have hd:l.drop n=l[n]::l.drop (n+1):=zS hn
  have hx:=fun id=>hp l[n] id
  rw[hd,findF]
  cases hc:p l[n]with
  | true =>
   rw[hc]at hx
   rw[cond_true,if_neg (by omega)]
   refine loopW_out ?_ (by simp)
   simp -implicitDefEqProofs only[c34l0,aW,↓aP,makes,reduceLT,reduceEqDiff,reduceAdd,hc1,hc2,hlt,hx]
  | false =>
   rw[hc]at hx
   rw[cond_false]
   refine loopW_round ?_ (index34p_loop A l p fv H R hp hl m (n+1) (by omega))
   simp -implicitDefEqProofs only[c34l0,aW,↓aP,makes,reduceLT,reduceEqDiff,reduceAdd,hc1,hc2,hlt,hx,wrap1 (show n<4611686018427387904 by omega)]
theorem index34p_tells(A:AV)(l:List Int)(p:Int→Bool)(fv:AV)(H:List AO)(R:Reads H A l)(hp:∀x id,fnV cw mds fv [litI .i64 x] H id=some (.val (litB (p x)) none))(hl:l.length≤1000000) :
  cw 34 [A,fv] H=some (.ret (litI .i64 (findF p 0 l)),H):=by
 refine cw_of fn34 (c:=c34) rfl rfl rfl rfl ?_
 have L:=index34p_loop A l p fv H R hp hl l.length 0 (by omega)
 rw[zJ,show((0:Nat):Int)=0 from rfl]at L
 by_cases ha:findF p 0 l = -1
 ·rw[if_pos ha]at L
  rw[ha]
  simp -implicitDefEqProofs only[c34,aW,↓aP,makes,reduceLT,reduceEqDiff,reduceAdd,R.len,L]
  rfl
 ·rw[if_neg ha]at L
  simp -implicitDefEqProofs only[c34,aW,↓aP,makes,reduceLT,reduceEqDiff,reduceAdd,R.len,L]
  rfl
theorem findF_del(p:Int→Bool):∀(l:List Int)(n:Nat),(findF p n l = -1∧l.filter (fun x=>!p x)=l)∨∃i:Nat,findF p n l=((n+i:Nat):Int)∧i<l.length∧(l.take (i+1)).filter (fun x=>!p x)=l.take i
 | [],n=>.inl ⟨rfl,rfl⟩
 | x::r,n=>by
  cases h:p x with
  | true =>
   right
   exact⟨0,by simp[findF,h],by simp,by simp[h]⟩
  | false =>
   simp only[findF,h,cond_false]
   rcases findF_del p r (n+1)with⟨h1,h2⟩|⟨i,h1,h2,h3⟩
   ·left;exact⟨h1,by simp[h,h2]⟩
   ·right
    refine⟨i+1,by rw[h1];congr 1;omega,by simp;omega,?_⟩
    rw[vS,uY (by simp[h]),h3];rfl
theorem slice_own_from{e r off n z:Nat}{k:IntKind}(h:z≤n):slice e (.own r off n e none) (some (litI k (z:Int))) none none=some (.own r (off+z*e) (n-z) e none):=by
 have h1:((z:Int)≤n):=by omega
 simp only[slice,BEq.rfl,cond_true,cuts,bound,litI,Int.natCast_nonneg,h1,decide_true,yX,zD,xF,Option.bind_none]
theorem del_loop(q:Nat)(l:List Int)(z:List AV)(p:Int→Bool)(fv:AV)(hp:∀x H id,fnV cw mds fv [litI .i64 x] H id=some (.val (litB (p x)) none))(hl:l.length≤1000000)(d:List Obj1):∀(m j i:Nat)(r:List Int)(H:List AO),m+j=l.length→i≤j→r.length=l.length→r.take i=(l.take j).filter (fun x=>!p x)→r.drop j=l.drop j→Own H ((q,cellsI r++z,3)::d) →
  ∃(r':List Int)(i':Nat)(H':List AO),loopW (codeW cw (lookM mtl) mds c76l0) [0,1,5,6] [(0,.own q 0 l.length 1 none),(1,fv),(5,litI .i64 i),(6,litI .i64 j)] H =
   some (EX.exit 0,[(0,.own q 0 l.length 1 none),(1,fv),(5,litI .i64 i'),(6,litI .i64 l.length),(19,litB false)],H')∧r'.length=l.length∧i'≤l.length∧r'.take i'=l.filter (fun x=>!p x)∧Own H' ((q,cellsI r'++z,3)::d)∧H'.length=H.length
 | 0,j,i,r,H,hm,hij,hr,ht,hd,O=>by
  have hj:j=l.length:=by omega
  subst hj
  refine⟨r,i,H,loopW_out ?_ (by simp),hr,hij,by rw[ht,xR],O,rfl⟩
  simp -implicitDefEqProofs only[c76l0,aW,↓aP,makes,reduceLT,reduceEqDiff,reduceAdd,zR]
 | m+1,j,i,r,H,hm,hij,hr,ht,hd,O=>by
  have hj:j<l.length:=by omega
  have hjr:j<r.length:=by omega
  have hlt:(j:Int)<l.length:=by omega
  have h0:(0:Int)≤j:=by omega
  have hx:r[j]=l[j]:=by
   rw[zS hjr,zS hj]at hd
   exact(List.cons.inj hd).1
  have hd':r.drop (j+1)=l.drop (j+1):=by
   rw[zS hjr,zS hj]at hd
   exact(List.cons.inj hd).2
  have hg:(cellsI r++z)[j]?=some (litI .i64 l[j]):=by
   rw[yC (by simp[cellsI];omega),cellsI_at,zE hjr,hx];rfl
  have hw:=wrap1 (show j<4611686018427387904 by omega)
  have tk:l.take (j+1)=l.take j++[l[j]]:=by rw[tG,zE hj];rfl
  have hpx:=fun id=>hp l[j] H id
  cases hc:p l[j]with
  | true =>
   rw[hc]at hpx
   obtain⟨r',i',H',L,q1,q2,q3,q4,q5⟩:=del_loop q l z p fv hp hl d m (j+1) i r H (by omega) (by omega) hr (by rw[ht,tk,uT];simp[hc]) hd' O
   refine⟨r',i',H',loopW_round ?_ L,q1,q2,q3,q4,q5⟩
   simp -implicitDefEqProofs only[c76l0,aW,↓aP,makes,reduceLT,reduceEqDiff,reduceAdd,hlt,h0,and_self,vB,load_at O.head hg,hpx,hw]
  | false =>
   rw[hc]at hpx
   have hi:(i:Int)<l.length:=by omega
   have hi0:(0:Int)≤i:=by omega
   have O1:=O.set (cellsI (r.set i l[j])++z) 3
   have st:storeAt H 1 (.ptr q i) (litI .i64 l[j])=some (setL H q (.row (cellsI (r.set i l[j])++z) 3)):=by
    rw[store_ptr O.head (by simp[cellsI];omega) rfl rfl,List.set_append_left _ _ (by simp[cellsI];omega)]
    simp[cellsI]
   have hwi:=wrap1 (show i<4611686018427387904 by omega)
   obtain⟨r',i',H',L,q1,q2,q3,q4,q5⟩:=del_loop q l z p fv hp hl d m (j+1) (i+1) (r.set i l[j]) _ (by omega) (by omega) (by simpa using hr) (by
    rw[tk,uT,←ht]
    rw[tG,yK (by omega),List.take_set_of_le (by omega)]
    simp[hc]) (by rw[List.drop_set_of_lt (by omega)];exact hd') O1
   refine⟨r',i',H',loopW_round ?_ L,q1,q2,q3,q4,by rw[q5,setL_len]⟩
   simp -implicitDefEqProofs only[c76l0,aW,↓aP,makes,reduceLT,reduceEqDiff,reduceAdd,hlt,h0,hi,hi0,and_self,vB,load_at O.head hg,hpx,st,hwi,hw]
theorem del_tells{q:Nat}{l:List Int}{z:List AV}(hz:z.all whole=true){p:Int→Bool}{fv:AV}(hp:∀x H id,fnV cw mds fv [litI .i64 x] H id=some (.val (litB (p x)) none))(hl:l.length≤1000000){d:List Obj1}{H:List AO}(O:Own H ((q,cellsI l++z,3)::d)) :
  ∃z' H',cw 76 [.own q 0 l.length 1 none,fv] H=some (.ret (.own q 0 (l.filter fun x=>!p x).length 1 none),H')∧z'.all whole=true∧H'.length=H.length∧Own H' ((q,cellsI (l.filter fun x=>!p x)++z',3)::d):=by
 have hfind:=index34p_tells (.own q 0 l.length 1 none) l p fv H (reads_own O.head) (fun x id=>hp x H id) hl
 have hcall:∀id,callV cw mds 34 [.own q 0 l.length 1 none,fv] H id=some (.wr (litI .i64 (findF p 0 l)) H):=fun id=>callV_same rfl hfind rfl
 rcases findF_del p l 0 with⟨h1,h2⟩|⟨i,h1,h2,h3⟩
 ·rw[h2]
  rw[h1]at hcall
  refine⟨z,H,cw_of fn76 (c:=c76) rfl rfl rfl rfl ?_,hz,rfl,O⟩
  simp -implicitDefEqProofs only[c76,aW,↓aP,makes,reduceLT,reduceEqDiff,reduceAdd,hcall]
  rfl
 ·rw[zB]at h1
  rw[h1]at hcall
  have hne:(((i:Nat):Int)==-1)=false:=by rw[beq_eq_false_iff_ne];omega
  obtain⟨r',i',H',L,q1,q2,q3,q4,q5⟩:=del_loop q l z p fv hp hl d (l.length-(i+1)) (i+1) i l H (by omega) (by omega) rfl h3.symm rfl O
  have hi':i'=(l.filter fun x=>!p x).length:=by
   have:=congrArg List.length q3
   rw[wB,q1,vI q2]at this
   exact this
  subst hi'
  have hw:=wrap1 (show i<4611686018427387904 by omega)
  have hz0:∀n,(reps n [litI .i64 0]).all whole=true:=fun n=>by rw[reps_one];exact whole_zeros n
  have hHl:∀(H1:List AO)(S:List AV),∃z',(cellsI (l.filter fun x=>!p x)++S)=cellsI (l.filter fun x=>!p x)++z':=fun _ S=>⟨S,rfl⟩
  have clr:∃z' H2,clrAt H' 1 [litI .i64 0] (.own q (0+(l.filter fun x=>!p x).length*1) (l.length-(l.filter fun x=>!p x).length) 1 none)=some H2∧z'.all whole=true∧H2.length=H'.length∧Own H2 ((q,cellsI (l.filter fun x=>!p x)++z',3)::d):=by
   by_cases h0:l.length-(l.filter fun x=>!p x).length=0
   ·refine⟨z,H',?_,hz,rfl,?_⟩
    ·rw[h0];rfl
    ·have:r'=l.filter fun x=>!p x:=by
      rw[←q3,xW (by omega)]
     rw[←this];exact q4
   ·have hb:((l.length-(l.filter fun x=>!p x).length)==0)=false:=by simpa using h0
    have hble:Nat.ble ((l.filter fun x=>!p x).length*1+(l.length-(l.filter fun x=>!p x).length)*1) (cellsI r'++z).length=true:=yH (by simp[cellsI];omega)
    refine⟨reps (l.length-(l.filter fun x=>!p x).length) [litI .i64 0]++z,_,?_,by rw[List.all_append,hz0,hz];rfl,setL_len _ _ _,q4.set _ 3⟩
    simp only[clrAt,hb,cond_false,rowAt_of q4.head,zD,BEq.rfl,zC,zA,zB,zQ,hble,xY,cond_true]
    congr 3
    rw[vB,vB,List.take_append_of_le_length (by simp[cellsI];omega)]
    rw[show cellsI r'=cellsI (r'.take (l.filter fun x=>!p x).length)++cellsI (r'.drop (l.filter fun x=>!p x).length) by rw[←uQ (l.filter fun x=>!p x).length r'];simp[cellsI]]
    rw[vD (by simp[cellsI];omega),q3,zU]
    congr 2
    rw[show(l.filter fun x=>!p x).length+(l.length-(l.filter fun x=>!p x).length)=l.length by omega]
    rw[uR]
    rw[zN,cellsI_len,cellsI_len,vA,q1];omega
  obtain⟨z',H2,hclr,hz',hl2,O2⟩:=clr
  simp only[zB,vB]at hclr
  have sl1:slice 1 (.own q 0 l.length 1 none) (some (litI .i64 ((l.filter fun x=>!p x).length:Int))) none none=some (.own q (0+(l.filter fun x=>!p x).length*1) (l.length-(l.filter fun x=>!p x).length) 1 none):=slice_own_from q2
  have sl2:slice 1 (.own q 0 l.length 1 none) none (some (litI .i64 ((l.filter fun x=>!p x).length:Int))) none=some (.own q 0 (l.filter fun x=>!p x).length 1 none):=by
   rw[slice_own_to (by omega) (by omega)];simp
  simp only[zB,vB]at sl1
  refine⟨z',H2,cw_of fn76 (c:=c76) rfl rfl rfl rfl ?_,hz',by rw[hl2,q5],O2⟩
  simp -implicitDefEqProofs only[c76,aW,↓aP,makes,reduceLT,reduceEqDiff,reduceAdd,hcall,hne,hw,L,sl1,hclr,sl2]
  rfl
end
section
variable {call:CallF}{mt:MtF}{md:FuncId→Md}
structure FitsS(f:FlatV):Prop where
 fits:FitsF f
 eqs:f.eqs.length≤25
 mems:f.mems.length≤100
 conts:f.conts.length≤20
 cross:f.cross.length≤20
 outs:f.outs.length≤50
 again:f.again.length≤50
 args:∀q∈f.eqs,q.args.length≤30
 mres:∀m∈f.mems,m.resets.length≤20
 cres:∀m∈f.conts,m.resets.length≤20
 slopes:∀m∈f.conts,m.slopes.length≤20
 ops:∀m∈f.cross,m.ops.length≤30
 names:f.names.length≤200
theorem fitsS_of(f:FlatV)(h:small25 f=true):FitsS f:=by
 obtain⟨h,h25⟩:=small25_1 h
 have F:=fits_of_small f h
 simp only[smallOk,zL,yY,sizesBig,uP,decide_eq_false_iff_not,vP,eqnBig,memBig,contBig,crossBig,zH]at h
 obtain⟨⟨⟨⟨⟨⟨⟨⟨⟨⟨⟨s0,s1⟩,s2⟩,s3⟩,s4⟩,s5⟩,s6⟩,s7⟩,e⟩,m⟩,k⟩,x⟩:=h
 refine⟨F,h25,by omega,by omega,by omega,by omega,by omega,fun q hq=>?_,fun q hq=>?_,fun q hq=>?_,fun q hq=>?_,fun q hq=>?_,by omega⟩
 ·have:=(e q hq).1.1.1;omega
 ·have:=(m q hq).1;omega
 ·have:=(k q hq).1.1;omega
 ·have:=(k q hq).1.2;omega
 ·have:=(x q hq).1;omega
theorem inN_iff{k:Nat}{x:Int}:inN k x=true↔0≤x∧x<k:=by simp[inN]
theorem within_iff{r:List Int}{k:Nat}:within r k=true↔∀x∈r,0≤x∧x<(k:Int):=by
 simp only[within,yD,inN_iff]
theorem isS_ne{s:ByteArray}{a b:List Nat}(h:isS s a=true)(hab:((bs a).data.toList==(bs b).data.toList)=false):isS s b=false:=by
 unfold isS at h ⊢
 rw[eq_of_beq h];exact hab
structure KOk(f:FlatV)(q:Eqn):Prop where
 m:isS q.op [109,101,109]=true→inN f.mems.length q.k=true
 k:isS q.op [99,111,110,116]=true→inN f.conts.length q.k=true
theorem kOk_of{f:FlatV}{q:Eqn}(h:eqOk f q=true):KOk f q:=by
 refine⟨fun hm=>?_,fun hk=>?_⟩
 ·have h1:isS q.op [108,105,116]=false:=isS_ne hm rfl
  have h2:isS q.op [105,110]=false:=isS_ne hm rfl
  unfold eqOk at h
  rw[h1,h2,hm]at h
  simp only[cond_false,cond_true,zL]at h
  exact h.2
 ·have h1:isS q.op [108,105,116]=false:=isS_ne hk rfl
  have h2:isS q.op [105,110]=false:=isS_ne hk rfl
  have h3:isS q.op [109,101,109]=false:=isS_ne hk rfl
  unfold eqOk at h
  rw[h1,h2,h3,hk]at h
  simp only[cond_false,cond_true,zL]at h
  exact h.2
structure GoodF(f:FlatV):Prop where
 len:f.eqs.length=f.names.length
 var:∀q∈f.eqs,0≤q.var∧q.var<(f.names.length:Int)
 nodup:(f.eqs.map (·.var)).Nodup
 guard:∀q∈f.eqs,q.guard<(f.names.length:Int)
 args:∀q∈f.eqs,∀x∈q.args,0≤x∧x<(f.names.length:Int)
 kok:∀q∈f.eqs,KOk f q
 mems:∀m∈f.mems,(0≤m.next∧m.next<(f.names.length:Int))∧m.guard<(f.names.length:Int)∧∀x∈m.resets,0≤x∧x<(f.names.length:Int)
 conts:∀m∈f.conts,(0≤m.var∧m.var<(f.names.length:Int))∧m.guard<(f.names.length:Int)∧(∀x∈m.resets,0≤x∧x<(f.names.length:Int))∧∀s∈m.slopes,(0≤s.var∧s.var<(f.names.length:Int))∧s.guard<(f.names.length:Int)
 cross:∀m∈f.cross,m.guard<(f.names.length:Int)∧opsOk f f.names.length m.ops=true
 outs:∀x∈f.outs,0≤x∧x<(f.names.length:Int)
 again:∀x∈f.again,0≤x∧x<(f.names.length:Int)
theorem eqsF_facts(f:FlatV)(n:Nat):∀(l:List Eqn)(T T':List Bool),T.length=n→eqsF f n T l=some T' →
  (∀q∈l,inN n q.var=true∧T.getD q.var.toNat false=false∧q.guard<n∧within q.args n=true∧eqOk f q=true)∧(l.map (·.var)).Nodup
 | [],_,_,_,_=>⟨by simp,by simp⟩
 | q::l,T,T',hT,h=>by
  rw[eqsF]at h
  cases hs:stepOk f n T q with
  | false=>rw[hs]at h;cases h
  | true =>
   rw[hs,cond_true]at h
   obtain⟨ih1,ih2⟩:=eqsF_facts f n l _ T' (by simp[hT]) h
   simp only[stepOk,zL,decide_eq_true_eq,yY]at hs
   obtain⟨⟨⟨⟨s1,s2⟩,s3⟩,s4⟩,s5⟩:=hs
   have key:∀q'∈l,q'.var≠q.var∧T.getD q'.var.toNat false=false:=by
    intro q' hq'
    obtain⟨i1,i2,_⟩:=ih1 q' hq'
    rw[inN_iff]at i1 s1
    have hne:q'.var≠q.var:=by
     intro e
     rw[e,zF,yK (by omega)]at i2
     cases i2
    refine⟨hne,?_⟩
    rw[zF,yT (by omega),←zF]at i2
    exact i2
   refine⟨fun q' hq'=>?_,?_⟩
   ·rcases zO.1 hq' with rfl|hq'
    ·exact⟨s1,s2,s3,s4,s5⟩
    ·obtain⟨i1,_,i3⟩:=ih1 q' hq'
     exact⟨i1,(key q' hq').2,i3⟩
   ·rw[yJ,xA]
    refine⟨fun hm=>?_,ih2⟩
    obtain⟨q',hq',e⟩:=zW.1 hm
    exact(key q' hq').1 e
theorem goodF_of{f:FlatV}(h:goodOk f=true):GoodF f:=by
 unfold goodOk nV at h
 simp only[zL]at h
 obtain⟨⟨⟨⟨⟨⟨h1,h2⟩,h3⟩,h4⟩,h5⟩,h6⟩,h7⟩:=h
 have hl:f.eqs.length=f.names.length:=by have:=eq_of_beq h4;omega
 rw[yD]at h1 h2 h3
 have he:∃T',eqsF f f.names.length (List.replicate f.names.length false) f.eqs=some T':=by
  unfold eqsOk at h5
  cases e:eqsF f f.names.length (List.replicate f.names.length false) f.eqs with
  | none=>rw[e]at h5;cases h5
  | some T=>exact⟨T,rfl⟩
 obtain⟨T',e⟩:=he
 obtain⟨k1,k2⟩:=eqsF_facts f _ _ _ T' (by simp) e
 refine⟨hl,fun q hq=>inN_iff.1 (k1 q hq).1,k2,fun q hq=>(k1 q hq).2.2.1,fun q hq=>within_iff.1 (k1 q hq).2.2.2.1,fun q hq=>kOk_of (k1 q hq).2.2.2.2,fun m hm=>?_,fun m hm=>?_,fun m hm=>?_,within_iff.1 h6,within_iff.1 h7⟩
 ·have:=h1 m hm
  simp only[memOk,zL,decide_eq_true_eq]at this
  exact⟨inN_iff.1 this.1.1,this.1.2,within_iff.1 this.2⟩
 ·have:=h2 m hm
  simp only[contOk,zL,decide_eq_true_eq,yD]at this
  refine⟨inN_iff.1 this.1.1.1,this.1.1.2,within_iff.1 this.1.2,fun s hs=>?_⟩
  have:=this.2 s hs
  simp only[slopeOk,zL,decide_eq_true_eq]at this
  exact⟨inN_iff.1 this.1,this.2⟩
 ·have:=h3 m hm
  simp only[crossOk,zL,decide_eq_true_eq]at this
  exact this
def begF(f:FlatV)(q:Eqn):List Int:=bif isS q.op [109,101,109]then resM f q.k else bif isS q.op [99,111,110,116]then resK f q.k else []
def begA(f:FlatV)(q:Eqn):AV:=bif isS q.op [109,101,109]then rowC (resM f q.k) none else bif isS q.op [99,111,110,116]then rowC (resK f q.k) none else .sl 0 [] (some 0)
theorem begA_row(f:FlatV)(q:Eqn):RowA (begA f q) (begF f q):=by
 unfold begA begF
 cases isS q.op [109,101,109]<;>cases isS q.op [99,111,110,116]
 ·exact RowA.nil
 ·exact RowA.of _ _
 ·exact RowA.of _ _
 ·exact RowA.of _ _
theorem iadr_memsI{f:FlatV}{k:Int}(h:inN f.mems.length k=true):∃m,f.mems[k.toNat]?=some m∧iadr 8 (memsA f.mems) (litI .i64 k)=some (.ip m.cs)∧resM f k=m.resets:=by
 rw[inN_iff]at h
 have hlt:k.toNat<f.mems.length:=by omega
 refine⟨f.mems[k.toNat],zE hlt,?_,by simp[resM,zE hlt]⟩
 have:=iadr_mems f.mems k.toNat
 rw[wR h.1,zE hlt]at this
 exact this
theorem iadr_contsI{f:FlatV}{k:Int}(h:inN f.conts.length k=true):∃m,f.conts[k.toNat]?=some m∧iadr 9 (contsA f.conts) (litI .i64 k)=some (.ip m.cs)∧resK f k=m.resets:=by
 rw[inN_iff]at h
 have hlt:k.toNat<f.conts.length:=by omega
 refine⟨f.conts[k.toNat],zE hlt,?_,by simp[resK,zE hlt]⟩
 have:=iadr_conts f.conts k.toNat
 rw[wR h.1,zE hlt]at this
 exact this
theorem begins_tells(f:FlatV)(q:Eqn)(K:KOk f q):cw 74 [.agg f.cs,.agg q.cs] []=some (.ret (begA f q),rtH f q):=by
 refine cw_of fn74 (c:=c74) rfl rfl rfl rfl ?_
 unfold begA
 cases hm:isS q.op [109,101,109]with
 | true =>
  obtain⟨m,_,h2,h3⟩:=iadr_memsI (K.m hm)
  rw[h3]
  simp -implicitDefEqProofs only[c74,aW,↓aP,makes,reduceLT,reduceEqDiff,reduceAdd,core_box,rt_b8 f,eq_b10 q,zA,zC,yA,fadr_ptr,fadr_ip,zK,rt_l1,rt_l2,rt_l3,bin_isS,hm,rt_f4,h2,mem_h7]
  rfl
 | false =>
  cases hk:isS q.op [99,111,110,116]with
  | true =>
   obtain⟨m,_,h2,h3⟩:=iadr_contsI (K.k hk)
   rw[h3]
   simp -implicitDefEqProofs only[c74,aW,↓aP,makes,reduceLT,reduceEqDiff,reduceAdd,core_box,rt_b8 f,eq_b10 q,zA,zC,yA,fadr_ptr,fadr_ip,zK,rt_l1,rt_l2,rt_l3,bin_isS,hm,hk,rt_f5,h2,cont_h7]
   rfl
  | false =>
   simp -implicitDefEqProofs only[c74,aW,↓aP,makes,reduceLT,reduceEqDiff,reduceAdd,core_box,rt_b8 f,eq_b10 q,zA,zC,yA,fadr_ptr,fadr_ip,zK,rt_l1,rt_l2,rt_l3,bin_isS,hm,hk]
   rfl
theorem begA_whole(f:FlatV)(q:Eqn):wholeA (begA f q)=true:=by
 obtain⟨e,xs,c,h⟩:=(begA_row f q).cases
 rw[h];rfl
theorem begins_call(f:FlatV)(q:Eqn)(K:KOk f q)(H:List AO)(id:Nat):callV cw mds 74 [.agg f.cs,.agg q.cs] H id=some (.val (begA f q) none):=callV_pureA rfl rfl (begins_tells f q K) (begA_whole f q)
end
section
variable {call:CallF}{mt:MtF}{md:FuncId→Md}
def needC(f:FlatV)(q:Eqn):List Int:=(compI' (sortI (q.args++begF f q++[q.guard]))).filter fun x=>!decide (x<0)
theorem lt78_tells(x:Int):cw 78 [litI .i64 x] []=some (.ret (litB (decide (x<0))),[]):=by
 refine cw_of fn78 (c:=c78) rfl rfl rfl rfl ?_
 simp -implicitDefEqProofs only[c78,aW,↓aP,makes,reduceLT,reduceEqDiff,reduceAdd]
 rfl
theorem lt78_call(x:Int)(H:List AO)(id:Nat):callV cw mds 78 [litI .i64 x] H id=some (.val (litB (decide (x<0))) none):=callV_pure rfl rfl (lt78_tells x) rfl
theorem del78_call{q:Nat}{l:List Int}{z:List AV}(hz:z.all whole=true)(hl:l.length≤1000000){d:List Obj1}{H:List AO}(O:Own H ((q,cellsI l++z,3)::d)) :
  ∃z' H',(∀id,callV cw mds 76 [.own q 0 l.length 1 none,.fn (.func 78) [] []] H id=some (.wr (.own q 0 (l.filter fun x=>!decide (x<0)).length 1 none) H'))∧z'.all whole=true∧Own H' ((q,cellsI (l.filter fun x=>!decide (x<0))++z',3)::d):=by
 obtain⟨z',H',h,h1,h2,h3⟩:=del_tells (p:=fun x=>decide (x<0)) (fv:=.fn (.func 78) [] []) hz (fun x H id=>(lt78_call x H id:fnV cw mds (.fn (.func 78) [] []) [litI .i64 x] H id=_)) hl O
 exact⟨z',H',fun id=>callV_same rfl h h2,h1,h3⟩
theorem sort_call{q:Nat}{l:List Int}{z:List AV}(hne:l≠[])(hl:l.length≤1000000){d:List Obj1}{H:List AO}(O:Own H ((q,cellsI l++z,3)::d)) :
  ∃H',(∀id,callV cw mds 75 [.own q 0 l.length 1 none] H id=some (.wr (.tup []) H'))∧Own H' ((q,cellsI (sortI l)++z,3)::d):=by
 have hr:H[q]?=some (.row ([]++cellsI l++z) 3):=O.head
 have s1:=sortG_row (cap:=none) hr rfl hne (by omega)
 refine⟨_,fun id=>callV_same rfl (cw_ov rfl s1) (setL_len _ _ _),?_⟩
 exact O.set _ 3
theorem compact_call{q:Nat}{l:List Int}{z:List AV}(hne:l≠[])(hl:l.length≤1000000){d:List Obj1}{H:List AO}(O:Own H ((q,cellsI l++z,3)::d)) :
  ∃n H',(∀id,callV cw mds 77 [.own q 0 l.length 1 none] H id=some (.wr (.own q 0 (compI' l).length 1 none) H'))∧Own H' ((q,cellsI (compI' l)++(List.replicate n (litI .i64 0)++z),3)::d):=by
 have hr:H[q]?=some (.row ([]++cellsI l++z) 3):=O.head
 have s1:=compactG_row (cap:=none) hr rfl hne (by omega)
 refine⟨l.length-(compI' l).length,_,fun id=>callV_same rfl (cw_ov rfl s1) (setL_len _ _ _),?_⟩
 have:=O.set ([]++cellsI (compI' l++List.replicate (l.length-(compI' l).length) 0)++z) 3
 have e:[]++cellsI (compI' l++List.replicate (l.length-(compI' l).length) 0)++z=cellsI (compI' l)++(List.replicate (l.length-(compI' l).length) (litI .i64 0)++z):=by simp[cellsI]
 rw[e]at this
 rw[e];exact this
theorem own_load{H:List AO}{d:List Obj1}{r off:Nat}{cs:List AV}{t:TypeId}{a:AV}(O:Own H d)(hm:(r,cs,t)∈d)(ha:cs[off]?=some a):Ai.load H none (.ptr r off)=some a:=load_at (O.get _ hm) ha
theorem own_agg{H:List AO}{d:List Obj1}{r n:Nat}{cs:List AV}{t:TypeId}(O:Own H d)(hm:(r,cs,t)∈d)(hn:cs.length=n):Ai.load H (some n) (.ptr r 0)=some (.agg cs):=load_agg (O.get _ hm) hn
abbrev nd(f:FlatV)(o:Nat)(us:Ord.US):List Obj1:=(0,f.cs,29)::(o,us.cells,23)::us.objs
theorem needs54_round(f:FlatV)(F:FitsS f)(i:Nat)(q:Eqn)(hq:f.eqs[i]?=some q)(K:KOk f q)(n:Nat)(hn:n≤1000000)(hv:0≤q.var∧q.var<(n:Int))(o:Nat)(us:Ord.US)(hus:us.length=n)(H:List AO)(O:Own H (nd f o us)) :
  ∃(x:AV×List Int×List Obj1)(H':List AO),codeW cw (lookM mtl) mds c54l0 [(1,.ptr 0 0),(3,.own o 0 n 1 (some n)),(15,eqsA f.eqs),(16,litI .i64 f.eqs.length),(17,litI .i64 i)] H =
   some (.normal,[(1,.ptr 0 0),(3,.own o 0 n 1 (some n)),(15,eqsA f.eqs),(16,litI .i64 f.eqs.length),(17,litI .i64 (i+1:Nat))],H')∧Ord.Sl x.1 x.2.1 x.2.2∧x.1≠.sl 0 [] (some 0)∧x.2.1=needC f q∧Own H' (nd f o (us.set q.var.toNat x)):=by
 have hi:i<f.eqs.length:=(zG.1 hq).1
 have hlt:(i:Int)<f.eqs.length:=by omega
 have hw:=wrap1 (show i<4611686018427387904 by have:=F.eqs;omega)
 have hA:=load_ipA (H:=H) (show(Eqn.cs q).length=10 from rfl)
 have hmem:q∈f.eqs:=zX hq
 have ha:=F.args q hmem
 have hb:(begF f q).length≤20:=by
  unfold begF
  cases hm:isS q.op [109,101,109]with
  | true =>
   obtain⟨m,h1,_,h3⟩:=iadr_memsI (K.m hm)
   rw[cond_true,h3];exact F.mres m (zX h1)
  | false =>
   cases hk:isS q.op [99,111,110,116]with
   | true =>
    obtain⟨m,h1,_,h3⟩:=iadr_contsI (K.k hk)
    rw[cond_false,cond_true,h3];exact F.cres m (zX h1)
   | false=>exact uI _
 have O2:Own (H++[.row q.cs 60]) ((H.length,q.cs,60)::nd f o us):=O.new q.cs 60
 have hf8:Ai.load (H++[.row q.cs 60]) (some 8) (.ptr 0 0)=some (.agg f.cs):=own_agg O2 (cs:=f.cs) (t:=29) (by simp) rfl
 have hB:=begins_call f q K
 have hrB:=begA_row f q
 have b3:=bslV_r3 (H++[.row q.cs 60]) (.sl 0 [] (some 0)) (RowA.of q.args none) hrB (RowA.of [q.guard] (some 1))
 rw[show rowC [q.guard] (some 1)=.sl 1 [[litI .i64 q.guard]] (some 1)from rfl]at b3
 obtain⟨A,oo,H3,ap,S3,O3⟩:=concat_call [(rowC q.args none,q.args),(begA f q,begF f q),(rowC [q.guard] (some 1),[q.guard])] (some 3) (fun p hp=>by
  simp only[zO,yG,or_false]at hp
  rcases hp with rfl|rfl|rfl
  ·exact RowA.of _ _
  ·exact hrB
  ·exact RowA.of _ _) (by simp) (by simp[Rows.cat];omega) (H++[.row q.cs 60]) _ O2
 rw[show catA [(rowC q.args none,q.args),(begA f q,begF f q),(rowC [q.guard] (some 1),[q.guard])] (some 3)=.sl 1 [[rowC q.args none],[begA f q],[.sl 1 [[litI .i64 q.guard]] (some 1)]] (some 3)from rfl]at ap
 have hcat:Rows.cat [(rowC q.args none,q.args),(begA f q,begF f q),(rowC [q.guard] (some 1),[q.guard])]=q.args++begF f q++[q.guard]:=by simp[Rows.cat]
 rw[hcat]at S3
 have hne:q.args++begF f q++[q.guard]≠[]:=by simp
 rcases S3 with⟨e,_,h0,_⟩|⟨p,z,hz,rfl,rfl⟩
 ·exact absurd h0 hne
 have hlen:(q.args++begF f q++[q.guard]).length≤1000000:=by simp;omega
 rw[yA]at O3
 obtain⟨H4,cS,O4⟩:=sort_call hne hlen O3
 have hsl:(sortI (q.args++begF f q++[q.guard])).length=(q.args++begF f q++[q.guard]).length:=sortI_len _
 have hne2:sortI (q.args++begF f q++[q.guard])≠[]:=by intro e;rw[e]at hsl;simp at hsl
 obtain⟨k,H5,cC,O5⟩:=compact_call hne2 (by rw[hsl];exact hlen) O4
 rw[hsl]at cC
 have hcl:(compI' (sortI (q.args++begF f q++[q.guard]))).length≤1000000:=by have:=compI_len (sortI (q.args++begF f q++[q.guard]));omega
 obtain⟨z',H6,cD,hz',O6⟩:=del78_call (by rw[List.all_append,hz,xY,whole_zeros]) hcl O5
 obtain⟨v,hvv,hvn⟩:∃v:Nat,q.var=v∧v<n:=⟨q.var.toNat,by omega,by omega⟩
 have hvt:q.var.toNat=v:=by omega
 have ia:iadr 1 (.own o 0 n 1 (some n)) (litI .i64 q.var)=some (.ptr o v):=by
  rw[hvv,iadr_own,if_pos (by omega)];simp
 have L4:Ai.load H4 none (.ptr H.length 0)=some (litI .i64 q.var):=own_load O4 (cs:=q.cs) (t:=60) (by simp) rfl
 have L5:Ai.load H5 none (.ptr H.length 0)=some (litI .i64 q.var):=own_load O5 (cs:=q.cs) (t:=60) (by simp) rfl
 have L6:Ai.load H6 none (.ptr H.length 0)=some (litI .i64 q.var):=own_load O6 (cs:=q.cs) (t:=60) (by simp) rfl
 change Own H6 ((p,cellsI (needC f q)++z',3)::(H.length,q.cs,60)::nd f o us)at O6
 have hgo:H6[o]?=some (.row us.cells 23):=O6.get (o,us.cells,23) (by simp)
 have hcl2:us.cells.length=n:=by simp[Ord.US.cells,hus]
 let x:AV×List Int×List Obj1:=(.own p 0 (needC f q).length 1 none,needC f q,[(p,cellsI (needC f q)++z',3)])
 have hset:(Ord.US.cells (us.set v x))=us.cells.set v (.own p 0 (needC f q).length 1 none):=by simp[Ord.US.cells,x]
 have st:storeAt H6 1 (.ptr o v) (.own p 0 (needC f q).length 1 none)=some (setL H6 o (.row (Ord.US.cells (us.set v x)) 23)):=by
  rw[store_ptr hgo (by omega) rfl rfl,hset]
 obtain⟨y,hy⟩:∃y,us[v]?=some y:=⟨_,zE (by omega)⟩
 have e1:Own H6 ((o,us.cells,23)::(p,cellsI (needC f q)++z',3)::(H.length,q.cs,60)::(0,f.cs,29)::us.objs):=by
  refine O6.perm ?_
  refine(List.Perm.cons _ (List.Perm.cons _ (List.Perm.swap ..))).trans ?_
  refine(List.Perm.cons _ (List.Perm.swap ..)).trans ?_
  exact List.Perm.swap ..
 have e2:=e1.set (Ord.US.cells (us.set v x)) 23
 have L7:Ai.load (setL H6 o (.row (Ord.US.cells (us.set v x)) 23)) none (.ptr H.length 0)=some (litI .i64 q.var):=own_load e2 (cs:=q.cs) (t:=60) (by simp) rfl
 have O7:Own (setL H6 o (.row (Ord.US.cells (us.set v x)) 23)) (nd f o (us.set v x)):=by
  have e3:Own (setL H6 o (.row (Ord.US.cells (us.set v x)) 23)) ((o,(Ord.US.cells (us.set v x)),23)::(p,cellsI (needC f q)++z',3)::(0,f.cs,29)::Ord.US.objs (us.set v Ord.noU)):=by
   have hp:=Ord.US.focus hy
   have e4:=e2.perm (List.Perm.cons _ (List.Perm.cons _ (List.Perm.cons _ (List.Perm.cons _ hp))))
   refine e4.sub ?_
   refine List.Sublist.cons_cons _ (List.Sublist.cons_cons _ (List.Sublist.cons _ (List.Sublist.cons_cons _ ?_)))
   exact yE ..
  have hr:=(Ord.US.refocus x (show v<us.length by omega)).symm
  refine e3.perm ?_
  refine(List.Perm.cons _ (List.Perm.swap ..)).trans ?_
  refine(List.Perm.swap ..).trans ?_
  refine List.Perm.cons _ (List.Perm.cons _ ?_)
  exact hr
 have hd78:∀id,callV cw mds 76 [.own p 0 (compI' (sortI (q.args++begF f q++[q.guard]))).length 1 none,.fn (.func 78) [] []] H5 id=some (.wr (.own p 0 (needC f q).length 1 none) H6):=cD
 rw[hvt]
 refine⟨x,_,?_,.inr ⟨p,z',hz',rfl,rfl⟩,(fun e=>by cases e),rfl,O7⟩
 simp -implicitDefEqProofs only[c54l0,aW,↓aP,makes,reduceLT,reduceEqDiff,reduceAdd,hlt,iadr_eqs,hq,hA,eq_st,fadr_ptr,zB,zK,eq_g0,eq_g2,eq_g9,eq_gA,hf8,hB,core_bsl,b3,ap.tlS,show mds 74=Md.pure from rfl,  cS,L4,L5,L6,L7,cC,hd78,ia,st,hw,bslV_1]
end
section
variable {call:CallF}{mt:MtF}{md:FuncId→Md}
theorem nodup_le:∀ {l m:List Nat},l.Nodup→(∀x∈l,x∈m)→l.length≤m.length
 | [],_,_,_=>uI _
 | x::r,m,hn,hs=>by
  rw[xA]at hn
  have hx:=hs x (zM ..)
  have:=nodup_le (l:=r) (m:=m.erase x) hn.2 fun y hy=>by
   have hne:y≠x:=fun e=>hn.1 (e▸hy)
   exact(List.mem_erase_of_ne hne).2 (hs y (zI _ hy))
  rw[List.length_erase_of_mem hx]at this
  have:=List.length_pos_of_mem hx
  simp only[zC];omega
theorem nodup_all{l:List Nat}{n:Nat}(hn:l.Nodup)(hl:l.length=n)(hs:∀x∈l,x<n):∀v,v<n→v∈l:=by
 intro v hv
 apply Classical.byContradiction
 intro hm
 have:=nodup_le (l:=v::l) (m:=List.range n) (by rw[xA];exact⟨hm,hn⟩) fun x hx=>by
  rcases zO.1 hx with rfl|hx
  ·exact yS.2 hv
  ·exact yS.2 (hs x hx)
 simp at this;omega
theorem GoodF.all{f:FlatV}(G:GoodF f)(v:Nat)(hv:v<f.names.length):∃q∈f.eqs,q.var.toNat=v:=by
 have hn:(f.eqs.map fun q=>q.var.toNat).Nodup:=by
  have h:=G.nodup
  have hr:=G.var
  generalize f.eqs=l at h hr
  induction l with
  | nil=>simp
  | cons q l ih =>
   rw[yJ,xA]at h ⊢
   refine⟨fun hm=>h.1 ?_,ih h.2 fun q' hq=>hr q' (zI _ hq)⟩
   obtain⟨q',hq',e⟩:=zW.1 hm
   have h1:=hr q (zM ..)
   have h2:=hr q' (zI _ hq')
   exact zW.2 ⟨q',hq',by omega⟩
 have:=nodup_all hn (by rw[yV,G.len]) (fun x hx=>by
  obtain⟨q,hq,rfl⟩:=zW.1 hx
  have:=G.var q hq;omega) v hv
 obtain⟨q,hq,e⟩:=zW.1 this
 exact⟨q,hq,e⟩
def setN(g:Eqn→List Int):List (List Int)→List Eqn→List (List Int)
 | rows,[]=>rows
 | rows,q::r=>setN g (rows.set q.var.toNat (g q)) r
theorem setN_len(g:Eqn→List Int):∀(l:List Eqn)(rows:List (List Int)),(setN g rows l).length=rows.length
 | [],_=>rfl
 | q::r,rows=>by rw[setN,setN_len g r];simp
def OwnAt(us:Ord.US)(v:Nat):Prop:=∃x,us[v]?=some x∧x.1≠.sl 0 [] (some 0)
theorem needs54_loop(f:FlatV)(F:FitsS f)(K:∀q∈f.eqs,KOk f q)(n:Nat)(hn:n≤1000000)(hv:∀q∈f.eqs,0≤q.var∧q.var<(n:Int))(o:Nat):∀(m i:Nat)(us:Ord.US)(H:List AO),m+i=f.eqs.length→us.length=n→us.ok→Own H (nd f o us) →
  ∃(us':Ord.US)(H':List AO),loopW (codeW cw (lookM mtl) mds c54l0) [1,3,15,16,17] [(1,.ptr 0 0),(3,.own o 0 n 1 (some n)),(15,eqsA f.eqs),(16,litI .i64 f.eqs.length),(17,litI .i64 i)] H =
   some (.exit 0,[(1,.ptr 0 0),(3,.own o 0 n 1 (some n)),(15,eqsA f.eqs),(16,litI .i64 f.eqs.length),(17,litI .i64 f.eqs.length),(18,litB false)],H')∧us'.length=n∧us'.ok∧us'.ints=setN (needC f) us.ints (f.eqs.drop i) ∧
   (∀v,OwnAt us v∨(∃q∈f.eqs.drop i,q.var.toNat=v)→OwnAt us' v)∧Own H' (nd f o us')
 | 0,i,us,H,h,hus,hok,O=>by
  have hi:i=f.eqs.length:=by omega
  subst hi
  refine⟨us,H,loopW_out ?_ (by simp),hus,hok,by rw[yB];rfl,fun v hv=>?_,O⟩
  ·simp -implicitDefEqProofs only[c54l0,aW,↓aP,makes,reduceLT,reduceEqDiff,reduceAdd,zR]
  ·rcases hv with hv|⟨q,hq,_⟩
   ·exact hv
   ·rw[yB]at hq;cases hq
 | m+1,i,us,H,h,hus,hok,O=>by
  have hi:i<f.eqs.length:=by omega
  have hg:f.eqs[i]?=some f.eqs[i]:=zE hi
  have hmem:=zV hi
  obtain⟨x,H1,R,S,hx,hxi,O1⟩:=needs54_round f F i _ hg (K _ hmem) n hn (hv _ hmem) o us hus H O
  obtain⟨us',H',L,q1,q2,q3,q4,q5⟩:=needs54_loop f F K n hn hv o m (i+1) (us.set f.eqs[i].var.toNat x) H1 (by omega) (by simpa using hus) (Ord.US.ok_set hok S) O1
  refine⟨us',H',loopW_round R L,q1,q2,?_,fun v hvv=>q4 v ?_,q5⟩
  ·rw[q3,zS hi,setN]
   congr 1
   simp only[Ord.US.ints,uG,hxi]
  ·have hvar:=hv _ hmem
   by_cases e:f.eqs[i].var.toNat=v
   ·exact .inl ⟨x,by rw[←e,yK (by omega)],hx⟩
   ·rcases hvv with⟨y,hy,hy2⟩|⟨q,hq,hqv⟩
    ·exact .inl ⟨y,by rw[yT e];exact hy,hy2⟩
    ·right
     rw[zS hi]at hq
     rcases zO.1 hq with rfl|hq
     ·exact absurd hqv e
     ·exact⟨q,hq,hqv⟩
theorem frz_rows{H:List AO}{k:Nat}:∀ {us:Ord.US},us.ok→(∀x∈us,x.1≠.sl 0 [] (some 0))→(∀ob∈us.objs,H[ob.1]?=some (.row ob.2.1 ob.2.2)) →
  ∃ids,mapR (frz H (k+2)) 1 us.length us.cells=some (us.map fun x=>[rowC x.2.1 none],ids)
 | [],_,_,_=>⟨[],rfl⟩
 | x::us,hok,hne,hob=>by
  obtain⟨ids,ih⟩:=frz_rows (H:=H) (k:=k) (us:=us) (fun y hy=>hok y (zI _ hy)) (fun y hy=>hne y (zI _ hy)) (fun ob h=>hob ob (by
   simp only[Ord.US.objs,xG,zY]at h ⊢;exact .inr h))
  rcases hok x (zM ..)with⟨h1,_⟩|⟨p,z,hz,h1,h2⟩
  ·exact absurd h1 (hne x (zM ..))
  ·have hp:=hob (p,cellsI x.2.1++z,3) (by simp only[Ord.US.objs,xG,zY];left;rw[h2];simp)
   have fz:=Ord.frz_ints (k:=k) (c:=none) hp hz rfl
   refine⟨[p]++[]++ids,?_⟩
   simp only[Ord.US.cells,yJ,zC]at ih ⊢
   rw[mapR]
   simp only[vS,List.take_zero,uZ,zJ,mapL,h1,fz,zD]
   rw[show(List.map (fun x=>x.fst) us)=Ord.US.cells us from rfl]at ih
   simp only[Ord.US.cells]at ih
   rw[ih]
   rfl
theorem callV_frz{f:FuncId}{args:List AV}{a b:AV}{ids:List Nat}{H H':List AO}{id:Nat}(hm:mds f=.pure)(hw:args.all wholeA=true)(h:cw f args []=some (.ret a,H'))(hf:frz H' frzF a=some (b,ids)):callV cw mds f args H id=some (.val b none):=by
 unfold callV
 rw[hm]
 simp only
 rw[show mapL (frz H frzF) args=some (args,[])from mapL_wholeA (k:=14) hw]
 simp only[zD]
 rw[h]
 simp only[zD]
 rw[hf]
 rfl
def NC(f:FlatV):List (List Int):=setN (needC f) (List.replicate f.names.length []) f.eqs
theorem NC_len(f:FlatV):(NC f).length=f.names.length:=by unfold NC;rw[setN_len];simp
abbrev ncA(f:FlatV):AV:=Ord.gX (fun _=>none) (some f.names.length) (NC f)
theorem needs54_call(f:FlatV)(F:FitsS f)(hG:goodOk f=true)(H:List AO)(id:Nat):callV cw mds 54 [flatA f] H id=some (.val (ncA f) none):=by
 have G:=goodF_of hG
 have hn:=F.names
 have hgc:∀H id,callV cw mds 37 [.agg f.cs] H id=some (.val (litB true) none):=fun H id=>by have:=good_call f F.fits H id;rw[hG]at this;exact this
 have lA:Ai.load [.row f.cs 29] (some 8) (.ptr 0 0)=some (.agg f.cs):=load_agg rfl rfl
 have l1:Ai.load [.row f.cs 29] none (.ptr 0 1)=some (strs f.names):=rfl
 have hm1:=mksV_ok (id:=1) (e:=1) (bytes:=24) (z:=[.sl 0 [] (some 0)]) (t:=23) (n:=f.names.length) (by omega) (by omega)
 rw[reps_one]at hm1
 let us0:Ord.US:=List.replicate f.names.length (.sl 0 [] (some 0),[],[])
 have hcells:us0.cells=List.replicate f.names.length (.sl 0 [] (some 0)):=by simp[us0,Ord.US.cells]
 have hints:us0.ints=List.replicate f.names.length []:=by simp[us0,Ord.US.ints]
 have hobjs:us0.objs=[]:=by simp[us0,Ord.US.objs]
 have O:Own [AO.row f.cs 29,.row (List.replicate f.names.length (.sl 0 [] (some 0))) 23] (nd f 1 us0):=by
  unfold nd
  rw[hcells,hobjs]
  refine⟨by simp,fun x hx=>?_⟩
  simp only[zO,yG,or_false]at hx
  rcases hx with rfl|rfl<;>rfl
 obtain⟨us,H',L,q1,q2,q3,q4,q5⟩:=needs54_loop f F G.kok f.names.length (by omega) G.var 1 f.eqs.length 0 us0 _ (by omega) (by simp[us0]) (fun x hx=>by rw[vV hx];exact Ord.Sl.nil) O
 rw[show((0:Nat):Int)=0 from rfl]at L
 rw[zJ]at q3 q4
 have hne:∀x∈us,x.1≠.sl 0 [] (some 0):=by
  intro x hx
  obtain⟨v,hv⟩:=wM hx
  have hvl:v<f.names.length:=by rw[←q1];exact(zG.1 hv).1
  obtain⟨y,hy,h⟩:=q4 v (.inr (G.all v hvl))
  rw[hv]at hy;simp only[sI]at hy;subst hy;exact h
 obtain⟨ids,fz⟩:=frz_rows (H:=H') (k:=13) q2 hne (fun ob hob=>q5.get ob (by simp[nd,hob]))
 have ho:H'[1]?=some (.row us.cells 23):=q5.get (1,us.cells,23) (by simp[nd])
 have hcl:us.cells.length=f.names.length:=by simp[Ord.US.cells,q1]
 have hfr:frz H' frzF (.own 1 0 f.names.length 1 (some f.names.length))=some (ncA f,1::ids):=by
  rw[show frzF=13+2+1 from rfl,frz]
  have hb:Nat.ble (0+f.names.length*1) us.cells.length=true:=yH (by omega)
  simp only[ho,hb,cond_true,zJ]
  rw[←q1,fz]
  simp only[zD]
  have:ncA f=.sl 1 (us.map fun x=>[rowC x.2.1 none]) (some us.length):=by
   unfold ncA Ord.gX
   rw[show NC f=us.ints from by rw[q3,hints];rfl]
   congr 1
   ·apply uA
    intro i
    simp[Ord.US.ints]
    cases us[i]?<;>rfl
   ·rw[q1]
  rw[this]
 refine callV_frz (a:=.own 1 0 f.names.length 1 (some f.names.length)) (H':=H') rfl rfl ?_ hfr
 refine cw_of fn54 (c:=c54) rfl rfl rfl rfl ?_
 simp -implicitDefEqProofs only[c54,aW,↓aP,makes,reduceLT,reduceEqDiff,reduceAdd,core_box,flat_f,zA,zC,lA,hgc,fadr_ptr,zB,l1,lenV_strs,hm1,show ∀X,Ai.load [.row f.cs 29,X] none (.ptr 0 3)=some (eqsA f.eqs)from fun X=>rfl,lenV_eqs,L]
 rfl
end
section
variable {call:CallF}{mt:MtF}{md:FuncId→Md}
def memL(m:MemV):List Int:=[m.next,m.guard]++m.resets
def slopeL(s:SlopeV):List Int:=[s.guard,s.var]
def contL(c:ContV):List Int:=[c.var,c.guard]++c.resets++c.slopes.flatMap slopeL
def isVS(o:COpV):Bool:=isS o.op [118,97,114]||isS o.op [115,101,108]
def opL(o:COpV):List Int:=bif isVS o then [o.args.headD 0]else []
def crossL(c:CrossV):List Int:=c.guard::c.ops.flatMap opL
def endL(f:FlatV):List Int:=f.outs++f.again++f.mems.flatMap memL++f.conts.flatMap contL++f.cross.flatMap crossL
theorem own_newM{H:List AO}{o d:List Obj1}(O:Own H (o++d))(cs:List AV)(t:TypeId):Own (H++[.row cs t]) (o++((H.length,cs,t)::d)):=(O.new cs t).perm vL.symm
theorem own_drop{H:List AO}{o d:List Obj1}{x:Obj1}(O:Own H (o++(x::d))):Own H (o++d):=O.sub (List.Sublist.append (List.Sublist.refl _) (yU ..))
theorem mem_st(H:List AO)(m:MemV):storeAt (H++[AO.row [litI .i64 0,litB false,.sl 0 [] (some 0),.sl 0 [] (some 0),litS (bs []),litI .i64 0,litI .i64 0,.sl 0 [] (some 0)] 87]) 8 (.ptr H.length 0) (.agg m.cs)=some (H++[.row m.cs 87]):=by
 rw[storeAt_agg (n:=8) (xs:=m.cs) (get_last H _) rfl rfl rfl,setL_last]
theorem cont_st(H:List AO)(m:ContV):storeAt (H++[AO.row [litI .i64 0,litB false,.sl 0 [] (some 0),.sl 0 [] (some 0),litS (bs []),litI .i64 0,litI .i64 0,.sl 0 [] (some 0),.sl 0 [] (some 0)] 90]) 9 (.ptr H.length 0) (.agg m.cs)=some (H++[.row m.cs 90]):=by
 rw[storeAt_agg (n:=9) (xs:=m.cs) (get_last H _) rfl rfl rfl,setL_last]
theorem slope_st(H:List AO)(m:SlopeV):storeAt (H++[AO.row [litI .i64 0,litI .i64 0] 92]) 2 (.ptr H.length 0) (.agg m.cs)=some (H++[.row m.cs 92]):=by
 rw[storeAt_agg (n:=2) (xs:=m.cs) (get_last H _) rfl rfl rfl,setL_last]
theorem cross_st(H:List AO)(m:CrossV):storeAt (H++[AO.row [litI .i64 0,.sl 0 [] (some 0)] 45]) 2 (.ptr H.length 0) (.agg m.cs)=some (H++[.row m.cs 45]):=by
 rw[storeAt_agg (n:=2) (xs:=m.cs) (get_last H _) rfl rfl rfl,setL_last]
theorem cop_st(H:List AO)(m:COpV):storeAt (H++[AO.row [litS (bs []),.sl 0 [] (some 0)] 94]) 2 (.ptr H.length 0) (.agg m.cs)=some (H++[.row m.cs 94]):=by
 rw[storeAt_agg (n:=2) (xs:=m.cs) (get_last H _) rfl rfl rfl,setL_last]
theorem bslV_2r(H:List AO)(z:AV)(n m:Int):bslV H 1 2 [z] [(0,litI .i64 n),(1,litI .i64 m)]=some (.val (rowC [n,m] (some 2)) none):=rfl
theorem bslV_1r(H:List AO)(z:AV)(n:Int):bslV H 1 1 [z] [(0,litI .i64 n)]=some (.val (rowC [n] (some 1)) none):=rfl
theorem bh0_round(f:FlatV)(i:Nat)(m:MemV)(hi:f.mems[i]?=some m)(hb:i<4611686018427387904)(hm:m.resets.length≤1000)(A:AV)(l:List Int)(o d:List Obj1)(H:List AO)(hl:l.length≤900000)(S:SlX A l o)(O:Own H (o++d)) :
  ∃A' o' H',codeW cw (lookM mtl) mds c55l0 [(1,.ptr 0 0),(3,A),(21,memsA f.mems),(22,litI .i64 f.mems.length),(23,litI .i64 i)] H =
   some (.normal,[(1,.ptr 0 0),(3,A'),(21,memsA f.mems),(22,litI .i64 f.mems.length),(23,litI .i64 (i+1:Nat))],H')∧SlX A' (l++memL m) o'∧Own H' (o'++d):=by
 have hlt:(i:Int)<f.mems.length:=by have:=(zG.1 hi).1;omega
 have hA:=load_ipA (H:=H) (show(MemV.cs m).length=8 from rfl)
 have O1:=own_newM O m.cs 87
 obtain⟨A2,o2,H2,ap,S2,O2⟩:=S.append O1 (RowA.of [m.next,m.guard] (some 2)) (by simp;omega)
 obtain⟨A3,o3,H3,ap2,S3,O3⟩:=S2.append O2 (RowA.of m.resets none) (by simp;omega)
 have L5:Ai.load (H++[.row m.cs 87]) none (.ptr H.length 5)=some (litI .i64 m.next):=own_load O1 (cs:=m.cs) (t:=87) (by simp) rfl
 have L6:Ai.load (H++[.row m.cs 87]) none (.ptr H.length 6)=some (litI .i64 m.guard):=own_load O1 (cs:=m.cs) (t:=87) (by simp) rfl
 have L7:Ai.load (H++[.row m.cs 87]) none (.ptr H.length 7)=some (rowC m.resets none):=own_load O1 (cs:=m.cs) (t:=87) (by simp) rfl
 have L72:Ai.load H2 none (.ptr H.length 7)=some (rowC m.resets none):=own_load O2 (cs:=m.cs) (t:=87) (by simp) rfl
 refine⟨A3,o3,H3,?_,by rw[zU]at S3;exact S3,(own_drop O3)⟩
 simp -implicitDefEqProofs only[c55l0,aW,↓aP,makes,reduceLT,reduceEqDiff,reduceAdd,hlt,iadr_mems,hi,hA,mem_st,fadr_ptr,zB,zK,L5,L6,L7,L72,core_bsl,bslV_2r,ap.tlS,ap2.tlS,wrap1 hb]
theorem bh0_loop(f:FlatV)(hm:∀m∈f.mems,m.resets.length≤100)(hn:f.mems.length≤100)(d:List Obj1):∀(k i:Nat)(A:AV)(l:List Int)(o:List Obj1)(H:List AO),k+i=f.mems.length→l.length≤1000*i+1000→SlX A l o→Own H (o++d) →
  ∃A' o' H',loopW (codeW cw (lookM mtl) mds c55l0) [1,3,21,22,23] [(1,.ptr 0 0),(3,A),(21,memsA f.mems),(22,litI .i64 f.mems.length),(23,litI .i64 i)] H =
   some (.exit 0,[(1,.ptr 0 0),(3,A'),(21,memsA f.mems),(22,litI .i64 f.mems.length),(23,litI .i64 f.mems.length),(24,litB false)],H')∧SlX A' (l++(f.mems.drop i).flatMap memL) o'∧Own H' (o'++d)
 | 0,i,A,l,o,H,h,hl,S,O=>by
  have hi:i=f.mems.length:=by omega
  subst hi
  refine⟨A,o,H,loopW_out ?_ (by simp),by rw[yB];simpa using S,O⟩
  simp -implicitDefEqProofs only[c55l0,aW,↓aP,makes,reduceLT,reduceEqDiff,reduceAdd,zR]
 | k+1,i,A,l,o,H,h,hl,S,O=>by
  have hi:i<f.mems.length:=by omega
  have hg:f.mems[i]?=some f.mems[i]:=zE hi
  have hmm:=hm _ (zV hi)
  obtain⟨A1,o1,H1,R,S1,O1⟩:=bh0_round f i _ hg (by omega) (by omega) A l o d H (by omega) S O
  obtain⟨A',o',H',L,S',O'⟩:=bh0_loop f hm hn d k (i+1) A1 _ o1 H1 (by omega) (by simp[memL];omega) S1 O1
  refine⟨A',o',H',loopW_round R L,?_,O'⟩
  rw[zS hi,xG,←zU]
  exact S'
theorem bh1_loop(sl:List SlopeV)(hn:sl.length≤100)(d:List Obj1)(v39 v40 v41:AV):∀(k i:Nat)(A:AV)(l:List Int)(o:List Obj1)(H:List AO),k+i=sl.length→l.length+2*k≤900000→SlX A l o→Own H (o++d) →
  ∃A' o' H',loopW (codeW cw (lookM mtl) mds c55l1) [1,3,39,40,41,56,57,58] [(1,.ptr 0 0),(3,A),(39,v39),(40,v40),(41,v41),(56,slopesA sl),(57,litI .i64 sl.length),(58,litI .i64 i)] H =
   some (.exit 4,[(1,.ptr 0 0),(3,A'),(39,v39),(40,v40),(41,v41),(56,slopesA sl),(57,litI .i64 sl.length),(58,litI .i64 sl.length),(59,litB false)],H')∧SlX A' (l++(sl.drop i).flatMap slopeL) o'∧Own H' (o'++d)
 | 0,i,A,l,o,H,h,hl,S,O=>by
  have hi:i=sl.length:=by omega
  subst hi
  refine⟨A,o,H,loopW_out ?_ (by simp),by rw[yB];simpa using S,O⟩
  simp -implicitDefEqProofs only[c55l1,aW,↓aP,makes,reduceLT,reduceEqDiff,reduceAdd,zR]
 | k+1,i,A,l,o,H,h,hl,S,O=>by
  have hi:i<sl.length:=by omega
  have hg:sl[i]?=some sl[i]:=zE hi
  have hlt:(i:Int)<sl.length:=by omega
  have hA:=load_ipA (H:=H) (show(SlopeV.cs sl[i]).length=2 from rfl)
  have O1:=own_newM O (SlopeV.cs sl[i]) 92
  have L0:Ai.load (H++[.row (SlopeV.cs sl[i]) 92]) none (.ptr H.length 0)=some (litI .i64 sl[i].guard):=own_load O1 (cs:=SlopeV.cs sl[i]) (t:=92) (by simp) rfl
  have L1:Ai.load (H++[.row (SlopeV.cs sl[i]) 92]) none (.ptr H.length 1)=some (litI .i64 sl[i].var):=own_load O1 (cs:=SlopeV.cs sl[i]) (t:=92) (by simp) rfl
  obtain⟨A2,o2,H2,ap,S2,O2⟩:=S.append O1 (RowA.of [sl[i].guard,sl[i].var] (some 2)) (by simp;omega)
  obtain⟨A',o',H',L,S',O'⟩:=bh1_loop sl hn d v39 v40 v41 k (i+1) A2 _ o2 H2 (by omega) (by simp;omega) S2 (own_drop O2)
  refine⟨A',o',H',loopW_round ?_ L,?_,O'⟩
  ·simp -implicitDefEqProofs only[c55l1,aW,↓aP,makes,reduceLT,reduceEqDiff,reduceAdd,hlt,iadr_slopes,hg,hA,slope_st,fadr_ptr,zB,zK,L0,L1,core_bsl,bslV_2r,ap.opS,wrap1 (show i<4611686018427387904 by omega)]
  ·rw[zS hi,xG,←zU]
   exact S'
theorem bh2_loop(f:FlatV)(hm:∀m∈f.conts,m.resets.length≤100)(hs:∀m∈f.conts,m.slopes.length≤100)(hn:f.conts.length≤100)(d:List Obj1):∀(k i:Nat)(A:AV)(l:List Int)(o:List Obj1)(H:List AO),k+i=f.conts.length→l.length+1000*k≤800000→SlX A l o→Own H (o++d) →
  ∃A' o' H',loopW (codeW cw (lookM mtl) mds c55l2) [1,3,39,40,41] [(1,.ptr 0 0),(3,A),(39,contsA f.conts),(40,litI .i64 f.conts.length),(41,litI .i64 i)] H =
   some (.exit 2,[(1,.ptr 0 0),(3,A'),(39,contsA f.conts),(40,litI .i64 f.conts.length),(41,litI .i64 f.conts.length),(42,litB false)],H')∧SlX A' (l++(f.conts.drop i).flatMap contL) o'∧Own H' (o'++d)
 | 0,i,A,l,o,H,h,hl,S,O=>by
  have hi:i=f.conts.length:=by omega
  subst hi
  refine⟨A,o,H,loopW_out ?_ (by simp),by rw[yB];simpa using S,O⟩
  simp -implicitDefEqProofs only[c55l2,aW,↓aP,makes,reduceLT,reduceEqDiff,reduceAdd,zR]
 | k+1,i,A,l,o,H,h,hl,S,O=>by
  have hi:i<f.conts.length:=by omega
  have hg:f.conts[i]?=some f.conts[i]:=zE hi
  have hlt:(i:Int)<f.conts.length:=by omega
  have hmm:=hm _ (zV hi)
  have hss:=hs _ (zV hi)
  generalize hx:f.conts[i]=m at hg hmm hss
  have hA:=load_ipA (H:=H) (show(ContV.cs m).length=9 from rfl)
  have O1:=own_newM O m.cs 90
  obtain⟨A2,o2,H2,ap,S2,O2⟩:=S.append O1 (RowA.of [m.var,m.guard] (some 2)) (by simp;omega)
  obtain⟨A3,o3,H3,ap2,S3,O3⟩:=S2.append O2 (RowA.of m.resets none) (by simp;omega)
  have L5:Ai.load (H++[.row m.cs 90]) none (.ptr H.length 5)=some (litI .i64 m.var):=own_load O1 (cs:=m.cs) (t:=90) (by simp) rfl
  have L6:Ai.load (H++[.row m.cs 90]) none (.ptr H.length 6)=some (litI .i64 m.guard):=own_load O1 (cs:=m.cs) (t:=90) (by simp) rfl
  have L7:Ai.load (H++[.row m.cs 90]) none (.ptr H.length 7)=some (rowC m.resets none):=own_load O1 (cs:=m.cs) (t:=90) (by simp) rfl
  have L72:Ai.load H2 none (.ptr H.length 7)=some (rowC m.resets none):=own_load O2 (cs:=m.cs) (t:=90) (by simp) rfl
  have L83:Ai.load H3 none (.ptr H.length 8)=some (slopesA m.slopes):=own_load O3 (cs:=m.cs) (t:=90) (by simp) rfl
  obtain⟨A4,o4,H4,Ls,S4,O4⟩:=bh1_loop m.slopes hss d (contsA f.conts) (litI .i64 f.conts.length) (litI .i64 i) m.slopes.length 0 A3 _ o3 H3 (by omega) (by simp;omega) S3 (own_drop O3)
  rw[show((0:Nat):Int)=0 from rfl]at Ls
  rw[zJ]at S4
  have hsl:(m.slopes.flatMap slopeL).length=2*m.slopes.length:=by
   induction m.slopes with
   | nil=>rfl
   | cons s r ih=>simp[slopeL]at ih ⊢;omega
  obtain⟨A',o',H',L,S',O'⟩:=bh2_loop f hm hs hn d k (i+1) A4 _ o4 H4 (by omega) (by simp at hsl ⊢;omega) S4 O4
  refine⟨A',o',H',loopW_round ?_ L,?_,O'⟩
  ·simp -implicitDefEqProofs only[c55l2,aW,↓aP,makes,reduceLT,reduceEqDiff,reduceAdd,hlt,iadr_conts,hg,hA,cont_st,fadr_ptr,zB,zK,L5,L6,L7,L72,L83,lenV_slopes,core_bsl,bslV_2r,ap.tlS,ap2.tlS,Ls,wrap1 (show i<4611686018427387904 by omega)]
  ·rw[zS hi,xG,hx,contL]
   simp only[zU]at S' ⊢
   exact S'
end
section
variable {call:CallF}{mt:MtF}{md:FuncId→Md}
theorem head_row{r:List Int}(h:r≠[]):iadr 1 (rowC r none) (litI .i64 0)=some (.ip [litI .i64 (r.headD 0)]):=by
 have:=iadr_row r none 0
 cases r with
 | nil=>exact absurd rfl h
 | cons x r=>simpa using this
theorem load_ip1(H:List AO)(a:AV):Ai.load H none (.ip [a])=some a:=rfl
theorem bh3_loop(ops:List COpV)(hn:ops.length≤100)(ha:∀o∈ops,isVS o=true→o.args≠[])(d:List Obj1)(v72 v73 v74:AV):∀(k i:Nat)(A:AV)(l:List Int)(o:List Obj1)(H:List AO),k+i=ops.length→l.length+2*k≤900000→SlX A l o→Own H (o++d) →
  ∃A' o' H',loopW (codeW cw (lookM mtl) mds c55l3) [3,72,73,74,84,85,86] [(3,A),(72,v72),(73,v73),(74,v74),(84,copsA ops),(85,litI .i64 ops.length),(86,litI .i64 i)] H =
   some (.exit 8,[(3,A'),(72,v72),(73,v73),(74,v74),(84,copsA ops),(85,litI .i64 ops.length),(86,litI .i64 ops.length),(87,litB false)],H')∧SlX A' (l++(ops.drop i).flatMap opL) o'∧Own H' (o'++d)
 | 0,i,A,l,o,H,h,hl,S,O=>by
  have hi:i=ops.length:=by omega
  subst hi
  refine⟨A,o,H,loopW_out ?_ (by simp),by rw[yB];simpa using S,O⟩
  simp -implicitDefEqProofs only[c55l3,aW,↓aP,makes,reduceLT,reduceEqDiff,reduceAdd,zR]
 | k+1,i,A,l,o,H,h,hl,S,O=>by
  have hi:i<ops.length:=by omega
  have hg:ops[i]?=some ops[i]:=zE hi
  have hlt:(i:Int)<ops.length:=by omega
  have haa:=ha _ (zV hi)
  generalize hx:ops[i]=m at hg haa
  have hA:=load_ipA (H:=H) (show(COpV.cs m).length=2 from rfl)
  have O1:=own_newM O m.cs 94
  have L0:Ai.load (H++[.row m.cs 94]) none (.ptr H.length 0)=some (litS m.op):=own_load O1 (cs:=m.cs) (t:=94) (by simp) rfl
  have L1:Ai.load (H++[.row m.cs 94]) none (.ptr H.length 1)=some (rowC m.args none):=own_load O1 (cs:=m.cs) (t:=94) (by simp) rfl
  have hw:=wrap1 (show i<4611686018427387904 by omega)
  rw[zS hi,xG,hx,←zU]
  cases hv:isVS m with
  | false =>
   obtain⟨A',o',H',L,S',O'⟩:=bh3_loop ops hn ha d v72 v73 v74 k (i+1) A l o _ (by omega) (by omega) S (own_drop O1)
   refine⟨A',o',H',loopW_round ?_ L,by rw[show opL m=[] by simp[opL,hv],zZ];exact S',O'⟩
   unfold isVS at hv
   rw[uP]at hv
   simp -implicitDefEqProofs only[c55l3,aW,↓aP,makes,reduceLT,reduceEqDiff,reduceAdd,hlt,iadr_cops,hg,hA,cop_st,fadr_ptr,zB,zK,L0,bin_isS,hv.1,hv.2,hw]
  | true =>
   obtain⟨A2,o2,H2,ap,S2,O2⟩:=S.append O1 (RowA.of [m.args.headD 0] (some 1)) (by simp;omega)
   obtain⟨A',o',H',L,S',O'⟩:=bh3_loop ops hn ha d v72 v73 v74 k (i+1) A2 _ o2 _ (by omega) (by simp;omega) S2 (own_drop O2)
   refine⟨A',o',H',loopW_round ?_ L,by rw[show opL m=[m.args.headD 0] by simp[opL,hv]];exact S',O'⟩
   have hh:=head_row (haa hv)
   unfold isVS at hv
   cases h1:isS m.op [118,97,114]with
   | true=>simp -implicitDefEqProofs only[c55l3,aW,↓aP,makes,reduceLT,reduceEqDiff,reduceAdd,hlt,iadr_cops,hg,hA,cop_st,fadr_ptr,zB,zK,L0,L1,hh,load_ip1,core_bsl,bslV_1r,ap.opS,bin_isS,h1,hw]
   | false =>
    rw[h1,yP]at hv
    simp -implicitDefEqProofs only[c55l3,aW,↓aP,makes,reduceLT,reduceEqDiff,reduceAdd,hlt,iadr_cops,hg,hA,cop_st,fadr_ptr,zB,zK,L0,L1,hh,load_ip1,core_bsl,bslV_1r,ap.opS,bin_isS,h1,hv,hw]
theorem opL_short(ops:List COpV):(ops.flatMap opL).length≤ops.length:=by
 induction ops with
 | nil=>exact zT _
 | cons o r ih =>
  rw[xG,zN,zC]
  have:(opL o).length≤1:=by unfold opL;cases isVS o<;>simp
  omega
theorem bh4_loop(f:FlatV)(hm:∀m∈f.cross,m.ops.length≤100)(hv:∀m∈f.cross,∀o∈m.ops,isVS o=true→o.args≠[])(hn:f.cross.length≤100)(d:List Obj1):∀(k i:Nat)(A:AV)(l:List Int)(o:List Obj1)(H:List AO),k+i=f.cross.length→l.length+1000*k≤800000→SlX A l o→Own H (o++d) →
  ∃A' o' H',loopW (codeW cw (lookM mtl) mds c55l4) [3,72,73,74] [(3,A),(72,crossA f.cross),(73,litI .i64 f.cross.length),(74,litI .i64 i)] H =
   some (.exit 6,[(3,A'),(72,crossA f.cross),(73,litI .i64 f.cross.length),(74,litI .i64 f.cross.length),(75,litB false)],H')∧SlX A' (l++(f.cross.drop i).flatMap crossL) o'∧Own H' (o'++d)
 | 0,i,A,l,o,H,h,hl,S,O=>by
  have hi:i=f.cross.length:=by omega
  subst hi
  refine⟨A,o,H,loopW_out ?_ (by simp),by rw[yB];simpa using S,O⟩
  simp -implicitDefEqProofs only[c55l4,aW,↓aP,makes,reduceLT,reduceEqDiff,reduceAdd,zR]
 | k+1,i,A,l,o,H,h,hl,S,O=>by
  have hi:i<f.cross.length:=by omega
  have hg:f.cross[i]?=some f.cross[i]:=zE hi
  have hlt:(i:Int)<f.cross.length:=by omega
  have hmm:=hm _ (zV hi)
  have hvv:=hv _ (zV hi)
  generalize hx:f.cross[i]=m at hg hmm hvv
  have hA:=load_ipA (H:=H) (show(CrossV.cs m).length=2 from rfl)
  have O1:=own_newM O m.cs 45
  obtain⟨A2,o2,H2,ap,S2,O2⟩:=S.append O1 (RowA.of [m.guard] (some 1)) (by simp;omega)
  have L0:Ai.load (H++[.row m.cs 45]) none (.ptr H.length 0)=some (litI .i64 m.guard):=own_load O1 (cs:=m.cs) (t:=45) (by simp) rfl
  have L12:Ai.load H2 none (.ptr H.length 1)=some (copsA m.ops):=own_load O2 (cs:=m.cs) (t:=45) (by simp) rfl
  obtain⟨A4,o4,H4,Ls,S4,O4⟩:=bh3_loop m.ops hmm hvv d (crossA f.cross) (litI .i64 f.cross.length) (litI .i64 i) m.ops.length 0 A2 _ o2 H2 (by omega) (by simp;omega) S2 (own_drop O2)
  rw[show((0:Nat):Int)=0 from rfl]at Ls
  rw[zJ]at S4
  have hsl:=opL_short m.ops
  obtain⟨A',o',H',L,S',O'⟩:=bh4_loop f hm hv hn d k (i+1) A4 _ o4 H4 (by omega) (by simp at hsl ⊢;omega) S4 O4
  refine⟨A',o',H',loopW_round ?_ L,?_,O'⟩
  ·simp -implicitDefEqProofs only[c55l4,aW,↓aP,makes,reduceLT,reduceEqDiff,reduceAdd,hlt,iadr_cross,hg,hA,cross_st,fadr_ptr,zB,zK,L0,L12,lenV_cops,core_bsl,bslV_1r,ap.opS,Ls,wrap1 (show i<4611686018427387904 by omega)]
  ·rw[zS hi,xG,hx,crossL]
   simp only[zU,yA,xC]at S' ⊢
   exact S'
theorem opsF_VS(f:FlatV)(n:Nat):∀(l:List COpV)(i:Nat),opsF f n i l=true→∀o∈l,isVS o=true→∃x r,o.args=x::r∧0≤x∧x<(n:Int)
 | [],_,_=>by simp
 | o::l,i,h=>by
  rw[opsF,zL]at h
  intro o' ho hv
  rcases zO.1 ho with rfl|ho
  ·have h:=h.1
   unfold opOk at h
   cases h1:isS o'.op [118,97,114]with
   | true =>
    rw[h1,cond_true,zL]at h
    obtain⟨h2,h3⟩:=h
    unfold lenI at h2
    cases ha:o'.args with
    | nil=>rw[ha]at h2;cases h2
    | cons x r=>rw[ha]at h3;exact⟨x,r,rfl,within_iff.1 h3 x (zM ..)⟩
   | false =>
    unfold isVS at hv
    rw[h1,yP]at hv
    have e1:isS o'.op [99,111,110,116]=false:=isS_ne hv rfl
    have e2:isS o'.op [110,101,103]=false:=isS_ne hv rfl
    have e3:isS o'.op [43]=false:=isS_ne hv rfl
    have e4:isS o'.op [45]=false:=isS_ne hv rfl
    have e5:isS o'.op [47]=false:=isS_ne hv rfl
    have e6:isS o'.op [42]=false:=isS_ne hv rfl
    rw[h1,e1,e2,e3,e4,e5,e6,hv]at h
    simp only[cond_false,cond_true,Bool.or_self,zL]at h
    obtain⟨⟨h2,h3⟩,_⟩:=h
    unfold lenI at h2
    cases ha:o'.args with
    | nil=>rw[ha]at h2;cases h2
    | cons x r=>rw[ha]at h3;exact⟨x,r,rfl,within_iff.1 h3 x (by simp)⟩
  ·exact opsF_VS f n l (i+1) h.2 o' ho hv
theorem GoodF.vs{f:FlatV}(G:GoodF f):∀m∈f.cross,∀o∈m.ops,isVS o=true→∃x r,o.args=x::r∧0≤x∧x<(f.names.length:Int):=by
 intro m hm o ho hv
 have:=(G.cross m hm).2
 unfold opsOk at this
 rw[zL]at this
 exact opsF_VS f _ m.ops 0 this.1 o ho hv
def behF(f:FlatV):List Int:=(endL f).filter fun x=>!decide (x<0)
theorem lt79_tells(x:Int):cw 79 [litI .i64 x] []=some (.ret (litB (decide (x<0))),[]):=by
 refine cw_of fn79 (c:=c79) rfl rfl rfl rfl ?_
 simp -implicitDefEqProofs only[c79,aW,↓aP,makes,reduceLT,reduceEqDiff,reduceAdd]
 rfl
theorem lt79_call(x:Int)(H:List AO)(id:Nat):callV cw mds 79 [litI .i64 x] H id=some (.val (litB (decide (x<0))) none):=callV_pure rfl rfl (lt79_tells x) rfl
theorem del79_nil(e:Nat)(H:List AO)(id:Nat):callV cw mds 76 [.sl e [] (some 0),.fn (.func 79) [] []] H id=some (.wr (.sl e [] (some 0)) H):=by
 have hf:∀id,callV cw mds 34 [.sl e [] (some 0),.fn (.func 79) [] []] H id=some (.wr (litI .i64 (-1)) H):=fun id =>
  callV_same rfl (index34p_tells (.sl e [] (some 0)) [] (fun x=>decide (x<0)) (.fn (.func 79) [] []) H ⟨rfl,fun j x h=>by cases h⟩ (fun x id=>(lt79_call x H id:fnV cw mds (.fn (.func 79) [] []) [litI .i64 x] H id=_)) (by simp)) rfl
 refine callV_same rfl (cw_of fn76 (c:=c76) rfl rfl rfl rfl ?_) rfl
 simp -implicitDefEqProofs only[c76,aW,↓aP,makes,reduceLT,reduceEqDiff,reduceAdd,hf]
 rfl
theorem callV_frz1{f:FuncId}{args:List AV}{H:List AO}{id:Nat}{A:AV}{l:List Int}{o:List Obj1}{H':List AO}(hm:mds f=.pure)(hw:args.all wholeA=true)(h:cw f args []=some (.ret A,H'))(S:SlX A l o)(O:Own H' o) :
  ∃B,RowA B l∧callV cw mds f args H id=some (.val B none)∧∀H2 id2,callV cw mds f args H2 id2=some (.val B none):=by
 rcases S with⟨e,rfl,rfl,rfl⟩|⟨p,z,hz,rfl,rfl⟩
 ·have e0:∀H2 id2,callV cw mds f args H2 id2=some (.val (.sl e [] (some 0)) none):=fun H2 id2=>callV_frz hm hw h (ids:=[]) rfl
  exact⟨_,RowA.nilE e (some 0),e0 _ _,e0⟩
 ·have hp:=O.head
  have fz:=Ord.frz_ints (H:=H') (k:=14) (c:=none) hp hz rfl
  have e0:∀H2 id2,callV cw mds f args H2 id2=some (.val (rowC l none) none):=fun H2 id2=>callV_frz hm hw h fz
  exact⟨_,RowA.of l none,e0 _ _,e0⟩
theorem endL_len(f:FlatV)(F:FitsS f):(endL f).length≤1000000:=by
 have e1:=F.mems;have e2:=F.conts;have e3:=F.cross;have e4:=F.outs;have e5:=F.again
 have k1:(f.mems.flatMap memL).length≤100*f.mems.length:=by
  have hm:=F.mres
  generalize f.mems=ms at hm
  induction ms with
  | nil=>simp
  | cons m r ih =>
   have h1:=hm m (zM ..)
   have h2:=ih fun x hx=>hm x (zI _ hx)
   simp only[xG,zN,memL,zC,zA]at h2 ⊢;omega
 have k2:(f.conts.flatMap contL).length≤300*f.conts.length:=by
  have hm:=F.cres
  have hs:=F.slopes
  generalize f.conts=ms at hm hs
  induction ms with
  | nil=>simp
  | cons m r ih =>
   have h1:=hm m (zM ..)
   have h3:=hs m (zM ..)
   have h2:=ih (fun x hx=>hm x (zI _ hx)) (fun x hx=>hs x (zI _ hx))
   have hsl:(m.slopes.flatMap slopeL).length=2*m.slopes.length:=by
    clear h1 h3 h2 hm hs ih
    induction m.slopes with
    | nil=>rfl
    | cons s r ih=>simp[slopeL]at ih ⊢;omega
   simp only[xG,zN,contL,zC,zA,hsl]at h2 ⊢;omega
 have k3:(f.cross.flatMap crossL).length≤100*f.cross.length:=by
  have hm:=F.ops
  generalize f.cross=ms at hm
  induction ms with
  | nil=>simp
  | cons m r ih =>
   have h1:=hm m (zM ..)
   have h2:=ih fun x hx=>hm x (zI _ hx)
   have:=opL_short m.ops
   simp only[xG,zN,crossL,zC]at h2 ⊢;omega
 unfold endL
 simp only[zN];omega
theorem behind_call(f:FlatV)(F:FitsS f)(hG:goodOk f=true):∃B,RowA B (behF f)∧∀H id,callV cw mds 55 [flatA f] H id=some (.val B none):=by
 have G:=goodF_of hG
 have e1:=F.mems;have e2:=F.conts;have e3:=F.cross;have e4:=F.outs;have e5:=F.again
 have b2:=bslV_r2 [.row f.cs 29] (.sl 0 [] (some 0)) (RowA.of f.outs none) (RowA.of f.again none)
 have O0:Own [AO.row f.cs 29] [(0,f.cs,29)]:=⟨by simp,fun x hx=>by simp only[zO,yG,or_false]at hx;subst hx;rfl⟩
 have l2:Ai.load [.row f.cs 29] none (.ptr 0 2)=some (rowC f.outs none):=rfl
 have l7:Ai.load [.row f.cs 29] none (.ptr 0 7)=some (rowC f.again none):=rfl
 obtain⟨A,o,H1,ap,S,O⟩:=concat_call [(rowC f.outs none,f.outs),(rowC f.again none,f.again)] (some 2) (fun p hp=>by
  simp only[zO,yG,or_false]at hp
  rcases hp with rfl|rfl
  ·exact RowA.of _ _
  ·exact RowA.of _ _) (by simp) (by simp[Rows.cat];omega) [.row f.cs 29] _ O0
 rw[show catA [(rowC f.outs none,f.outs),(rowC f.again none,f.again)] (some 2)=.sl 1 [[rowC f.outs none],[rowC f.again none]] (some 2)from rfl]at ap
 rw[show Rows.cat [(rowC f.outs none,f.outs),(rowC f.again none,f.again)]=f.outs++f.again by simp[Rows.cat]]at S
 obtain⟨A1,o1,H2,L1,S1,O1⟩:=bh0_loop f (fun m hm=>by have:=F.mres m hm;omega) (by omega) [(0,f.cs,29)] f.mems.length 0 A _ o H1 (by omega) (by simp;omega) S O
 obtain⟨A2,o2,H3,L2,S2,O2⟩:=bh2_loop f (fun m hm=>by have:=F.cres m hm;omega) (fun m hm=>by have:=F.slopes m hm;omega) (by omega) [(0,f.cs,29)] f.conts.length 0 A1 _ o1 H2 (by omega) (by
  have:(f.mems.flatMap memL).length≤100*f.mems.length:=by
   have hm:=F.mres
   generalize f.mems=ms at hm
   induction ms with
   | nil=>simp
   | cons m r ih =>
    have h1:=hm m (zM ..)
    have h2:=ih fun x hx=>hm x (zI _ hx)
    simp only[xG,zN,memL,zC,zA]at h2 ⊢;omega
  rw[zJ,zN,zN];omega) S1 O1
 obtain⟨A3,o3,H4,L3,S3,O3⟩:=bh4_loop f (fun m hm=>by have:=F.ops m hm;omega) (fun m hm o ho hv=>by obtain⟨x,r,e,_⟩:=G.vs m hm o ho hv;rw[e];simp) (by omega) [(0,f.cs,29)] f.cross.length 0 A2 _ o2 H3 (by omega) (by
  have k1:(f.mems.flatMap memL).length≤100*f.mems.length:=by
   have hm:=F.mres
   generalize f.mems=ms at hm
   induction ms with
   | nil=>simp
   | cons m r ih =>
    have h1:=hm m (zM ..)
    have h2:=ih fun x hx=>hm x (zI _ hx)
    simp only[xG,zN,memL,zC,zA]at h2 ⊢;omega
  have k2:(f.conts.flatMap contL).length≤300*f.conts.length:=by
   have hm:=F.cres
   have hs:=F.slopes
   generalize f.conts=ms at hm hs
   induction ms with
   | nil=>simp
   | cons m r ih =>
    have h1:=hm m (zM ..)
    have h3:=hs m (zM ..)
    have h2:=ih (fun x hx=>hm x (zI _ hx)) (fun x hx=>hs x (zI _ hx))
    have hsl:(m.slopes.flatMap slopeL).length=2*m.slopes.length:=by
     clear h1 h3 h2 hm hs ih
     induction m.slopes with
     | nil=>rfl
     | cons s r ih=>simp[slopeL]at ih ⊢;omega
    simp only[xG,zN,contL,zC,zA,hsl]at h2 ⊢;omega
  rw[zJ,zJ,zN,zN,zN];omega) S2 O2
 rw[show((0:Nat):Int)=0 from rfl]at L1 L2 L3
 rw[zJ,zJ,zJ]at S3
 change SlX A3 (endL f) o3 at S3
 have hel:=endL_len f F
 have l4:Ai.load H1 none (.ptr 0 4)=some (memsA f.mems):=own_load O (cs:=f.cs) (t:=29) (by simp) rfl
 have l5:Ai.load H2 none (.ptr 0 5)=some (contsA f.conts):=own_load O1 (cs:=f.cs) (t:=29) (by simp) rfl
 have l6:Ai.load H3 none (.ptr 0 6)=some (crossA f.cross):=own_load O2 (cs:=f.cs) (t:=29) (by simp) rfl
 have fin:∃A5 o5 H5,(∀id,callV cw mds 76 [A3,.fn (.func 79) [] []] H4 id=some (.wr A5 H5))∧SlX A5 (behF f) o5∧Own H5 o5:=by
  rcases S3 with⟨e,rfl,h0,rfl⟩|⟨p,z,hz,rfl,rfl⟩
  ·refine⟨_,[],H4,fun id=>del79_nil e H4 id,?_,Own.nil⟩
   unfold behF;rw[h0];exact SlX.nil e
  ·obtain⟨z',H5,h,h1,h2,h3⟩:=del_tells (p:=fun x=>decide (x<0)) (fv:=.fn (.func 79) [] []) hz (fun x H id=>(lt79_call x H id:fnV cw mds (.fn (.func 79) [] []) [litI .i64 x] H id=_)) hel (by rw[yA]at O3;exact O3)
   exact⟨_,_,H5,fun id=>callV_same rfl h h2,SlX.own p _ z' h1,h3.sub (by simp)⟩
 obtain⟨A5,o5,H5,cD,S5,O5⟩:=fin
 simp only[zC,zA,zB]at ap
 have told:cw 55 [flatA f] []=some (.ret A5,H5):=by
  refine cw_of fn55 (c:=c55) rfl rfl rfl rfl ?_
  simp -implicitDefEqProofs only[c55,aW,↓aP,makes,reduceLT,reduceEqDiff,reduceAdd,core_box,flat_f,zA,zC,fadr_ptr,zB,l2,l7,core_bsl,b2,ap.opS,l4,lenV_mems,L1,l5,lenV_conts,L2,l6,lenV_cross,L3,cD]
  rfl
 obtain⟨B,h1,_,h2⟩:=callV_frz1 (H:=[]) (id:=0) rfl rfl told S5 O5
 exact⟨B,h1,h2⟩
end
section
variable {call:CallF}{mt:MtF}{md:FuncId→Md}
theorem setN_rows(g:Eqn→List Int)(P:List Int→Prop):∀(l:List Eqn)(rows:List (List Int)),(∀r∈rows,P r)→(∀q∈l,P (g q))→∀r∈setN g rows l,P r
 | [],rows,h,_=>h
 | q::l,rows,h,hq=>by
  rw[setN]
  refine setN_rows g P l _ (fun r hr=>?_) fun q' hq'=>hq q' (zI _ hq')
  rcases tB hr with hr|rfl
  ·exact h r hr
  ·exact hq q (zM ..)
theorem begF_len(f:FlatV)(F:FitsS f)(q:Eqn)(K:KOk f q):(begF f q).length≤20:=by
 unfold begF
 cases hm:isS q.op [109,101,109]with
 | true =>
  obtain⟨m,h1,_,h3⟩:=iadr_memsI (K.m hm)
  rw[cond_true,h3];exact F.mres m (zX h1)
 | false =>
  cases hk:isS q.op [99,111,110,116]with
  | true =>
   obtain⟨m,h1,_,h3⟩:=iadr_contsI (K.k hk)
   rw[cond_false,cond_true,h3];exact F.cres m (zX h1)
  | false=>exact uI _
theorem needC_len(f:FlatV)(F:FitsS f)(q:Eqn)(hq:q∈f.eqs)(K:KOk f q):(needC f q).length≤51:=by
 unfold needC
 have h1:=List.length_filter_le (fun x=>!decide (x<0)) (compI' (sortI (q.args++begF f q++[q.guard])))
 have h2:=compI_len (sortI (q.args++begF f q++[q.guard]))
 rw[sortI_len]at h2
 have h3:=F.args q hq
 have h4:=begF_len f F q K
 simp only[zN,zC,zA]at h2
 omega
theorem NC_few(f:FlatV)(F:FitsS f)(G:GoodF f):Ord.fewG (NC f)=true:=by
 simp only[Ord.fewG,zL,decide_eq_true_eq,yD]
 have e:=F.eqs
 have:=G.len
 refine⟨by rw[NC_len];omega,?_⟩
 refine setN_rows (needC f) (fun r=>r.length≤60) f.eqs _ (fun r hr=>by rw[vV hr];simp) fun q hq=>?_
 have:=needC_len f F q hq (G.kok q hq)
 omega
def ordL(g:List (List Int)):List Int:=if Ord.okL g=true then Ord.outL g else []
theorem slx_frz{A:AV}{l:List Int}{o:List Obj1}{H:List AO}{k:Nat}(S:SlX A l o)(O:∀x∈o,H[x.1]?=some (.row x.2.1 x.2.2)):∃B ids,frz H (k+2) A=some (B,ids)∧RowA B l:=by
 rcases S with⟨e,rfl,rfl,rfl⟩|⟨p,z,hz,rfl,rfl⟩
 ·exact⟨_,[],rfl,RowA.nilE e (some 0)⟩
 ·exact⟨_,_,Ord.frz_ints (H:=H) (k:=k) (c:=none) (O (p,cellsI l++z,3) (by simp)) hz rfl,RowA.of l none⟩
theorem callV_tup{f:FuncId}{args:List AV}{H H':List AO}{id:Nat}{B:AV}{l:List Int}{v:Value}(hm:mds f=.pure)(hw:args.all wholeA=true)(h:cw f args []=some (.ret (.tup [B,.lit v]),H'))(hB:RowA B l):callV cw mds f args H id=some (.val (.tup [B,.lit v]) none):=by
 obtain⟨e,xs,c,rfl⟩:=hB.cases
 exact callV_frz hm hw h (ids:=[]) rfl
end
section
variable {call:CallF}{mt:MtF}{md:FuncId→Md}
theorem core_maxi2{H:List AO}{id:Nat}{fr:Fr}(s t:Nat)(k:IntKind)(a b:Int)(h1:get fr s=litI k a)(h2:get fr t=litI k b):core call mt md H id (.maxi [.s s,.s t]) fr=some (.val (litI k (max a b)) none):=by
 simp only[core,yJ,vE,ev,h1,h2]
 simp only[litI,foldI,wC,List.foldl_nil,foldS,zD]
 congr 3
 by_cases h:b > a
 ·simp only[h,decide_true,cond_true];congr 1;omega
 ·simp only[h,decide_false,cond_false];congr 1;omega
def setAll(r:List Int):Nat→List Int→List Int
 | _,[]=>r
 | i,v::l=>setAll (r.set v.toNat i) (i+1) l
theorem setAll_len:∀(l:List Int)(r:List Int)(i:Nat),(setAll r i l).length=r.length
 | [],_,_=>rfl
 | v::l,r,i=>by rw[setAll,setAll_len l];simp
def maxK(fv:Int):List Int→List Int→List Int
 | last,[]=>last
 | last,k::r=>maxK fv (last.set k.toNat (max (last.getD k.toNat 0) fv)) r
theorem maxK_len(fv:Int):∀(r last:List Int),(maxK fv last r).length=last.length
 | [],_=>rfl
 | k::r,last=>by rw[maxK,maxK_len fv r];simp
def maxV(first:List Int):Nat→List Int→List (List Int)→List Int
 | _,last,[]=>last
 | v,last,row::g=>maxV first (v+1) (maxK (first.getD v 0) last row) g
theorem maxV_len(first:List Int):∀(g:List (List Int))(v:Nat)(last:List Int),(maxV first v last g).length=last.length
 | [],_,_=>rfl
 | row::g,v,last=>by rw[maxV,maxV_len first g,maxK_len]
def endK(n:Int):List Int→List Int→List Int
 | last,[]=>last
 | last,v::r=>endK n (last.set v.toNat n) r
theorem endK_len(n:Int):∀(r last:List Int),(endK n last r).length=last.length
 | [],_=>rfl
 | k::r,last=>by rw[endK,endK_len n r];simp
section
variable {H:List AO}{p a b n:Nat}{first last:List Int}{d:List Obj1}
abbrev lv(p a b n:Nat)(first last:List Int):List Obj1:=[(a,cellsI first,3),(b,cellsI last,3),(p,[.own a 0 n 1 (some n),.own b 0 n 1 (some n)],76)]
theorem lv_0(O:Own H (lv p a b n first last++d)):Ai.load H none (.ptr p 0)=some (.own a 0 n 1 (some n)):=own_load O (cs:=[.own a 0 n 1 (some n),.own b 0 n 1 (some n)]) (t:=76) (by simp) rfl
theorem lv_1(O:Own H (lv p a b n first last++d)):Ai.load H none (.ptr p 1)=some (.own b 0 n 1 (some n)):=own_load O (cs:=[.own a 0 n 1 (some n),.own b 0 n 1 (some n)]) (t:=76) (by simp) rfl
theorem lv_a(O:Own H (lv p a b n first last++d)){v:Nat}(hv:v<first.length):Ai.load H none (.ptr a v)=some (litI .i64 (first.getD v 0)):=own_load O (cs:=cellsI first) (t:=3) (by simp) (by rw[cellsI_at,Ord.getI hv];rfl)
theorem lv_b(O:Own H (lv p a b n first last++d)){v:Nat}(hv:v<last.length):Ai.load H none (.ptr b v)=some (litI .i64 (last.getD v 0)):=own_load O (cs:=cellsI last) (t:=3) (by simp) (by rw[cellsI_at,Ord.getI hv];rfl)
theorem lv_sa(O:Own H (lv p a b n first last++d)){v:Nat}(hv:v<first.length)(x:Int):∃H',storeAt H 1 (.ptr a v) (litI .i64 x)=some H'∧Own H' (lv p a b n (first.set v x) last++d):=by
 refine⟨_,store_ptr O.head (by rw[cellsI_len];omega) rfl rfl,?_⟩
 have e:(cellsI first).set v (litI .i64 x)=cellsI (first.set v x):=by simp[cellsI]
 rw[e];exact O.set _ 3
theorem lv_sb(O:Own H (lv p a b n first last++d)){v:Nat}(hv:v<last.length)(x:Int):∃H',storeAt H 1 (.ptr b v) (litI .i64 x)=some H'∧Own H' (lv p a b n first (last.set v x)++d):=by
 have O0:Own H ((a,cellsI first,3)::(b,cellsI last,3)::((p,[.own a 0 n 1 (some n),.own b 0 n 1 (some n)],76)::d)):=O
 have O':Own H ((b,cellsI last,3)::(a,cellsI first,3)::((p,[.own a 0 n 1 (some n),.own b 0 n 1 (some n)],76)::d)):=O0.perm (List.Perm.swap ..)
 refine⟨_,store_ptr O'.head (by rw[cellsI_len];omega) rfl rfl,?_⟩
 have e:(cellsI last).set v (litI .i64 x)=cellsI (last.set v x):=by simp[cellsI]
 rw[e]
 have O1:=(O'.set (cellsI (last.set v x)) 3).perm (List.Perm.swap ..)
 exact O1
end
theorem iadr_ownI{r n:Nat}{c:Option Nat}{x:Int}(h0:0≤x)(h1:x<(n:Int)):iadr 1 (.own r 0 n 1 c) (litI .i64 x)=some (.ptr r x.toNat):=by
 rw[iadr_own,if_pos ⟨h0,h1⟩];simp
theorem of_loop0(f2 f4:AV)(B:AV)(ord:List Int)(hB:RowA B ord)(p a b n:Nat)(d:List Obj1)(hn:ord.length≤1000000)(hr:∀x∈ord,0≤x∧x<(n:Int)):∀(m i:Nat)(first last:List Int)(H:List AO),m+i=ord.length→first.length=n→last.length=n→Own H (lv p a b n first last++d) →
  ∃H',loopW (codeW cw (lookM mtl) mds c33l0) [1,2,4,5,21,22,23] [(1,B),(2,f2),(4,f4),(5,.ptr p 0),(21,B),(22,litI .i64 ord.length),(23,litI .i64 i)] H =
   some (.exit 0,[(1,B),(2,f2),(4,f4),(5,.ptr p 0),(21,B),(22,litI .i64 ord.length),(23,litI .i64 ord.length),(24,litB false)],H')∧Own H' (lv p a b n (setAll first i (ord.drop i)) (setAll last i (ord.drop i))++d)
 | 0,i,first,last,H,h,h1,h2,O=>by
  have hi:i=ord.length:=by omega
  subst hi
  refine⟨H,loopW_out ?_ (by simp),by rw[yB];exact O⟩
  simp -implicitDefEqProofs only[c33l0,aW,↓aP,makes,reduceLT,reduceEqDiff,reduceAdd,zR]
 | m+1,i,first,last,H,h,h1,h2,O=>by
  have hi:i<ord.length:=by omega
  have hg:ord[i]?=some ord[i]:=zE hi
  have hlt:(i:Int)<ord.length:=by omega
  have hx:=hr _ (zV hi)
  rw[zS hi,setAll,setAll]
  generalize ord[i]=v at hg hx
  have hvn:v.toNat<n:=by omega
  obtain⟨H1,s1,O1⟩:=lv_sa O (v:=v.toNat) (by omega) i
  obtain⟨H2,s2,O2⟩:=lv_sb O1 (v:=v.toNat) (by omega) i
  obtain⟨H',L,O'⟩:=of_loop0 f2 f4 B ord hB p a b n d hn hr m (i+1) _ _ H2 (by omega) (by simpa using h1) (by simpa using h2) O2
  refine⟨H',loopW_round ?_ L,O'⟩
  simp -implicitDefEqProofs only[c33l0,aW,↓aP,makes,reduceLT,reduceEqDiff,reduceAdd,hlt,hB.iadr hg,fadr_ptr,zB,lv_0 O,lv_1 O,lv_1 O1,lv_1 O2,iadr_ownI hx.1 hx.2,s1,s2,wrap1 (show i<4611686018427387904 by omega)]
theorem of_loop1(f1 f2 f4 f40 f41 f42:AV)(row:List Int)(v:Nat)(p a b n:Nat)(d:List Obj1)(first:List Int)(hf:first.length=n)(hv:v<n)(hn:row.length≤1000000)(hr:∀x∈row,0≤x∧x<(n:Int)):∀(m i:Nat)(last:List Int)(H:List AO),m+i=row.length→last.length=n→Own H (lv p a b n first last++d) →
  ∃H',loopW (codeW cw (lookM mtl) mds c33l1) [1,2,4,5,8,40,41,42,47,48,49] [(1,f1),(2,f2),(4,f4),(5,.ptr p 0),(8,litI .i64 v),(40,f40),(41,f41),(42,f42),(47,rowC row none),(48,litI .i64 row.length),(49,litI .i64 i)] H =
   some (.exit 4,[(1,f1),(2,f2),(4,f4),(5,.ptr p 0),(8,litI .i64 v),(40,f40),(41,f41),(42,f42),(47,rowC row none),(48,litI .i64 row.length),(49,litI .i64 row.length),(50,litB false)],H')∧Own H' (lv p a b n first (maxK (first.getD v 0) last (row.drop i))++d)
 | 0,i,last,H,h,h2,O=>by
  have hi:i=row.length:=by omega
  subst hi
  refine⟨H,loopW_out ?_ (by simp),by rw[yB];exact O⟩
  simp -implicitDefEqProofs only[c33l1,aW,↓aP,makes,reduceLT,reduceEqDiff,reduceAdd,zR]
 | m+1,i,last,H,h,h2,O=>by
  have hi:i<row.length:=by omega
  have hg:row[i]?=some row[i]:=zE hi
  have hlt:(i:Int)<row.length:=by omega
  have hx:=hr _ (zV hi)
  rw[zS hi,maxK]
  generalize row[i]=k at hg hx
  have hkn:k.toNat<n:=by omega
  obtain⟨H1,s1,O1⟩:=lv_sb O (v:=k.toNat) (by omega) (max (last.getD k.toNat 0) (first.getD v 0))
  obtain⟨H',L,O'⟩:=of_loop1 f1 f2 f4 f40 f41 f42 row v p a b n d first hf hv hn hr m (i+1) _ H1 (by omega) (by simpa using h2) O1
  refine⟨H',loopW_round ?_ L,O'⟩
  have iv:=iadr_ownI (r:=a) (n:=n) (c:=some n) (x:=v) (by omega) (by omega)
  rw[xF]at iv
  have la:=lv_a O (v:=v) (by omega)
  have lb:=lv_b O (v:=k.toNat) (by omega)
  simp -implicitDefEqProofs only[c33l1,aW,↓aP,makes,reduceLT,reduceEqDiff,reduceAdd,hlt,iadr_row,hg,fadr_ptr,zB,lv_0 O,lv_1 O,iadr_ownI hx.1 hx.2,iv,la,lb,core_maxi2 60 65 .i64 (last.getD k.toNat 0) (first.getD v 0),s1,wrap1 (show i<4611686018427387904 by omega)]
theorem of_loop2(f1 f2 f4:AV)(g:List (List Int))(cs:Nat→Option Nat)(cc:Option Nat)(hcs:∀i,cs i=none)(p a b n:Nat)(d:List Obj1)(first:List Int)(hf:first.length=n)(hgn:g.length=n)(hn:n≤1000000)(hl:∀r∈g,r.length≤1000000)(hr:∀r∈g,∀x∈r,0≤x∧x<(n:Int)):∀(m i:Nat)(last:List Int)(H:List AO),m+i=g.length→last.length=n→Own H (lv p a b n first last++d) →
  ∃H',loopW (codeW cw (lookM mtl) mds c33l2) [1,2,4,5,40,41,42] [(1,f1),(2,f2),(4,f4),(5,.ptr p 0),(40,Ord.gX cs cc g),(41,litI .i64 g.length),(42,litI .i64 i)] H =
   some (.exit 2,[(1,f1),(2,f2),(4,f4),(5,.ptr p 0),(40,Ord.gX cs cc g),(41,litI .i64 g.length),(42,litI .i64 g.length),(43,litB false)],H')∧Own H' (lv p a b n first (maxV first i last (g.drop i))++d)
 | 0,i,last,H,h,h2,O=>by
  have hi:i=g.length:=by omega
  subst hi
  refine⟨H,loopW_out ?_ (by simp),by rw[yB];exact O⟩
  simp -implicitDefEqProofs only[c33l2,aW,↓aP,makes,reduceLT,reduceEqDiff,reduceAdd,zR]
 | m+1,i,last,H,h,h2,O=>by
  have hi:i<g.length:=by omega
  have hg:g[i]?=some g[i]:=zE hi
  have hlt:(i:Int)<g.length:=by omega
  have hx:=hr _ (zV hi)
  have hll:=hl _ (zV hi)
  rw[zS hi,maxV]
  generalize g[i]=row at hg hx hll
  obtain⟨H1,L1,O1⟩:=of_loop1 f1 f2 f4 (Ord.gX cs cc g) (litI .i64 g.length) (litI .i64 i) row i p a b n d first hf (by omega) hll hx row.length 0 last H (by omega) h2 O
  rw[show((0:Nat):Int)=0 from rfl]at L1
  rw[zJ]at O1
  obtain⟨H',L,O'⟩:=of_loop2 f1 f2 f4 g cs cc hcs p a b n d first hf hgn hn hl hr m (i+1) _ H1 (by omega) (by rw[maxK_len];exact h2) O1
  refine⟨H',loopW_round ?_ L,O'⟩
  simp -implicitDefEqProofs only[c33l2,aW,↓aP,makes,reduceLT,reduceEqDiff,reduceAdd,hlt,Ord.iadr_gX,hg,hcs,lenV_row,L1,wrap1 (show i<4611686018427387904 by omega)]
theorem of_loop3(B B2 f4:AV)(ord beh:List Int)(hB:RowA B ord)(hB2:RowA B2 beh)(p a b n:Nat)(d:List Obj1)(first:List Int)(hn:beh.length≤1000000)(hr:∀x∈beh,0≤x∧x<(n:Int)):∀(m i:Nat)(last:List Int)(H:List AO),m+i=beh.length→last.length=n→Own H (lv p a b n first last++d) →
  ∃H',loopW (codeW cw (lookM mtl) mds c33l3) [1,4,5,71,72,73] [(1,B),(4,f4),(5,.ptr p 0),(71,B2),(72,litI .i64 beh.length),(73,litI .i64 i)] H =
   some (.exit 6,[(1,B),(4,f4),(5,.ptr p 0),(71,B2),(72,litI .i64 beh.length),(73,litI .i64 beh.length),(74,litB false)],H')∧Own H' (lv p a b n first (endK ord.length last (beh.drop i))++d)
 | 0,i,last,H,h,h2,O=>by
  have hi:i=beh.length:=by omega
  subst hi
  refine⟨H,loopW_out ?_ (by simp),by rw[yB];exact O⟩
  simp -implicitDefEqProofs only[c33l3,aW,↓aP,makes,reduceLT,reduceEqDiff,reduceAdd,zR]
 | m+1,i,last,H,h,h2,O=>by
  have hi:i<beh.length:=by omega
  have hg:beh[i]?=some beh[i]:=zE hi
  have hlt:(i:Int)<beh.length:=by omega
  have hx:=hr _ (zV hi)
  rw[zS hi,endK]
  generalize beh[i]=v at hg hx
  obtain⟨H1,s1,O1⟩:=lv_sb O (v:=v.toNat) (by omega) ord.length
  obtain⟨H',L,O'⟩:=of_loop3 B B2 f4 ord beh hB hB2 p a b n d first hn hr m (i+1) _ H1 (by omega) (by simpa using h2) O1
  refine⟨H',loopW_round ?_ L,O'⟩
  simp -implicitDefEqProofs only[c33l3,aW,↓aP,makes,reduceLT,reduceEqDiff,reduceAdd,hlt,hB2.iadr hg,hB.lenV,fadr_ptr,zB,lv_1 O,iadr_ownI hx.1 hx.2,s1,wrap1 (show i<4611686018427387904 by omega)]
theorem NC_rng(f:FlatV)(F:FitsS f)(G:GoodF f):∀r∈NC f,∀x∈r,0≤x∧x<(f.names.length:Int):=by
 refine setN_rows (needC f) (fun r=>∀x∈r,0≤x∧x<(f.names.length:Int)) f.eqs _ (fun r hr=>by rw[vV hr];simp) fun q hq x hx=>?_
 unfold needC at hx
 rw[xL,Ord.mem_compI,Ord.mem_sortI]at hx
 obtain⟨h1,h2⟩:=hx
 simp only[yY,decide_eq_false_iff_not]at h2
 refine⟨by omega,?_⟩
 rw[zY,zY]at h1
 rcases h1 with(h1|h1)|h1
 ·exact(G.args q hq x h1).2
 ·unfold begF at h1
  cases hm:isS q.op [109,101,109]with
  | true =>
   obtain⟨m,k1,_,k3⟩:=iadr_memsI ((G.kok q hq).m hm)
   rw[hm,cond_true,k3]at h1
   exact((G.mems m (zX k1)).2.2 x h1).2
  | false =>
   cases hk:isS q.op [99,111,110,116]with
   | true =>
    obtain⟨m,k1,_,k3⟩:=iadr_contsI ((G.kok q hq).k hk)
    rw[hm,hk,cond_false,cond_true,k3]at h1
    exact((G.conts m (zX k1)).2.2.1 x h1).2
   | false=>rw[hm,hk]at h1;cases h1
 ·simp only[zO,yG,or_false]at h1
  rw[h1];exact G.guard q hq
theorem NC_60(f:FlatV)(F:FitsS f)(G:GoodF f):∀r∈NC f,r.length≤60:=by
 have:=NC_few f F G
 simp only[Ord.fewG,zL,decide_eq_true_eq,yD]at this
 exact this.2
theorem endL_rng(f:FlatV)(G:GoodF f):∀x∈endL f,x<(f.names.length:Int):=by
 intro x hx
 simp only[endL,zY,List.mem_flatMap]at hx
 rcases hx with(((hx|hx)|⟨m,hm,hx⟩)|⟨m,hm,hx⟩)|⟨m,hm,hx⟩
 ·exact(G.outs x hx).2
 ·exact(G.again x hx).2
 ·obtain⟨h1,h2,h3⟩:=G.mems m hm
  simp only[memL,zY,zO,yG,or_false]at hx
  rcases hx with(rfl|rfl)|hx
  ·exact h1.2
  ·exact h2
  ·exact(h3 x hx).2
 ·obtain⟨h1,h2,h3,h4⟩:=G.conts m hm
  simp only[contL,zY,zO,yG,or_false,List.mem_flatMap,slopeL]at hx
  rcases hx with((rfl|rfl)|hx)|⟨s,hs,rfl|rfl⟩
  ·exact h1.2
  ·exact h2
  ·exact(h3 x hx).2
  ·exact(h4 s hs).2
  ·exact(h4 s hs).1.2
 ·simp only[crossL,zO,List.mem_flatMap]at hx
  rcases hx with rfl|⟨o,ho,hx⟩
  ·exact(G.cross m hm).1
  ·unfold opL at hx
   cases hv:isVS o with
   | false=>rw[hv]at hx;cases hx
   | true =>
    obtain⟨y,r,e,h1,h2⟩:=G.vs m hm o ho hv
    rw[hv,e]at hx
    simp only[cond_true,List.headD_cons,zO,yG,or_false]at hx
    rw[hx];exact h2
theorem behF_rng(f:FlatV)(G:GoodF f):∀x∈behF f,0≤x∧x<(f.names.length:Int):=by
 intro x hx
 unfold behF at hx
 rw[xL]at hx
 have:=hx.2
 simp only[yY,decide_eq_false_iff_not]at this
 exact⟨by omega,endL_rng f G x hx.1⟩
def firstF(ord:List Int):List Int:=setAll (List.replicate ord.length 0) 0 ord
def lastF(f:FlatV)(ord:List Int):List Int:=endK ord.length (maxV (firstF ord) 0 (firstF ord) (NC f)) (behF f)
theorem firstF_len(ord:List Int):(firstF ord).length=ord.length:=by unfold firstF;rw[setAll_len];simp
theorem lastF_len(f:FlatV)(ord:List Int):(lastF f ord).length=ord.length:=by unfold lastF;rw[endK_len,maxV_len,firstF_len]
theorem of_call(f:FlatV)(F:FitsS f)(hG:goodOk f=true){B:AV}{ord:List Int}(hB:RowA B ord)(hl:ord.length=f.names.length)(hr:∀x∈ord,0≤x∧x<(f.names.length:Int))(H:List AO)(id:Nat) :
  callV cw mds 33 [flatA f,B] H id=some (.val (.agg [rowC (firstF ord) (some ord.length),rowC (lastF f ord) (some ord.length)]) none):=by
 have G:=goodF_of hG
 have hnn:=F.names
 have hN:∀H id,callV cw mds 54 [.agg f.cs] H id=some (.val (ncA f) none):=needs54_call f F hG
 obtain⟨B2,hB2,hbeh⟩:=behind_call f F hG
 have hbc:∀H id,callV cw mds 55 [.agg f.cs] H id=some (.val B2 none):=hbeh
 have hm1:=mksV_ok (id:=4) (e:=1) (bytes:=8) (z:=[litI .i64 0]) (t:=3) (n:=ord.length) (by omega) (by omega)
 have hm2:=mksV_ok (id:=7) (e:=1) (bytes:=8) (z:=[litI .i64 0]) (t:=3) (n:=ord.length) (by omega) (by omega)
 rw[reps_one]at hm1 hm2
 have hz:cellsI (List.replicate ord.length 0)=List.replicate ord.length (litI .i64 0):=by simp[cellsI]
 have O:Own ([.row f.cs 29,.row [.sl 0 [] (some 0),.sl 0 [] (some 0)] 76,.dead,.dead,.row (List.replicate ord.length (litI .i64 0)) 3,.dead,.dead,.row (List.replicate ord.length (litI .i64 0)) 3,.dead,.row [.own 4 0 ord.length 1 (some ord.length),.own 7 0 ord.length 1 (some ord.length)] 76]:List AO) (lv 9 4 7 ord.length (List.replicate ord.length 0) (List.replicate ord.length 0)++[(0,f.cs,29),(1,[.sl 0 [] (some 0),.sl 0 [] (some 0)],76)]):=by
  unfold lv
  rw[hz]
  refine⟨by simp,fun x hx=>?_⟩
  simp only[xC,yF,zO,yG,or_false]at hx
  rcases hx with rfl|rfl|rfl|rfl|rfl<;>rfl
 have hbl:(behF f).length≤1000000:=by
  obtain⟨B,_,h⟩:=behind_call f F hG
  have:(endL f).length≤1000000:=endL_len f F
  exact vW (List.length_filter_le _ _) this
 obtain⟨H1,L0,O1⟩:=of_loop0 (.ptr 0 0) (.ptr 1 0) B ord hB 9 4 7 ord.length _ (by omega) (fun x hx=>by have:=hr x hx;omega) ord.length 0 _ _ _ (by omega) (by simp) (by simp) O
 rw[show((0:Nat):Int)=0 from rfl]at L0
 rw[zJ]at O1
 change Own H1 (lv 9 4 7 ord.length (firstF ord) (firstF ord)++_)at O1
 obtain⟨H2,L2,O2⟩:=of_loop2 B (.ptr 0 0) (.ptr 1 0) (NC f) (fun _=>none) (some f.names.length) (fun _=>rfl) 9 4 7 ord.length _ (firstF ord) (firstF_len ord) (by rw[NC_len,hl]) (by omega) (fun r hr=>by have:=NC_60 f F G r hr;omega) (fun r hr x hx=>by have:=NC_rng f F G r hr x hx;rw[hl];exact this) (NC f).length 0 _ H1 (by omega) (firstF_len ord) O1
 rw[show((0:Nat):Int)=0 from rfl]at L2
 rw[zJ]at O2
 obtain⟨H3,L3,O3⟩:=of_loop3 B B2 (.ptr 1 0) ord (behF f) hB hB2 9 4 7 ord.length _ (firstF ord) hbl (fun x hx=>by have:=behF_rng f G x hx;rw[hl];exact this) (behF f).length 0 _ H2 (by omega) (by rw[maxV_len,firstF_len]) O2
 rw[show((0:Nat):Int)=0 from rfl]at L3
 rw[zJ]at O3
 change Own H3 (lv 9 4 7 ord.length (firstF ord) (lastF f ord)++_)at O3
 have hb8:buildV [.sl 0 [] (some 0),.sl 0 [] (some 0)] [(0,1,.own 4 0 ord.length 1 (some ord.length)),(1,1,.own 7 0 ord.length 1 (some ord.length))]=some (.val (.agg [.own 4 0 ord.length 1 (some ord.length),.own 7 0 ord.length 1 (some ord.length)]) none):=rfl
 have st9:storeAt [.row f.cs 29,.row [.sl 0 [] (some 0),.sl 0 [] (some 0)] 76,.dead,.dead,.row (List.replicate ord.length (litI .i64 0)) 3,.dead,.dead,.row (List.replicate ord.length (litI .i64 0)) 3,.dead,.row [.sl 0 [] (some 0),.sl 0 [] (some 0)] 76] 2 (.ptr 9 0) (.agg [.own 4 0 ord.length 1 (some ord.length),.own 7 0 ord.length 1 (some ord.length)])=some [.row f.cs 29,.row [.sl 0 [] (some 0),.sl 0 [] (some 0)] 76,.dead,.dead,.row (List.replicate ord.length (litI .i64 0)) 3,.dead,.dead,.row (List.replicate ord.length (litI .i64 0)) 3,.dead,.row [.own 4 0 ord.length 1 (some ord.length),.own 7 0 ord.length 1 (some ord.length)] 76]:=rfl
 have lA:Ai.load H1 (some 8) (.ptr 0 0)=some (.agg f.cs):=own_agg O1 (cs:=f.cs) (t:=29) (by simp) rfl
 have lA2:Ai.load H2 (some 8) (.ptr 0 0)=some (.agg f.cs):=own_agg O2 (cs:=f.cs) (t:=29) (by simp) rfl
 have l5:Ai.load H3 (some 2) (.ptr 9 0)=some (.agg [.own 4 0 ord.length 1 (some ord.length),.own 7 0 ord.length 1 (some ord.length)]):=own_agg O3 (cs:=[.own 4 0 ord.length 1 (some ord.length),.own 7 0 ord.length 1 (some ord.length)]) (t:=76) (by simp) rfl
 have O4:Own H3 ((1,[.sl 0 [] (some 0),.sl 0 [] (some 0)],76)::([(0,f.cs,29)]++lv 9 4 7 ord.length (firstF ord) (lastF f ord))):=by
  refine O3.perm (uF.trans ?_)
  exact List.Perm.swap ..
 have O5:=O4.set [.own 4 0 ord.length 1 (some ord.length),.own 7 0 ord.length 1 (some ord.length)] 76
 have st1:storeAt H3 2 (.ptr 1 0) (.agg [.own 4 0 ord.length 1 (some ord.length),.own 7 0 ord.length 1 (some ord.length)])=some (setL H3 1 (.row [.own 4 0 ord.length 1 (some ord.length),.own 7 0 ord.length 1 (some ord.length)] 76)):=storeAt_agg O4.head rfl rfl rfl
 generalize setL H3 1 (.row [.own 4 0 ord.length 1 (some ord.length),.own 7 0 ord.length 1 (some ord.length)] 76)=H4 at O5 st1
 have lR:Ai.load H4 (some 2) (.ptr 1 0)=some (.agg [.own 4 0 ord.length 1 (some ord.length),.own 7 0 ord.length 1 (some ord.length)]):=own_agg O5 (cs:=[.own 4 0 ord.length 1 (some ord.length),.own 7 0 ord.length 1 (some ord.length)]) (t:=76) (by simp) rfl
 have fa:=Ord.frz_ints (H:=H4) (p:=4) (k:=13) (c:=some ord.length) (l:=firstF ord) (z:=[]) (t:=3) (n:=ord.length) (by rw[zZ];exact O5.get (4,cellsI (firstF ord),3) (by simp)) rfl (firstF_len ord).symm
 have fb:=Ord.frz_ints (H:=H4) (p:=7) (k:=13) (c:=some ord.length) (l:=lastF f ord) (z:=[]) (t:=3) (n:=ord.length) (by rw[zZ];exact O5.get (7,cellsI (lastF f ord),3) (by simp)) rfl (lastF_len f ord).symm
 refine callV_frz (a:=.agg [.own 4 0 ord.length 1 (some ord.length),.own 7 0 ord.length 1 (some ord.length)]) (H':=H4) (ids:=[4]++([7]++[])) rfl (by obtain⟨e,xs,c,rfl⟩:=hB.cases;rfl) ?_ ?_
 ·refine cw_of fn33 (c:=c33) rfl rfl rfl rfl ?_
  simp -implicitDefEqProofs only[c33,aW,↓aP,makes,reduceLT,reduceEqDiff,reduceAdd,core_box,flat_f,zA,zC,hB.lenV,hm1,hm2,core_build,hb8,st9,L0,lA,hN,Ord.lenV_gX,L2,lA2,hbc,hB2.lenV,L3,l5,st1]
  simp only[zD,fin,fn33,res,resL,resV,get_cons,get_nil,if_true,lR]
 ·rw[show frzF=13+2+1 from rfl,frz]
  simp only[mapL,fa,fb,zD]
end
section
variable {call:CallF}{mt:MtF}{md:FuncId→Md}
theorem reads_slx{A:AV}{l:List Int}{o d:List Obj1}{H:List AO}(S:SlX A l o)(O:Own H (o++d)):Reads H A l:=by
 rcases S with⟨e,rfl,rfl,rfl⟩|⟨p,z,hz,rfl,rfl⟩
 ·exact⟨rfl,fun j x h=>by cases h⟩
 ·exact reads_own O.head
theorem index34r_loop(A:AV)(l:List Int)(p:Int→Bool)(fv:AV)(H:List AO)(R:Reads H A l)(hp:∀x∈l,∀id,fnV cw mds fv [litI .i64 x] H id=some (.wr (litB (p x)) H))(hl:l.length≤1000000):∀(m n:Nat),m+n=l.length →
  loopW (codeW cw (lookM mtl) mds c34l0) [0,1,7,8] [(0,A),(1,fv),(7,litI .i64 l.length),(8,litI .i64 n)] H =
   some (if findF p n (l.drop n) = -1 then(EX.exit 0,[(0,A),(1,fv),(7,litI .i64 l.length),(8,litI .i64 l.length),(9,litB false)],H)else(.ret,[(4,litI .i64 (findF p n (l.drop n)))],H))
 | 0,n,h=>by
  have hn:n=l.length:=by omega
  subst hn
  rw[if_pos (by simp[findF])]
  refine loopW_out ?_ (by simp)
  simp -implicitDefEqProofs only[c34l0,aW,↓aP,makes,reduceLT,reduceEqDiff,reduceAdd,zR]
 | m+1,n,h=>by
  have hn:n<l.length:=by omega
  have hg:l[n]?=some l[n]:=zE hn
  obtain⟨c,hc1,hc2⟩:=R.el n _ hg
  have hlt:(n:Int)<l.length:=by omega
  have hd:l.drop n=l[n]::l.drop (n+1):=zS hn
  have hx:=fun id=>hp l[n] (zV hn) id
  rw[hd,findF]
  cases hc:p l[n]with
  | true =>
   rw[hc]at hx
   rw[cond_true,if_neg (by omega)]
   refine loopW_out ?_ (by simp)
   simp -implicitDefEqProofs only[c34l0,aW,↓aP,makes,reduceLT,reduceEqDiff,reduceAdd,hc1,hc2,hlt,hx]
  | false =>
   rw[hc]at hx
   rw[cond_false]
   refine loopW_round ?_ (index34r_loop A l p fv H R hp hl m (n+1) (by omega))
   simp -implicitDefEqProofs only[c34l0,aW,↓aP,makes,reduceLT,reduceEqDiff,reduceAdd,hc1,hc2,hlt,hx,wrap1 (show n<4611686018427387904 by omega)]
theorem index34r_call(A:AV)(l:List Int)(p:Int→Bool)(fv:AV)(H:List AO)(R:Reads H A l)(hp:∀x∈l,∀id,fnV cw mds fv [litI .i64 x] H id=some (.wr (litB (p x)) H))(hl:l.length≤1000000)(id:Nat) :
  callV cw mds 34 [A,fv] H id=some (.wr (litI .i64 (findF p 0 l)) H):=by
 refine callV_same rfl (cw_of fn34 (c:=c34) rfl rfl rfl rfl ?_) rfl
 have L:=index34r_loop A l p fv H R hp hl l.length 0 (by omega)
 rw[zJ,show((0:Nat):Int)=0 from rfl]at L
 by_cases ha:findF p 0 l = -1
 ·rw[if_pos ha]at L
  rw[ha]
  simp -implicitDefEqProofs only[c34,aW,↓aP,makes,reduceLT,reduceEqDiff,reduceAdd,R.len,L]
  rfl
 ·rw[if_neg ha]at L
  simp -implicitDefEqProofs only[c34,aW,↓aP,makes,reduceLT,reduceEqDiff,reduceAdd,R.len,L]
  rfl
theorem contains38r_call(A:AV)(l:List Int)(p:Int→Bool)(fv:AV)(H:List AO)(R:Reads H A l)(hp:∀x∈l,∀id,fnV cw mds fv [litI .i64 x] H id=some (.wr (litB (p x)) H))(hl:l.length≤1000000)(id:Nat) :
  callV cw mds 38 [A,fv] H id=some (.wr (litB (l.any p)) H):=by
 refine callV_same rfl (cw_of fn38 (c:=c38) rfl rfl rfl rfl ?_) rfl
 have L:=fun id=>index34r_call A l p fv H R hp hl id
 rw[←findF_any p l 0]
 simp -implicitDefEqProofs only[c38,aW,↓aP,makes,reduceLT,reduceEqDiff,reduceAdd,L]
 rfl
def slotOf(i:Nat)(u:List Int):Nat:=if findF (fun x=>decide (x<(i:Int))) 0 u<0 then u.length else(findF (fun x=>decide (x<(i:Int))) 0 u).toNat
def stepU(last:List Int)(i v:Nat)(u:List Int):List Int:=(if findF (fun x=>decide (x<(i:Int))) 0 u<0 then u++[0]else u).set (slotOf i u) (last.getD v 0)
theorem findF_lt(p:Int→Bool):∀(l:List Int)(n:Nat),findF p n l<0∨∃i:Nat,findF p n l=((n+i:Nat):Int)∧i<l.length
 | [],n=>.inl (by simp[findF])
 | x::r,n=>by
  rw[findF]
  cases p x with
  | true=>right;exact⟨0,by simp,by simp⟩
  | false =>
   rw[cond_false]
   rcases findF_lt p r (n+1)with h|⟨i,h1,h2⟩
   ·exact .inl h
   ·right;exact⟨i+1,by rw[h1];congr 1;omega,by simp;omega⟩
theorem slotOf_lt(i:Nat)(u:List Int):slotOf i u≤u.length∧(stepU [] i 0 u).length=max u.length (slotOf i u+1):=by
 unfold stepU slotOf
 rcases findF_lt (fun x=>decide (x<(i:Int))) u 0 with h|⟨j,h1,h2⟩
 ·rw[if_pos h,if_pos h];simp
 ·rw[h1]
  have:¬(((0+j:Nat):Int)<0):=by omega
  rw[if_neg this,if_neg this]
  simp;omega
end
section
variable {call:CallF}{mt:MtF}{md:FuncId→Md}
def plF(last:List Int):Nat→List Int→List Int×List Int→List Int×List Int
 | _,[],s=>s
 | i,v::r,s=>plF last (i+1) r (stepU last i v.toNat s.1,s.2.set v.toNat (slotOf i s.1))
theorem plF_len(last:List Int):∀(r:List Int)(i:Nat)(s:List Int×List Int),(plF last i r s).2.length=s.2.length
 | [],_,_=>rfl
 | v::r,i,s=>by rw[plF,plF_len last r];simp
def planOk(f:FlatV):Bool:=goodOk f&&Ord.okL (NC f)
def slotsF(f:FlatV)(ord:List Int):List Int×List Int:=plF (lastF f ord) 0 ord ([],List.replicate ord.length 0)
theorem ord_facts(g:List (List Int))(h:Ord.okL g=true):(Ord.outL g).length=g.length∧(∀x∈Ord.outL g,0≤x∧x<(g.length:Int))∧(Ord.outL g).Nodup:=by
 obtain⟨ws,K⟩:=Ord.outL_ok g
 have hr:=K.rng
 have hn:=K.nd
 rw[yF]at hr hn
 refine⟨?_,hr,hn⟩
 simp only[Ord.okL,decide_eq_true_eq]at h
 have hm:((Ord.outL g).map Int.toNat).Nodup:=by
  generalize Ord.outL g=l at hr hn
  induction l with
  | nil=>simp
  | cons x l ih =>
   rw[xA]at hn
   rw[yJ,xA]
   refine⟨fun hm=>hn.1 ?_,ih (fun y hy=>hr y (zI _ hy)) hn.2⟩
   obtain⟨y,hy,e⟩:=zW.1 hm
   have h1:=hr x (zM ..)
   have h2:=hr y (zI _ hy)
   rw[show x=y by omega];exact hy
 have:=nodup_le (m:=List.range g.length) hm (fun x hx=>by
  obtain⟨y,hy,rfl⟩:=zW.1 hx
  have:=hr y hy
  rw[yS];omega)
 simp at this;omega
end
section
variable {call:CallF}{mt:MtF}{md:FuncId→Md}
def atF(n:Nat):List Int→Nat→List Int→Option (List Int)
 | at_,_,[]=>some at_
 | at_,i,v::r=>if v<0∨(n:Int)≤v∨0≤at_.getD v.toNat 0 then none else atF n (at_.set v.toNat i) (i+1) r
theorem atF_len(n:Nat):∀(r at_:List Int)(i:Nat)(at':List Int),atF n at_ i r=some at'→at'.length=at_.length
 | [],at_,i,at',h=>by simp only[atF,sI]at h;rw[h]
 | v::r,at_,i,at',h=>by
  rw[atF]at h
  split at h
  ·cases h
  ·rw[atF_len n r _ _ at' h];simp
def behindA(at_:List Int)(v:Nat)(row:List Int):Bool:=!(decide (at_.getD v 0<0))&&!(row.any fun k=>decide (at_.getD k.toNat 0≥at_.getD v 0))
def needsAt(at_:List Int):Nat→List (List Int)→Bool
 | _,[]=>true
 | v,row::g=>behindA at_ v row&&needsAt at_ (v+1) g
def orderedF(f:FlatV)(ord:List Int):Bool:=match atF f.names.length (List.replicate f.names.length (-1)) 0 ord with
 | none=>false
 | some at_=>needsAt at_ 0 (NC f)
abbrev ro(n:Nat)(at_:List Int):List Obj1:=[(1,cellsI at_,3),(2,[.own 1 0 n 1 (some n)],23)]
section
variable {H:List AO}{n:Nat}{at_:List Int}{d:List Obj1}
theorem ro_l(O:Own H (ro n at_++d)):Ai.load H none (.ptr 2 0)=some (.own 1 0 n 1 (some n)):=own_load O (cs:=[.own 1 0 n 1 (some n)]) (t:=23) (by simp) rfl
theorem ro_a(O:Own H (ro n at_++d)){v:Nat}(hv:v<at_.length):Ai.load H none (.ptr 1 v)=some (litI .i64 (at_.getD v 0)):=own_load O (cs:=cellsI at_) (t:=3) (by simp) (by rw[cellsI_at,Ord.getI hv];rfl)
theorem ro_s(O:Own H (ro n at_++d)){v:Nat}(hv:v<at_.length)(x:Int):∃H',storeAt H 1 (.ptr 1 v) (litI .i64 x)=some H'∧Own H' (ro n (at_.set v x)++d):=by
 refine⟨_,store_ptr O.head (by rw[cellsI_len];omega) rfl rfl,?_⟩
 have e:(cellsI at_).set v (litI .i64 x)=cellsI (at_.set v x):=by simp[cellsI]
 rw[e];exact O.set _ 3
end
theorem od_loop0(f1 f2:AV)(n:Nat)(hn:n≤1000000)(d:List Obj1):∀(m i:Nat)(at_:List Int)(H:List AO),m+i=n→at_.length=n→(∀j,j<i→at_.getD j 0 = -1)→Own H (ro n at_++d) →
  ∃H',loopW (codeW cw (lookM mtl) mds c39l0) [1,2,5,17,18] [(1,f1),(2,f2),(5,.ptr 2 0),(17,litI .i64 n),(18,litI .i64 i)] H =
   some (.exit 0,[(1,f1),(2,f2),(5,.ptr 2 0),(17,litI .i64 n),(18,litI .i64 n),(19,litB false)],H')∧Own H' (ro n (List.replicate n (-1))++d)
 | 0,i,at_,H,h,h1,h2,O=>by
  have hi:i=n:=by omega
  subst hi
  refine⟨H,loopW_out ?_ (by simp),?_⟩
  ·simp -implicitDefEqProofs only[c39l0,aW,↓aP,makes,reduceLT,reduceEqDiff,reduceAdd,zR]
  ·have:at_=List.replicate i (-1):=by
    apply List.ext_getElem (by simpa using h1)
    intro j hj _
    have:=h2 j (by omega)
    rw[zF,zE hj]at this
    simpa using this
   rw[←this];exact O
 | m+1,i,at_,H,h,h1,h2,O=>by
  have hi:i<n:=by omega
  have hlt:(i:Int)<n:=by omega
  obtain⟨H1,s1,O1⟩:=ro_s O (v:=i) (by omega) (-1)
  obtain⟨H',L,O'⟩:=od_loop0 f1 f2 n hn d m (i+1) _ H1 (by omega) (by simpa using h1) (fun j hj=>by
   by_cases e:i=j
   ·subst e;rw[zF,yK (by omega)];rfl
   ·rw[zF,yT e,←zF];exact h2 j (by omega)) O1
  have ia:=iadr_ownI (r:=1) (n:=n) (c:=some n) (x:=(i:Int)) (by omega) (by omega)
  rw[xF]at ia
  refine⟨H',loopW_round ?_ L,O'⟩
  simp -implicitDefEqProofs only[c39l0,aW,↓aP,makes,reduceLT,reduceEqDiff,reduceAdd,hlt,ro_l O,ia,s1,wrap1 (show i<4611686018427387904 by omega)]
theorem od_loop1(f2 B:AV)(ord:List Int)(hB:RowA B ord)(n:Nat)(hl:ord.length≤1000000)(d:List Obj1):∀(m i:Nat)(at_:List Int)(H:List AO),m+i=ord.length→at_.length=n→Own H (ro n at_++d) →
  (∀at',atF n at_ i (ord.drop i)=some at'→∃H',loopW (codeW cw (lookM mtl) mds c39l1) [2,5,25,26,27] [(2,f2),(5,.ptr 2 0),(25,B),(26,litI .i64 ord.length),(27,litI .i64 i)] H =
   some (.exit 2,[(2,f2),(5,.ptr 2 0),(25,B),(26,litI .i64 ord.length),(27,litI .i64 ord.length),(28,litB false)],H')∧Own H' (ro n at'++d)) ∧
  (atF n at_ i (ord.drop i)=none→∃H',loopW (codeW cw (lookM mtl) mds c39l1) [2,5,25,26,27] [(2,f2),(5,.ptr 2 0),(25,B),(26,litI .i64 ord.length),(27,litI .i64 i)] H=some (.ret,[(4,litB false)],H'))
 | 0,i,at_,H,h,h1,O=>by
  have hi:i=ord.length:=by omega
  subst hi
  rw[yB,atF]
  refine⟨fun at' e=>⟨H,loopW_out ?_ (by simp),?_⟩,fun e=>by cases e⟩
  ·simp -implicitDefEqProofs only[c39l1,aW,↓aP,makes,reduceLT,reduceEqDiff,reduceAdd,zR]
  ·simp only[sI]at e;rw[←e];exact O
 | m+1,i,at_,H,h,h1,O=>by
  have hi:i<ord.length:=by omega
  have hg:ord[i]?=some ord[i]:=zE hi
  have hlt:(i:Int)<ord.length:=by omega
  rw[zS hi,atF]
  generalize ord[i]=v at hg
  by_cases v0:v<0
  ·rw[if_pos (.inl v0)]
   refine⟨fun at' e=>(by cases e),fun _=>⟨H,loopW_out ?_ (by simp)⟩⟩
   simp -implicitDefEqProofs only[c39l1,aW,↓aP,makes,reduceLT,reduceEqDiff,reduceAdd,hlt,hB.iadr hg,v0]
  by_cases v1:(n:Int)≤v
  ·rw[if_pos (.inr (.inl v1))]
   refine⟨fun at' e=>(by cases e),fun _=>⟨H,loopW_out ?_ (by simp)⟩⟩
   simp -implicitDefEqProofs only[c39l1,aW,↓aP,makes,reduceLT,reduceEqDiff,reduceAdd,hlt,hB.iadr hg,v0,ro_l O,v1]
  have ia:=iadr_ownI (r:=1) (n:=n) (c:=some n) (x:=v) (by omega) (by omega)
  have la:=ro_a O (v:=v.toNat) (by omega)
  by_cases v2:0≤at_.getD v.toNat 0
  ·rw[if_pos (.inr (.inr v2))]
   refine⟨fun at' e=>(by cases e),fun _=>⟨H,loopW_out ?_ (by simp)⟩⟩
   simp -implicitDefEqProofs only[c39l1,aW,↓aP,makes,reduceLT,reduceEqDiff,reduceAdd,hlt,hB.iadr hg,v0,ro_l O,v1,ia,la,v2]
  ·rw[if_neg (by omega)]
   obtain⟨H1,s1,O1⟩:=ro_s O (v:=v.toNat) (by omega) i
   obtain⟨X,Y⟩:=od_loop1 f2 B ord hB n hl d m (i+1) _ H1 (by omega) (by simpa using h1) O1
   have R:codeW cw (lookM mtl) mds c39l1 [(2,f2),(5,.ptr 2 0),(25,B),(26,litI .i64 ord.length),(27,litI .i64 i)] H=some (.normal,[(2,f2),(5,.ptr 2 0),(25,B),(26,litI .i64 ord.length),(27,litI .i64 (i+1:Nat))],H1):=by
    simp -implicitDefEqProofs only[c39l1,aW,↓aP,makes,reduceLT,reduceEqDiff,reduceAdd,hlt,hB.iadr hg,v0,ro_l O,v1,ia,la,v2,s1,wrap1 (show i<4611686018427387904 by omega)]
   refine⟨fun at' e=>?_,fun e=>?_⟩
   ·obtain⟨H',L,O'⟩:=X at' e
    exact⟨H',loopW_round R L,O'⟩
   ·obtain⟨H',L⟩:=Y e
    exact⟨H',loopW_round R L⟩
theorem late68_call{H:List AO}{n v r:Nat}{at_:List Int}{d:List Obj1}(O:Own H (ro n at_++d))(hl:at_.length=n)(hr:Ai.load H none (.ptr r 0)=some (litI .i64 v))(hv:v<n){k:Int}(hk:0≤k∧k<(n:Int))(id:Nat) :
  fnV cw mds (.fn (.func 68) [] [.ptr 2 0,.ptr r 0]) [litI .i64 k] H id=some (.wr (litB (decide (at_.getD k.toNat 0≥at_.getD v 0))) H):=by
 show callV cw mds 68 [litI .i64 k,.ptr 2 0,.ptr r 0] H id=_
 refine callV_same rfl (cw_of fn68 (c:=c68) rfl rfl rfl rfl ?_) rfl
 have ia:=iadr_ownI (r:=1) (n:=n) (c:=some n) (x:=k) (by omega) (by omega)
 have ib:=iadr_ownI (r:=1) (n:=n) (c:=some n) (x:=(v:Int)) (by omega) (by omega)
 rw[xF]at ib
 have la:=ro_a O (v:=k.toNat) (by omega)
 have lb:=ro_a O (v:=v) (by omega)
 simp -implicitDefEqProofs only[c68,aW,↓aP,makes,reduceLT,reduceEqDiff,reduceAdd,ro_l O,hr,ia,ib,la,lb]
 rfl
theorem od_loop2(g:List (List Int))(cs:Nat→Option Nat)(cc:Option Nat)(n:Nat)(hgn:g.length=n)(hn:n≤1000000)(hl:∀r∈g,r.length≤1000000)(hr:∀r∈g,∀x∈r,0≤x∧x<(n:Int))(at_:List Int)(ha:at_.length=n)(d:List Obj1):∀(m i:Nat)(H:List AO),m+i=g.length→Own H (ro n at_++d) →
  ∃H',loopW (codeW cw (lookM mtl) mds c39l2) [5,53,54,55] [(5,.ptr 2 0),(53,Ord.gX cs cc g),(54,litI .i64 g.length),(55,litI .i64 i)] H =
   some (if needsAt at_ i (g.drop i)=true then(.exit 4,[(5,.ptr 2 0),(53,Ord.gX cs cc g),(54,litI .i64 g.length),(55,litI .i64 g.length),(56,litB false)],H')else(.ret,[(4,litB false)],H'))
 | 0,i,H,h,O=>by
  have hi:i=g.length:=by omega
  subst hi
  rw[yB,needsAt]
  refine⟨H,?_⟩
  rw[if_pos rfl]
  refine loopW_out ?_ (by simp)
  simp -implicitDefEqProofs only[c39l2,aW,↓aP,makes,reduceLT,reduceEqDiff,reduceAdd,zR]
 | m+1,i,H,h,O=>by
  have hi:i<g.length:=by omega
  have hg:g[i]?=some g[i]:=zE hi
  have hlt:(i:Int)<g.length:=by omega
  have hx:=hr _ (zV hi)
  have hll:=hl _ (zV hi)
  rw[zS hi,needsAt]
  generalize g[i]=row at hg hx hll
  have O1:Own (H++[.row [litI .i64 i] 3]) (ro n at_++((H.length,[litI .i64 i],3)::d)):=own_newM O _ 3
  have stb:storeAt (H++[.row [litI .i64 0] 3]) 1 (.ptr H.length 0) (litI .i64 i)=some (H++[.row [litI .i64 i] 3]):=by
   rw[store_ptr (get_last H _) (by simp) rfl rfl,setL_last];rfl
  have lb:Ai.load (H++[.row [litI .i64 i] 3]) none (.ptr H.length 0)=some (litI .i64 i):=own_load O1 (cs:=[litI .i64 i]) (t:=3) (by simp) rfl
  have ib:=iadr_ownI (r:=1) (n:=n) (c:=some n) (x:=(i:Int)) (by omega) (by omega)
  rw[xF]at ib
  have lv:=ro_a O1 (v:=i) (by omega)
  have hc:=fun id=>contains38r_call (rowC row (cs i)) row (fun k=>decide (at_.getD k.toNat 0≥at_.getD i 0)) (.fn (.func 68) [] [.ptr 2 0,.ptr H.length 0]) _ (reads_row (RowA.of row _)) (fun x hxm id=>late68_call O1 ha lb (by omega) (hx x hxm) id) hll id
  have hw:=wrap1 (show i<4611686018427387904 by omega)
  have O2:Own (H++[.row [litI .i64 i] 3]) (ro n at_++d):=O.app _
  unfold behindA
  by_cases v0:at_.getD i 0<0
  ·refine⟨H++[.row [litI .i64 i] 3],?_⟩
   ·rw[if_neg (by rw[decide_eq_true v0];simp)]
    refine loopW_out ?_ (by simp)
    simp -implicitDefEqProofs only[c39l2,aW,↓aP,makes,reduceLT,reduceEqDiff,reduceAdd,hlt,Ord.iadr_gX,hg,stb,core_mkf,ro_l O1,lb,ib,lv,v0]
  ·cases hany:row.any (fun k=>decide (at_.getD k.toNat 0≥at_.getD i 0))with
   | true =>
    rw[hany]at hc
    refine⟨H++[.row [litI .i64 i] 3],?_⟩
    ·rw[if_neg (by simp)]
     refine loopW_out ?_ (by simp)
     simp -implicitDefEqProofs only[c39l2,aW,↓aP,makes,reduceLT,reduceEqDiff,reduceAdd,hlt,Ord.iadr_gX,hg,stb,core_mkf,ro_l O1,lb,ib,lv,v0,hc]
   | false =>
    rw[hany]at hc
    obtain⟨H',L⟩:=od_loop2 g cs cc n hgn hn hl hr at_ ha d m (i+1) _ (by omega) O2
    refine⟨H',?_⟩
    rw[show(!decide (at_.getD i 0<0)&&!false&&needsAt at_ (i+1) (g.drop (i+1)))=needsAt at_ (i+1) (g.drop (i+1)) by rw[decide_eq_false v0];rfl]
    refine loopW_round ?_ L
    simp -implicitDefEqProofs only[c39l2,aW,↓aP,makes,reduceLT,reduceEqDiff,reduceAdd,hlt,Ord.iadr_gX,hg,stb,core_mkf,ro_l O1,lb,ib,lv,v0,hc,hw]
theorem ordered_call(f:FlatV)(F:FitsS f)(hG:goodOk f=true){B:AV}{ord:List Int}(hB:RowA B ord)(hl:ord.length≤1000000)(H:List AO)(id:Nat) :
  callV cw mds 39 [flatA f,B] H id=some (.val (litB (orderedF f ord)) none):=by
 have G:=goodF_of hG
 have hnn:=F.names
 have hN:∀H id,callV cw mds 54 [.agg f.cs] H id=some (.val (ncA f) none):=needs54_call f F hG
 have l1:Ai.load [.row f.cs 29] none (.ptr 0 1)=some (strs f.names):=rfl
 have hm1:=mksV_ok (id:=1) (e:=1) (bytes:=8) (z:=[litI .i64 0]) (t:=3) (n:=f.names.length) (by omega) (by omega)
 rw[reps_one]at hm1
 have st:storeAt [.row f.cs 29,.row (List.replicate f.names.length (litI .i64 0)) 3,.row [.sl 0 [] (some 0)] 23] 1 (.ptr 2 0) (.own 1 0 f.names.length 1 (some f.names.length))=some [.row f.cs 29,.row (List.replicate f.names.length (litI .i64 0)) 3,.row [.own 1 0 f.names.length 1 (some f.names.length)] 23]:=rfl
 have l5:Ai.load [.row f.cs 29,.row (List.replicate f.names.length (litI .i64 0)) 3,.row [.own 1 0 f.names.length 1 (some f.names.length)] 23] none (.ptr 2 0)=some (.own 1 0 f.names.length 1 (some f.names.length)):=rfl
 have hz:cellsI (List.replicate f.names.length 0)=List.replicate f.names.length (litI .i64 0):=by simp[cellsI]
 have O:Own ([.row f.cs 29,.row (List.replicate f.names.length (litI .i64 0)) 3,.row [.own 1 0 f.names.length 1 (some f.names.length)] 23]:List AO) (ro f.names.length (List.replicate f.names.length 0)++[(0,f.cs,29)]):=by
  unfold ro
  rw[hz]
  refine⟨by simp,fun x hx=>?_⟩
  simp only[xC,yF,zO,yG,or_false]at hx
  rcases hx with rfl|rfl|rfl<;>rfl
 obtain⟨H1,L0,O1⟩:=od_loop0 B (.ptr 0 0) f.names.length (by omega) _ f.names.length 0 _ _ (by omega) (by simp) (fun j hj=>by omega) O
 rw[show((0:Nat):Int)=0 from rfl]at L0
 obtain⟨X,Y⟩:=od_loop1 (.ptr 0 0) B ord hB f.names.length hl _ ord.length 0 _ H1 (by omega) (by simp) O1
 rw[show((0:Nat):Int)=0 from rfl,zJ]at X Y
 have hw:[flatA f,B].all wholeA=true:=by obtain⟨e,xs,c,rfl⟩:=hB.cases;rfl
 unfold orderedF
 cases ha:atF f.names.length (List.replicate f.names.length (-1)) 0 ord with
 | none =>
  obtain⟨H2,L1⟩:=Y ha
  refine callV_pureA rfl hw (H':=H2) ?_ rfl
  refine cw_of fn39 (c:=c39) rfl rfl rfl rfl ?_
  simp -implicitDefEqProofs only[c39,aW,↓aP,makes,reduceLT,reduceEqDiff,reduceAdd,core_box,flat_f,zA,zC,fadr_ptr,zB,l1,lenV_strs,hm1,st,l5,L0,hB.lenV,L1]
  rfl
 | some at_ =>
  obtain⟨H2,L1,O2⟩:=X at_ ha
  have hal:=atF_len _ _ _ _ _ ha
  rw[xM]at hal
  have lA:Ai.load H2 (some 8) (.ptr 0 0)=some (.agg f.cs):=own_agg O2 (cs:=f.cs) (t:=29) (by simp) rfl
  obtain⟨H3,L2⟩:=od_loop2 (NC f) (fun _=>none) (some f.names.length) f.names.length (NC_len f) (by omega) (fun r hr=>by have:=NC_60 f F G r hr;omega) (NC_rng f F G) at_ hal _ (NC f).length 0 H2 (by omega) O2
  rw[show((0:Nat):Int)=0 from rfl,zJ]at L2
  simp only
  refine callV_pureA rfl hw (H':=H3) ?_ rfl
  refine cw_of fn39 (c:=c39) rfl rfl rfl rfl ?_
  cases hn:needsAt at_ 0 (NC f)with
  | true =>
   rw[if_pos hn]at L2
   simp -implicitDefEqProofs only[c39,aW,↓aP,makes,reduceLT,reduceEqDiff,reduceAdd,core_box,flat_f,zA,zC,fadr_ptr,zB,l1,lenV_strs,hm1,st,l5,L0,hB.lenV,L1,lA,hN,Ord.lenV_gX,L2]
   rfl
  | false =>
   rw[if_neg (by rw[hn];simp)]at L2
   simp -implicitDefEqProofs only[c39,aW,↓aP,makes,reduceLT,reduceEqDiff,reduceAdd,core_box,flat_f,zA,zC,fadr_ptr,zB,l1,lenV_strs,hm1,st,l5,L0,hB.lenV,L1,lA,hN,Ord.lenV_gX,L2]
   rfl
end
section
variable {call:CallF}{mt:MtF}{md:FuncId→Md}
theorem core_lkp{H:List AO}{id:Nat}{fr:Fr}(kk:KK)(ok:Bool)(z:AV)(m x:X):core call mt md H id (.lkp kk ok z m x) fr=valO (lkpV H kk ok z (ev fr m) (ev fr x)):=rfl
theorem core_mup{H:List AO}{id:Nat}{fr:Fr}(kk:KK)(m k x:X):core call mt md H id (.mup kk m k x) fr=wrO .any (mupH H kk (ev fr m) (ev fr k) (ev fr x)):=rfl
theorem core_mkm{H:List AO}{id:Nat}{fr:Fr}:core call mt md H id .mkm fr=some (.val (.mpv id) (some (.mp []))):=rfl
def mpE(L:List (Int×Int)):List (Value×AV):=L.map fun p=>(.int .i64 p.1,litI .i64 p.2)
def findL(k:Int):List (Int×Int)→Nat→Option (Nat×Int)
 | [],_=>none
 | p::r,i=>if p.1=k then some (i,p.2)else findL k r (i+1)
def lookL(L:List (Int×Int))(k:Int):Option Int:=(findL k L 0).map (·.2)
theorem findK_int(k:Int):∀(L:List (Int×Int))(i:Nat),findK (.int .i64) (.int .i64 k) (mpE L) i=some ((findL k L i).map fun p=>(p.1,litI .i64 p.2))
 | [],_=>rfl
 | p::r,i=>by
  simp only[mpE,yJ,findK,findL]
  have hs:sameK (.int .i64) (.int .i64 k) (.int .i64 p.1)=some (decide (p.1=k)):=by
   have h0:sameK (.int .i64) (.int .i64 k) (.int .i64 p.1)=some (k==p.1):=rfl
   rw[h0]
   congr 1
   rw[Bool.eq_iff_iff,beq_iff_eq,decide_eq_true_eq]
   exact eq_comm
  rw[hs]
  by_cases h:p.1=k
  ·simp only[h,decide_true,if_true,yR]
  ·simp only[h,decide_false,if_false]
   exact findK_int k r (i+1)
theorem findL_spec(k:Int):∀(L:List (Int×Int))(i:Nat),(findL k L i=none∧∀p∈L,p.1≠k)∨∃j x,findL k L i=some (i+j,x)∧L[j]?=some (k,x)∧∀p∈L.take j,p.1≠k
 | [],_=>.inl ⟨rfl,by simp⟩
 | p::r,i=>by
  rw[findL]
  by_cases h:p.1=k
  ·right
   refine⟨0,p.2,by rw[if_pos h];rfl,by simp[←h],by simp⟩
  ·rw[if_neg h]
   rcases findL_spec k r (i+1)with⟨h1,h2⟩|⟨j,x,h1,h2,h3⟩
   ·left
    refine⟨h1,fun q hq=>?_⟩
    rcases zO.1 hq with rfl|hq
    ·exact h
    ·exact h2 q hq
   ·right
    refine⟨j+1,x,by rw[h1];congr 2;omega,by simpa using h2,fun q hq=>?_⟩
    rw[vS]at hq
    rcases zO.1 hq with rfl|hq
    ·exact h
    ·exact h3 q hq
theorem findL_skip(k:Int):∀(L M:List (Int×Int))(i:Nat),(∀p∈L,p.1≠k)→findL k (L++M) i=findL k M (i+L.length)
 | [],_,_,_=>by simp
 | p::r,M,i,h=>by
  rw[xC,findL,if_neg (h p (zM ..)),findL_skip k r M (i+1) fun q hq=>h q (zI _ hq)]
  congr 1;simp;omega
def MapIs(L:List (Int×Int))(m:Int→Option Int):Prop:=∀k,lookL L k=m k
theorem keyOf_int(k:Int):Ai.keyOf (.int .i64) (litI .i64 k)=some (.int .i64 k):=rfl
theorem lkp_int{H:List AO}{r:Nat}{L:List (Int×Int)}{m:Int→Option Int}(h:H[r]?=some (.mp (mpE L)))(M:MapIs L m)(k:Int) :
  lkpV H (.int .i64) true (litI .i64 0) (.mpv r) (litI .i64 k)=some (match m k with|some x=>.tup [litI .i64 x,litB true]|none=>.tup [litI .i64 0,litB false]):=by
 have h0:=M k
 unfold lookL at h0
 simp only[lkpV,mapAt,h,zD,keyOf_int,findK_int]
 cases hf:findL k L 0 with
 | none=>rw[hf]at h0;simp only[Option.map_none]at h0;rw[←h0];rfl
 | some p=>rw[hf]at h0;simp only[yR]at h0;rw[←h0];rfl
theorem mup_int{H:List AO}{r:Nat}{L:List (Int×Int)}{m:Int→Option Int}(h:H[r]?=some (.mp (mpE L)))(M:MapIs L m)(k x:Int) :
  ∃L',mupH H (.int .i64) (.mpv r) (litI .i64 k) (litI .i64 x)=some (setL H r (.mp (mpE L')))∧MapIs L' fun j=>if j=k then some x else m j:=by
 rcases findL_spec k L 0 with⟨h1,h2⟩|⟨j,y,h1,h2,h3⟩
 ·refine⟨L++[(k,x)],?_,fun j=>?_⟩
  ·simp only[mupH,mapAt,h,zD,keyOf_int,findK_int,h1,Option.map_none]
   simp[mpE]
  ·by_cases e:j=k
   ·subst e
    unfold lookL
    rw[findL_skip j L _ 0 h2];simp[findL]
   ·simp only[e,if_false]
    rw[←M j]
    unfold lookL
    rcases findL_spec j L 0 with⟨k1,k2⟩|⟨i,z,k1,k2,k3⟩
    ·rw[findL_skip j L _ 0 k2,k1];simp[findL,Ne.symm e]
    ·have hs:L=L.take i++(j,z)::L.drop (i+1):=by
      have hlt:=(zG.1 k2).1
      have:=zS hlt
      rw[(zG.1 k2).2]at this
      rw[←this,uQ]
     rw[k1]
     rw[hs,zU,findL_skip j _ _ 0 k3]
     simp[findL]
 ·rw[zB]at h1
  have hlt:=(zG.1 h2).1
  have hs:L=L.take j++(k,y)::L.drop (j+1):=by
   have:=zS hlt
   rw[(zG.1 h2).2]at this
   rw[←this,uQ]
  have hset:L.set j (k,x)=L.take j++(k,x)::L.drop (j+1):=by
   rw[List.set_eq_take_append_cons_drop,if_pos hlt]
  refine⟨L.set j (k,x),?_,fun i=>?_⟩
  ·simp only[mupH,mapAt,h,zD,keyOf_int,findK_int,h1,yR]
   simp[mpE,uG]
  ·by_cases e:i=k
   ·subst e
    unfold lookL
    rw[hset,findL_skip i _ _ 0 h3];simp[findL]
   ·simp only[e,if_false]
    rw[←M i]
    rcases findL_spec i (L.take j) 0 with⟨k1,k2⟩|⟨a,z,k1,k2,k3⟩
    ·unfold lookL
     rw[hset,findL_skip i _ _ 0 k2]
     conv=>rhs;rw[hs,findL_skip i _ _ 0 k2]
     simp[findL,Ne.symm e]
    ·have hsp:L.take j=(L.take j).take a++(i,z)::(L.take j).drop (a+1):=by
      have hlt:=(zG.1 k2).1
      have:=zS hlt
      rw[(zG.1 k2).2]at this
      rw[←this,uQ]
     unfold lookL
     rw[hset,hsp,zU,findL_skip i _ _ 0 k3]
     conv=>rhs;rw[hs,hsp,zU,findL_skip i _ _ 0 k3]
     simp[findL]
end
section
variable {call:CallF}{mt:MtF}{md:FuncId→Md}
def liesOk(last slots:List Int):Nat→List Int→(Int→Option Int)→Bool
 | _,[],_=>true
 | i,v::r,m=>(match m (slots.getD v.toNat 0)with|some old=>decide (last.getD old.toNat 0<(i:Int))|none=>true) &&
  liesOk last slots (i+1) r fun j=>if j=slots.getD v.toNat 0 then some v else m j
def rightF(f:FlatV)(ord slots:List Int)(m:Int):Bool :=
 goodOk f&&((ord.length:Int)==(f.names.length:Int))&&((slots.length:Int)==(f.names.length:Int))&&!(slots.any fun s=>decide (s<0)||decide (s≥m))&&orderedF f ord&&liesOk (lastF f ord) slots 0 ord fun _=>none
theorem strange36_call{H:List AO}{O S:AV}{m:Int}(h:H[1]?=some (.row [O,S,litI .i64 m] 32))(x:Int)(id:Nat) :
  fnV cw mds (.fn (.func 36) [] [.ptr 1 0]) [litI .i64 x] H id=some (.wr (litB (decide (x<0)||decide (x≥m))) H):=by
 show callV cw mds 36 [litI .i64 x,.ptr 1 0] H id=_
 refine callV_same rfl (cw_of fn36 (c:=c36) rfl rfl rfl rfl ?_) rfl
 have l2:Ai.load H none (.ptr 1 2)=some (litI .i64 m):=by rw[load_ptr h];rfl
 by_cases h0:x<0
 ·simp -implicitDefEqProofs only[c36,aW,↓aP,makes,reduceLT,reduceEqDiff,reduceAdd,h0]
  rfl
 ·simp -implicitDefEqProofs only[c36,aW,↓aP,makes,reduceLT,reduceEqDiff,reduceAdd,h0,fadr_ptr,zB,l2]
  rfl
def rgH(f:FlatV)(O S:AV)(m:Int)(first last:List Int)(c1 c2:Option Nat)(L:List (Int×Int)):List AO:=[.row f.cs 29,.row [O,S,litI .i64 m] 32,.row [rowC first c1,rowC last c2] 76,.mp (mpE L)]
theorem rg_loop(f:FlatV)(O S:AV)(ord slots:List Int)(hO:RowA O ord)(hS:RowA S slots)(mm:Int)(first last:List Int)(c1 c2:Option Nat)(n:Nat)(hl:ord.length≤1000000)(hsl:slots.length=n)(hll:last.length=n)(hr:∀x∈ord,0≤x∧x<(n:Int)):∀(k i:Nat)(L:List (Int×Int))(m:Int→Option Int),k+i=ord.length→MapIs L m→(∀j x,m j=some x→0≤x∧x<(n:Int)) →
  ∃H',loopW (codeW cw (lookM mtl) mds c19l0) [3,7,8,53,54,55] [(3,.ptr 1 0),(7,.ptr 2 0),(8,.mpv 3),(53,O),(54,litI .i64 ord.length),(55,litI .i64 i)] (rgH f O S mm first last c1 c2 L) =
   some (if liesOk last slots i (ord.drop i) m=true then(.exit 0,[(3,.ptr 1 0),(7,.ptr 2 0),(8,.mpv 3),(53,O),(54,litI .i64 ord.length),(55,litI .i64 ord.length),(56,litB false)],H')else(.ret,[(4,litB false)],H'))
 | 0,i,L,m,h,M,hm=>by
  have hi:i=ord.length:=by omega
  subst hi
  rw[yB,liesOk]
  refine⟨rgH f O S mm first last c1 c2 L,?_⟩
  rw[if_pos rfl]
  refine loopW_out ?_ (by simp)
  simp -implicitDefEqProofs only[c19l0,aW,↓aP,makes,reduceLT,reduceEqDiff,reduceAdd,zR]
 | k+1,i,L,m,h,M,hm=>by
  have hi:i<ord.length:=by omega
  have hg:ord[i]?=some ord[i]:=zE hi
  have hlt:(i:Int)<ord.length:=by omega
  have hx:=hr _ (zV hi)
  rw[zS hi,liesOk]
  generalize ord[i]=v at hg hx
  have lS:Ai.load (rgH f O S mm first last c1 c2 L) none (.ptr 1 1)=some S:=rfl
  have lL:Ai.load (rgH f O S mm first last c1 c2 L) none (.ptr 2 1)=some (rowC last c2):=rfl
  have iS:iadr 1 S (litI .i64 v)=some (.ip [litI .i64 (slots.getD v.toNat 0)]):=by
   have:=hS.iadr (n:=v.toNat) (x:=slots.getD v.toNat 0) (Ord.getI (by omega))
   rw[wR hx.1]at this
   exact this
  have hk:=lkp_int (H:=rgH f O S mm first last c1 c2 L) (r:=3) rfl M (slots.getD v.toNat 0)
  obtain⟨L',hu,M'⟩:=mup_int (H:=rgH f O S mm first last c1 c2 L) (r:=3) rfl M (slots.getD v.toNat 0) v
  rw[show setL (rgH f O S mm first last c1 c2 L) 3 (.mp (mpE L'))=rgH f O S mm first last c1 c2 L' from rfl]at hu
  obtain⟨H',ih⟩:=rg_loop f O S ord slots hO hS mm first last c1 c2 n hl hsl hll hr k (i+1) L' _ (by omega) M' (fun j x hj=>by
   by_cases e:j=slots.getD v.toNat 0
   ·rw[if_pos e]at hj;simp only[sI]at hj;rw[←hj];exact hx
   ·rw[if_neg e]at hj;exact hm j x hj)
  have hw:=wrap1 (show i<4611686018427387904 by omega)
  cases hmk:m (slots.getD v.toNat 0)with
  | none =>
   rw[hmk]at hk
   refine⟨H',?_⟩
   rw[zQ]
   refine loopW_round ?_ ih
   simp -implicitDefEqProofs only[c19l0,aW,↓aP,makes,reduceLT,reduceEqDiff,reduceAdd,hlt,hO.iadr hg,fadr_ptr,zB,lS,iS,load_ip1,core_lkp,core_mup,hk,hu,hw]
  | some old =>
   rw[hmk]at hk
   have ho:=hm _ old hmk
   have iL:iadr 1 (rowC last c2) (litI .i64 old)=some (.ip [litI .i64 (last.getD old.toNat 0)]):=by
    have:=iadr_row last c2 old.toNat
    rw[wR ho.1,Ord.getI (by omega)]at this
    exact this
   by_cases hge:last.getD old.toNat 0≥(i:Int)
   ·have hlt2:¬last.getD old.toNat 0<(i:Int):=by omega
    refine⟨rgH f O S mm first last c1 c2 L,?_⟩
    simp only[decide_eq_false hlt2,zP]
    rw[if_neg (by simp)]
    refine loopW_out ?_ (by simp)
    simp -implicitDefEqProofs only[c19l0,aW,↓aP,makes,reduceLT,reduceEqDiff,reduceAdd,hlt,hO.iadr hg,fadr_ptr,zB,lS,iS,load_ip1,core_lkp,core_mup,hk,lL,iL,hge]
   ·have hlt2:last.getD old.toNat 0<(i:Int):=by omega
    refine⟨H',?_⟩
    simp only[decide_eq_true hlt2,zQ]
    refine loopW_round ?_ ih
    simp -implicitDefEqProofs only[c19l0,aW,↓aP,makes,reduceLT,reduceEqDiff,reduceAdd,hlt,hO.iadr hg,fadr_ptr,zB,lS,iS,load_ip1,core_lkp,core_mup,hk,lL,iL,hge,hu,hw]
theorem atF_rng(n:Nat):∀(r at_:List Int)(i:Nat)(at':List Int),atF n at_ i r=some at'→∀x∈r,0≤x∧x<(n:Int)
 | [],_,_,_,_=>by simp
 | v::r,at_,i,at',h=>by
  rw[atF]at h
  split at h
  ·cases h
  ·rename_i hc
   intro x hx
   rcases zO.1 hx with rfl|hx
   ·omega
   ·exact atF_rng n r _ _ at' h x hx
theorem pright_call(f:FlatV)(F:FitsS f){O S:AV}{ord slots:List Int}(hO:RowA O ord)(hS:RowA S slots)(hlo:ord.length≤1000000)(hls:slots.length≤1000000)(m:Int)(H:List AO)(id:Nat) :
  callV cw mds 19 [flatA f,planA O S m] H id=some (.val (litB (rightF f ord slots m)) none):=by
 obtain⟨eO,xO,cO,eqO⟩:=hO.cases
 obtain⟨eS,xS,cS,eqS⟩:=hS.cases
 have hw:[flatA f,planA O S m].all wholeA=true:=by rw[eqO,eqS];rfl
 suffices hs:∃H',cw 19 [flatA f,planA O S m] []=some (.ret (litB (rightF f ord slots m)),H') by
  obtain⟨H',h⟩:=hs
  exact callV_pureA rfl hw h rfl
 have hgc:∀H id,callV cw mds 37 [.agg f.cs] H id=some (.val (litB (goodOk f)) none):=fun H id=>good_call f F.fits H id
 have hb:∀id,boxV id 3 (planA O S m) 32=some (.val (.ptr id 0) (some (.row [O,S,litI .i64 m] 32))):=fun id=>boxV_agg rfl (by simp[hO.cell.1,hS.cell.1];rfl)
 have lA:Ai.load [.row f.cs 29,.row [O,S,litI .i64 m] 32] (some 8) (.ptr 0 0)=some (.agg f.cs):=load_agg rfl rfl
 have l1:Ai.load [.row f.cs 29,.row [O,S,litI .i64 m] 32] none (.ptr 0 1)=some (strs f.names):=rfl
 have k0:Ai.load [.row f.cs 29,.row [O,S,litI .i64 m] 32] none (.ptr 1 0)=some O:=rfl
 have k1:Ai.load [.row f.cs 29,.row [O,S,litI .i64 m] 32] none (.ptr 1 1)=some S:=rfl
 unfold rightF
 cases hG:goodOk f with
 | false =>
  rw[hG]at hgc
  refine⟨_,cw_of fn19 (c:=c19) (r:=(.ret (litB false),[.row f.cs 29,.row [O,S,litI .i64 m] 32])) rfl rfl rfl rfl ?_⟩
  simp -implicitDefEqProofs only[c19,aW,↓aP,makes,reduceLT,reduceEqDiff,reduceAdd,core_box,flat_f,hb,zA,zC,fadr_ptr,zB,l1,lenV_strs,core_mkf,lA,hgc]
  rfl
 | true =>
 rw[hG]at hgc
 cases e1:((ord.length:Int)==(f.names.length:Int))with
 | false =>
  have e1':((ord.length:Int) != (f.names.length:Int))=true:=by rw[bne,e1];rfl
  refine⟨_,cw_of fn19 (c:=c19) (r:=(.ret (litB false),[.row f.cs 29,.row [O,S,litI .i64 m] 32])) rfl rfl rfl rfl ?_⟩
  simp -implicitDefEqProofs only[c19,aW,↓aP,makes,reduceLT,reduceEqDiff,reduceAdd,core_box,flat_f,hb,zA,zC,fadr_ptr,zB,l1,lenV_strs,core_mkf,lA,hgc,k0,hO.lenV,e1']
  rfl
 | true =>
 have e1':((ord.length:Int) != (f.names.length:Int))=false:=by rw[bne,e1];rfl
 cases e2:((slots.length:Int)==(f.names.length:Int))with
 | false =>
  have e2':((slots.length:Int) != (f.names.length:Int))=true:=by rw[bne,e2];rfl
  refine⟨_,cw_of fn19 (c:=c19) (r:=(.ret (litB false),[.row f.cs 29,.row [O,S,litI .i64 m] 32])) rfl rfl rfl rfl ?_⟩
  simp -implicitDefEqProofs only[c19,aW,↓aP,makes,reduceLT,reduceEqDiff,reduceAdd,core_box,flat_f,hb,zA,zC,fadr_ptr,zB,l1,lenV_strs,core_mkf,lA,hgc,k0,hO.lenV,e1',k1,hS.lenV,e2']
  rfl
 | true =>
 have e2':((slots.length:Int) != (f.names.length:Int))=false:=by rw[bne,e2];rfl
 have hc:=fun id=>contains38r_call S slots (fun s=>decide (s<0)||decide (s≥m)) (.fn (.func 36) [] [.ptr 1 0]) [.row f.cs 29,.row [O,S,litI .i64 m] 32] (reads_row hS) (fun x _ id=>strange36_call rfl x id) hls id
 cases e3:slots.any (fun s=>decide (s<0)||decide (s≥m))with
 | true =>
  rw[e3]at hc
  refine⟨_,cw_of fn19 (c:=c19) (r:=(.ret (litB false),[.row f.cs 29,.row [O,S,litI .i64 m] 32])) rfl rfl rfl rfl ?_⟩
  simp -implicitDefEqProofs only[c19,aW,↓aP,makes,reduceLT,reduceEqDiff,reduceAdd,core_box,flat_f,hb,zA,zC,fadr_ptr,zB,l1,lenV_strs,core_mkf,lA,hgc,k0,hO.lenV,e1',k1,hS.lenV,e2',hc]
  rfl
 | false =>
 rw[e3]at hc
 have hod:∀H id,callV cw mds 39 [.agg f.cs,O] H id=some (.val (litB (orderedF f ord)) none):=fun H id=>ordered_call f F hG hO hlo H id
 cases e4:orderedF f ord with
 | false =>
  rw[e4]at hod
  refine⟨_,cw_of fn19 (c:=c19) (r:=(.ret (litB false),[.row f.cs 29,.row [O,S,litI .i64 m] 32])) rfl rfl rfl rfl ?_⟩
  simp -implicitDefEqProofs only[c19,aW,↓aP,makes,reduceLT,reduceEqDiff,reduceAdd,core_box,flat_f,hb,zA,zC,fadr_ptr,zB,l1,lenV_strs,core_mkf,lA,hgc,k0,hO.lenV,e1',k1,hS.lenV,e2',hc,hod]
  rfl
 | true =>
 rw[e4]at hod
 have hol:ord.length=f.names.length:=by have:=eq_of_beq e1;omega
 have hsl:slots.length=f.names.length:=by have:=eq_of_beq e2;omega
 have hr:∀x∈ord,0≤x∧x<(f.names.length:Int):=by
  unfold orderedF at e4
  cases ha:atF f.names.length (List.replicate f.names.length (-1)) 0 ord with
  | none=>rw[ha]at e4;cases e4
  | some at_=>exact atF_rng _ _ _ _ at_ ha
 have hof:∀H id,callV cw mds 33 [.agg f.cs,O] H id=some (.val (.agg [rowC (firstF ord) (some ord.length),rowC (lastF f ord) (some ord.length)]) none):=fun H id=>of_call f F hG hO hol hr H id
 have st:storeAt [.row f.cs 29,.row [O,S,litI .i64 m] 32,.row [.sl 0 [] (some 0),.sl 0 [] (some 0)] 76] 2 (.ptr 2 0) (.agg [rowC (firstF ord) (some ord.length),rowC (lastF f ord) (some ord.length)])=some [.row f.cs 29,.row [O,S,litI .i64 m] 32,.row [rowC (firstF ord) (some ord.length),rowC (lastF f ord) (some ord.length)] 76]:=by
  rw[storeAt_agg (r:=2) (n:=2) (cs:=[.sl 0 [] (some 0),.sl 0 [] (some 0)]) (t:=76) rfl rfl rfl rfl];rfl
 have k0':Ai.load [.row f.cs 29,.row [O,S,litI .i64 m] 32,.row [rowC (firstF ord) (some ord.length),rowC (lastF f ord) (some ord.length)] 76,.mp []] none (.ptr 1 0)=some O:=rfl
 obtain⟨H',L⟩:=rg_loop f O S ord slots hO hS m (firstF ord) (lastF f ord) (some ord.length) (some ord.length) f.names.length hlo hsl (by rw[lastF_len,hol]) hr ord.length 0 [] (fun _=>none) (by omega) (fun k=>rfl) (fun j x h=>by cases h)
 rw[show((0:Nat):Int)=0 from rfl,zJ,show rgH f O S m (firstF ord) (lastF f ord) (some ord.length) (some ord.length) []=[.row f.cs 29,.row [O,S,litI .i64 m] 32,.row [rowC (firstF ord) (some ord.length),rowC (lastF f ord) (some ord.length)] 76,.mp []]from rfl]at L
 cases e5:liesOk (lastF f ord) slots 0 ord (fun _=>none)with
 | true =>
  rw[if_pos e5]at L
  refine⟨H',cw_of fn19 (c:=c19) rfl rfl rfl rfl ?_⟩
  simp -implicitDefEqProofs only[c19,aW,↓aP,makes,reduceLT,reduceEqDiff,reduceAdd,core_box,flat_f,hb,zA,zC,fadr_ptr,zB,l1,lenV_strs,core_mkf,lA,hgc,k0,hO.lenV,e1',k1,hS.lenV,e2',hc,hod,hof,st,core_mkm,k0',L]
  rfl
 | false =>
  rw[if_neg (by rw[e5];simp)]at L
  refine⟨H',cw_of fn19 (c:=c19) rfl rfl rfl rfl ?_⟩
  simp -implicitDefEqProofs only[c19,aW,↓aP,makes,reduceLT,reduceEqDiff,reduceAdd,core_box,flat_f,hb,zA,zC,fadr_ptr,zB,l1,lenV_strs,core_mkf,lA,hgc,k0,hO.lenV,e1',k1,hS.lenV,e2',hc,hod,hof,st,core_mkm,k0',L]
  rfl
end
section
variable {call:CallF}{mt:MtF}{md:FuncId→Md}
def needR(f:FlatV)(q:Eqn):List Int:=q.args++(if q.guard≥0 then [q.guard]else [])++begF f q
theorem need22_call(f:FlatV)(F:FitsS f)(q:Eqn)(hq:q.args.length≤30)(K:KOk f q):∃B,RowA B (needR f q)∧∀H id,callV cw mds 22 [.agg f.cs,.agg q.cs] H id=some (.val B none):=by
 have hbl:=begF_len f F q K
 have O0:Own [AO.row f.cs 29,.row q.cs 60] ([]++[(0,f.cs,29),(1,q.cs,60)]):=by
  refine⟨by simp,fun x hx=>?_⟩
  simp only[yF,zO,yG,or_false]at hx
  rcases hx with rfl|rfl<;>rfl
 have l2:Ai.load [.row f.cs 29,.row q.cs 60] none (.ptr 1 2)=some (rowC q.args none):=rfl
 obtain⟨A1,o1,H1,ap1,S1,O1⟩:=(SlX.nil 1).append O0 (RowA.of q.args none) (by simp;omega)
 simp only[zC,zA,zB,reduceAdd]at ap1
 rw[yF]at S1
 have l9:Ai.load H1 none (.ptr 1 9)=some (litI .i64 q.guard):=own_load O1 (cs:=q.cs) (t:=60) (by simp) rfl
 suffices hs:∃A o H',cw 22 [.agg f.cs,.agg q.cs] []=some (.ret A,H')∧SlX A (needR f q) o∧Own H' o by
  obtain⟨A,o,H',h,S,O⟩:=hs
  obtain⟨B,h1,_,h2⟩:=callV_frz1 (H:=[]) (id:=0) rfl rfl h S O
  exact⟨B,h1,h2⟩
 by_cases hg:q.guard≥0
 ·obtain⟨A2,o2,H2,ap2,S2,O2⟩:=S1.append O1 (RowA.of [q.guard] (some 1)) (by simp;omega)
  have la:Ai.load H2 none (.ptr 1 1)=some (litS q.op):=own_load O2 (cs:=q.cs) (t:=60) (by simp) rfl
  have lk:Ai.load H2 none (.ptr 1 3)=some (litI .i64 q.k):=own_load O2 (cs:=q.cs) (t:=60) (by simp) rfl
  have l4:Ai.load H2 none (.ptr 0 4)=some (memsA f.mems):=own_load O2 (cs:=f.cs) (t:=29) (by simp) rfl
  have l5:Ai.load H2 none (.ptr 0 5)=some (contsA f.conts):=own_load O2 (cs:=f.cs) (t:=29) (by simp) rfl
  cases hm:isS q.op [109,101,109]with
  | true =>
   obtain⟨m,h1,h2,h3⟩:=iadr_memsI (K.m hm)
   have hk:isS q.op [99,111,110,116]=false:=isS_ne hm rfl
   have hml:=F.mres m (zX h1)
   obtain⟨A3,o3,H3,ap3,S3,O3⟩:=S2.append O2 (RowA.of m.resets none) (by simp;omega)
   have la3:Ai.load H3 none (.ptr 1 1)=some (litS q.op):=own_load O3 (cs:=q.cs) (t:=60) (by simp) rfl
   refine⟨A3,o3,H3,?_,?_,O3.sub (xZ ..)⟩
   ·refine cw_of fn22 (c:=c22) rfl rfl rfl rfl ?_
    simp -implicitDefEqProofs only[c22,aW,↓aP,makes,reduceLT,reduceEqDiff,reduceAdd,core_box,rt_b8 f,eq_b10 q,core_bsl,bslV_0,bslV_1r,zA,zC,yA,fadr_ptr,fadr_ip,zB,zK,reduceAdd,l2,ap1.opS,l9,hg,ap2.opS,bin_isS,la,lk,hm,l4,h2,mem_h7,ap3.opS,la3,hk]
    rfl
   ·unfold needR begF
    rw[hm,cond_true,h3];rw[if_pos hg];exact S3
  | false =>
   cases hk:isS q.op [99,111,110,116]with
   | true =>
    obtain⟨m,h1,h2,h3⟩:=iadr_contsI (K.k hk)
    have hml:=F.cres m (zX h1)
    obtain⟨A3,o3,H3,ap3,S3,O3⟩:=S2.append O2 (RowA.of m.resets none) (by simp;omega)
    refine⟨A3,o3,H3,?_,?_,O3.sub (xZ ..)⟩
    ·refine cw_of fn22 (c:=c22) rfl rfl rfl rfl ?_
     simp -implicitDefEqProofs only[c22,aW,↓aP,makes,reduceLT,reduceEqDiff,reduceAdd,core_box,rt_b8 f,eq_b10 q,core_bsl,bslV_0,bslV_1r,zA,zC,yA,fadr_ptr,fadr_ip,zB,zK,reduceAdd,l2,ap1.opS,l9,hg,ap2.opS,bin_isS,la,lk,hm,hk,l5,h2,cont_h7,ap3.opS]
     rfl
    ·unfold needR begF
     rw[hm,hk,cond_false,cond_true,h3];rw[if_pos hg];exact S3
   | false =>
    refine⟨A2,o2,H2,?_,?_,O2.sub (xZ ..)⟩
    ·refine cw_of fn22 (c:=c22) rfl rfl rfl rfl ?_
     simp -implicitDefEqProofs only[c22,aW,↓aP,makes,reduceLT,reduceEqDiff,reduceAdd,core_box,rt_b8 f,eq_b10 q,core_bsl,bslV_0,bslV_1r,zA,zC,yA,fadr_ptr,fadr_ip,zB,zK,reduceAdd,l2,ap1.opS,l9,hg,ap2.opS,bin_isS,la,lk,hm,hk]
     rfl
    ·unfold needR begF
     rw[hm,hk,cond_false,cond_false];rw[if_pos hg,zZ];exact S2
 ·skip
  have la:Ai.load H1 none (.ptr 1 1)=some (litS q.op):=own_load O1 (cs:=q.cs) (t:=60) (by simp) rfl
  have lk:Ai.load H1 none (.ptr 1 3)=some (litI .i64 q.k):=own_load O1 (cs:=q.cs) (t:=60) (by simp) rfl
  have l4:Ai.load H1 none (.ptr 0 4)=some (memsA f.mems):=own_load O1 (cs:=f.cs) (t:=29) (by simp) rfl
  have l5:Ai.load H1 none (.ptr 0 5)=some (contsA f.conts):=own_load O1 (cs:=f.cs) (t:=29) (by simp) rfl
  cases hm:isS q.op [109,101,109]with
  | true =>
   obtain⟨m,h1,h2,h3⟩:=iadr_memsI (K.m hm)
   have hk:isS q.op [99,111,110,116]=false:=isS_ne hm rfl
   have hml:=F.mres m (zX h1)
   obtain⟨A3,o3,H3,ap3,S3,O3⟩:=S1.append O1 (RowA.of m.resets none) (by omega)
   have la3:Ai.load H3 none (.ptr 1 1)=some (litS q.op):=own_load O3 (cs:=q.cs) (t:=60) (by simp) rfl
   refine⟨A3,o3,H3,?_,?_,O3.sub (xZ ..)⟩
   ·refine cw_of fn22 (c:=c22) rfl rfl rfl rfl ?_
    simp -implicitDefEqProofs only[c22,aW,↓aP,makes,reduceLT,reduceEqDiff,reduceAdd,core_box,rt_b8 f,eq_b10 q,core_bsl,bslV_0,bslV_1r,zA,zC,yA,fadr_ptr,fadr_ip,zB,zK,reduceAdd,l2,ap1.opS,l9,hg,bin_isS,la,lk,hm,l4,h2,mem_h7,ap3.opS,la3,hk]
    rfl
   ·unfold needR begF
    rw[hm,cond_true,h3];rw[if_neg hg,zZ];exact S3
  | false =>
   cases hk:isS q.op [99,111,110,116]with
   | true =>
    obtain⟨m,h1,h2,h3⟩:=iadr_contsI (K.k hk)
    have hml:=F.cres m (zX h1)
    obtain⟨A3,o3,H3,ap3,S3,O3⟩:=S1.append O1 (RowA.of m.resets none) (by omega)
    refine⟨A3,o3,H3,?_,?_,O3.sub (xZ ..)⟩
    ·refine cw_of fn22 (c:=c22) rfl rfl rfl rfl ?_
     simp -implicitDefEqProofs only[c22,aW,↓aP,makes,reduceLT,reduceEqDiff,reduceAdd,core_box,rt_b8 f,eq_b10 q,core_bsl,bslV_0,bslV_1r,zA,zC,yA,fadr_ptr,fadr_ip,zB,zK,reduceAdd,l2,ap1.opS,l9,hg,bin_isS,la,lk,hm,hk,l5,h2,cont_h7,ap3.opS]
     rfl
    ·unfold needR begF
     rw[hm,hk,cond_false,cond_true,h3];rw[if_neg hg,zZ];exact S3
   | false =>
    refine⟨A1,o1,H1,?_,?_,O1.sub (xZ ..)⟩
    ·refine cw_of fn22 (c:=c22) rfl rfl rfl rfl ?_
     simp -implicitDefEqProofs only[c22,aW,↓aP,makes,reduceLT,reduceEqDiff,reduceAdd,core_box,rt_b8 f,eq_b10 q,core_bsl,bslV_0,bslV_1r,zA,zC,yA,fadr_ptr,fadr_ip,zB,zK,reduceAdd,l2,ap1.opS,l9,hg,bin_isS,la,lk,hm,hk]
     rfl
    ·unfold needR begF
     rw[hm,hk,cond_false,cond_false];rw[if_neg hg,zZ,zZ];exact S1
end
end Go.Proofs.Ytcgbdndkfonphaa.Ai
