/- Seat of layers 14 and 15: what an equation's operation asks. No condition. -/
import Derived.Test.YtcgbdndkfonphaaG6
set_option linter.unusedSimpArgs false
set_option linter.unusedVariables false
set_option linter.unusedSectionVars false
open Nat (reduceLT reduceEqDiff reduceAdd)
namespace Go.Proofs.Ytcgbdndkfonphaa.Ai
open Go Go.Ai
section
def isS(s:ByteArray)(l:List Nat):Bool:=s.data.toList==(bs l).data.toList
theorem bin_isS(a:ByteArray)(l:List Nat):bin .eql (litS a) (litS (bs l))=some (litB (isS a l)):=rfl
def isOne(q:Eqn):Bool:=isS q.op [99,111,112,121]||isS q.op [110,101,103]||isS q.op [110,111,116]||isS q.op [102,108,111,111,114]||isS q.op [114,97,116]
def isTwo(q:Eqn):Bool:=isS q.op [103,97,110,100]||isS q.op [109,114,103]
def isBin(q:Eqn):Bool:=isS q.op [43]||isS q.op [45]||isS q.op [42]||isS q.op [47]||isS q.op [100,105,118]||isS q.op [109,111,100]||isS q.op [60]||isS q.op [60,61]||isS q.op [62]||isS q.op [62,61]||isS q.op [61,61]||isS q.op [33,61]||isS q.op [97,110,100]||isS q.op [111,114]
def len0(q:Eqn):Bool:=(q.args.length:Int)==0
def eqOk(f:FlatV)(q:Eqn):Bool :=
 bif isS q.op [108,105,116]then len0 q else bif isS q.op [105,110]then len0 q&&inN f.ins.length q.k else bif isS q.op [109,101,109]then len0 q&&inN f.mems.length q.k
 else bif isS q.op [99,111,110,116]then len0 q&&inN f.conts.length q.k else bif isS q.op [102,108,97,103]then len0 q&&inN f.cross.length q.k
 else bif isOne q then(q.args.length:Int)==1 else bif isTwo q then decide ((q.args.length:Int) > 0)else bif isS q.op [115,101,108]then(q.args.length:Int)==3 else bif isBin q then(q.args.length:Int)==2 else false
theorem eq_b9(f:FlatV)(n:Nat)(id:Nat)(t:TypeId):boxV id 9 (.agg (chkC f n)) t=some (.val (.ptr id 0) (some (.row (chkC f n) t))):=boxV_agg rfl rfl
theorem eq_b10(q:Eqn)(id:Nat)(t:TypeId):boxV id 10 (.agg q.cs) t=some (.val (.ptr id 0) (some (.row q.cs t))):=boxV_agg rfl rfl
def eqH(f:FlatV)(n:Nat)(q:Eqn):List AO:=[.row (chkC f n) 106,.row q.cs 60]
theorem eq_l2(f:FlatV)(n:Nat)(q:Eqn):Ai.load [.row (chkC f n) 106,.row q.cs 60] none (.ptr 1 2)=some (rowC q.args none):=rfl
theorem eq_l1(f:FlatV)(n:Nat)(q:Eqn):Ai.load [.row (chkC f n) 106,.row q.cs 60] none (.ptr 1 1)=some (litS q.op):=rfl
theorem eq_l3(f:FlatV)(n:Nat)(q:Eqn):Ai.load [.row (chkC f n) 106,.row q.cs 60] none (.ptr 1 3)=some (litI .i64 q.k):=rfl
theorem eq_f0(f:FlatV)(n:Nat)(q:Eqn):Ai.load [.row (chkC f n) 106,.row q.cs 60] none (.ptr 0 0)=some (strs f.ins):=rfl
theorem eq_f4(f:FlatV)(n:Nat)(q:Eqn):Ai.load [.row (chkC f n) 106,.row q.cs 60] none (.ptr 0 4)=some (memsA f.mems):=rfl
theorem eq_f5(f:FlatV)(n:Nat)(q:Eqn):Ai.load [.row (chkC f n) 106,.row q.cs 60] none (.ptr 0 5)=some (contsA f.conts):=rfl
theorem eq_f6(f:FlatV)(n:Nat)(q:Eqn):Ai.load [.row (chkC f n) 106,.row q.cs 60] none (.ptr 0 6)=some (crossA f.cross):=rfl
theorem eq_hP(q:Eqn)(m:Nat)(H:List AO)(id:Nat):callV cw mds 80 [litI .i64 m,.sl 1 [[litI .i64 q.k]] (some 1)] H id=some (.val (litB (inN m q.k)) none):=by
 have:=places_call [q.k] (some 1) m (by simp) H id
 rwa [show within [q.k] m=inN m q.k by simp[within]]at this
section
variable(f:FlatV)(n:Nat)(q:Eqn)
theorem eq85_0(h0:isS q.op [108,105,116]=true):cw 85 [.agg (chkC f n),.agg q.cs] []=some (.ret (litB (eqOk f q)),eqH f n q):=by
 refine cw_of fn85 (c:=c85) rfl rfl rfl rfl ?_
 rw[show eqOk f q=len0 q by simp only[eqOk,isOne,isTwo,isBin,h0,bB]]
 unfold len0
 simp -implicitDefEqProofs only[c85,aW,↓aP,makes,reduceLT,reduceEqDiff,reduceAdd,core_box,eq_b9 f n,eq_b10 q,zA,zC,yA,fadr_ptr,zK,eq_l1,eq_l2,eq_l3,lenV_row,bin_isS,h0]
 rfl
variable(h0:isS q.op [108,105,116]=false)
include h0
theorem eq85_1(h1:isS q.op [105,110]=true):cw 85 [.agg (chkC f n),.agg q.cs] []=some (.ret (litB (eqOk f q)),eqH f n q):=by
 refine cw_of fn85 (c:=c85) rfl rfl rfl rfl ?_
 rw[show eqOk f q=(len0 q&&inN f.ins.length q.k) by simp only[eqOk,isOne,isTwo,isBin,h0,h1,bB]]
 by_cases hz:((q.args.length:Int)==0)=true
 ·rw[show len0 q=true from hz,zQ]
  simp -implicitDefEqProofs only[c85,aW,↓aP,makes,reduceLT,reduceEqDiff,reduceAdd,core_box,eq_b9 f n,eq_b10 q,zA,zC,yA,fadr_ptr,zK,eq_l1,eq_l2,eq_l3,lenV_row,bin_isS,h0,h1,hz,eq_f0,lenV_strs,eq_hP q,bsV_int]
  rfl
 ·rw[zH]at hz
  rw[show len0 q=false from hz,zP]
  simp -implicitDefEqProofs only[c85,aW,↓aP,makes,reduceLT,reduceEqDiff,reduceAdd,core_box,eq_b9 f n,eq_b10 q,zA,zC,yA,fadr_ptr,zK,eq_l1,eq_l2,eq_l3,lenV_row,bin_isS,h0,h1,hz]
  rfl
variable(h1:isS q.op [105,110]=false)
include h1
theorem eq85_2(h2:isS q.op [109,101,109]=true):cw 85 [.agg (chkC f n),.agg q.cs] []=some (.ret (litB (eqOk f q)),eqH f n q):=by
 refine cw_of fn85 (c:=c85) rfl rfl rfl rfl ?_
 rw[show eqOk f q=(len0 q&&inN f.mems.length q.k) by simp only[eqOk,isOne,isTwo,isBin,h0,h1,h2,bB]]
 by_cases hz:((q.args.length:Int)==0)=true
 ·rw[show len0 q=true from hz,zQ]
  simp -implicitDefEqProofs only[c85,aW,↓aP,makes,reduceLT,reduceEqDiff,reduceAdd,core_box,eq_b9 f n,eq_b10 q,zA,zC,yA,fadr_ptr,zK,eq_l1,eq_l2,eq_l3,lenV_row,bin_isS,h0,h1,h2,hz,eq_f4,lenV_mems,eq_hP q,bsV_int]
  rfl
 ·rw[zH]at hz
  rw[show len0 q=false from hz,zP]
  simp -implicitDefEqProofs only[c85,aW,↓aP,makes,reduceLT,reduceEqDiff,reduceAdd,core_box,eq_b9 f n,eq_b10 q,zA,zC,yA,fadr_ptr,zK,eq_l1,eq_l2,eq_l3,lenV_row,bin_isS,h0,h1,h2,hz]
  rfl
variable(h2:isS q.op [109,101,109]=false)
include h2
theorem eq85_3(h3:isS q.op [99,111,110,116]=true):cw 85 [.agg (chkC f n),.agg q.cs] []=some (.ret (litB (eqOk f q)),eqH f n q):=by
 refine cw_of fn85 (c:=c85) rfl rfl rfl rfl ?_
 rw[show eqOk f q=(len0 q&&inN f.conts.length q.k) by simp only[eqOk,isOne,isTwo,isBin,h0,h1,h2,h3,bB]]
 by_cases hz:((q.args.length:Int)==0)=true
 ·rw[show len0 q=true from hz,zQ]
  simp -implicitDefEqProofs only[c85,aW,↓aP,makes,reduceLT,reduceEqDiff,reduceAdd,core_box,eq_b9 f n,eq_b10 q,zA,zC,yA,fadr_ptr,zK,eq_l1,eq_l2,eq_l3,lenV_row,bin_isS,h0,h1,h2,h3,hz,eq_f5,lenV_conts,eq_hP q,bsV_int]
  rfl
 ·rw[zH]at hz
  rw[show len0 q=false from hz,zP]
  simp -implicitDefEqProofs only[c85,aW,↓aP,makes,reduceLT,reduceEqDiff,reduceAdd,core_box,eq_b9 f n,eq_b10 q,zA,zC,yA,fadr_ptr,zK,eq_l1,eq_l2,eq_l3,lenV_row,bin_isS,h0,h1,h2,h3,hz]
  rfl
variable(h3:isS q.op [99,111,110,116]=false)
include h3
theorem eq85_4(h4:isS q.op [102,108,97,103]=true):cw 85 [.agg (chkC f n),.agg q.cs] []=some (.ret (litB (eqOk f q)),eqH f n q):=by
 refine cw_of fn85 (c:=c85) rfl rfl rfl rfl ?_
 rw[show eqOk f q=(len0 q&&inN f.cross.length q.k) by simp only[eqOk,isOne,isTwo,isBin,h0,h1,h2,h3,h4,bB]]
 by_cases hz:((q.args.length:Int)==0)=true
 ·rw[show len0 q=true from hz,zQ]
  simp -implicitDefEqProofs only[c85,aW,↓aP,makes,reduceLT,reduceEqDiff,reduceAdd,core_box,eq_b9 f n,eq_b10 q,zA,zC,yA,fadr_ptr,zK,eq_l1,eq_l2,eq_l3,lenV_row,bin_isS,h0,h1,h2,h3,h4,hz,eq_f6,lenV_cross,eq_hP q,bsV_int]
  rfl
 ·rw[zH]at hz
  rw[show len0 q=false from hz,zP]
  simp -implicitDefEqProofs only[c85,aW,↓aP,makes,reduceLT,reduceEqDiff,reduceAdd,core_box,eq_b9 f n,eq_b10 q,zA,zC,yA,fadr_ptr,zK,eq_l1,eq_l2,eq_l3,lenV_row,bin_isS,h0,h1,h2,h3,h4,hz]
  rfl
variable(h4:isS q.op [102,108,97,103]=false)
include h4
theorem eq85_5(h5:isS q.op [99,111,112,121]=true):cw 85 [.agg (chkC f n),.agg q.cs] []=some (.ret (litB (eqOk f q)),eqH f n q):=by
 refine cw_of fn85 (c:=c85) rfl rfl rfl rfl ?_
 rw[show eqOk f q=((q.args.length:Int)==1) by simp only[eqOk,isOne,isTwo,isBin,h0,h1,h2,h3,h4,h5,bB]]
 simp -implicitDefEqProofs only[c85,aW,↓aP,makes,reduceLT,reduceEqDiff,reduceAdd,core_box,eq_b9 f n,eq_b10 q,zA,zC,yA,fadr_ptr,zK,eq_l1,eq_l2,eq_l3,lenV_row,bin_isS,h0,h1,h2,h3,h4,h5]
 rfl
variable(h5:isS q.op [99,111,112,121]=false)
include h5
theorem eq85_6(h6:isS q.op [110,101,103]=true):cw 85 [.agg (chkC f n),.agg q.cs] []=some (.ret (litB (eqOk f q)),eqH f n q):=by
 refine cw_of fn85 (c:=c85) rfl rfl rfl rfl ?_
 rw[show eqOk f q=((q.args.length:Int)==1) by simp only[eqOk,isOne,isTwo,isBin,h0,h1,h2,h3,h4,h5,h6,bB]]
 simp -implicitDefEqProofs only[c85,aW,↓aP,makes,reduceLT,reduceEqDiff,reduceAdd,core_box,eq_b9 f n,eq_b10 q,zA,zC,yA,fadr_ptr,zK,eq_l1,eq_l2,eq_l3,lenV_row,bin_isS,h0,h1,h2,h3,h4,h5,h6]
 rfl
variable(h6:isS q.op [110,101,103]=false)
include h6
theorem eq85_7(h7:isS q.op [110,111,116]=true):cw 85 [.agg (chkC f n),.agg q.cs] []=some (.ret (litB (eqOk f q)),eqH f n q):=by
 refine cw_of fn85 (c:=c85) rfl rfl rfl rfl ?_
 rw[show eqOk f q=((q.args.length:Int)==1) by simp only[eqOk,isOne,isTwo,isBin,h0,h1,h2,h3,h4,h5,h6,h7,bB]]
 simp -implicitDefEqProofs only[c85,aW,↓aP,makes,reduceLT,reduceEqDiff,reduceAdd,core_box,eq_b9 f n,eq_b10 q,zA,zC,yA,fadr_ptr,zK,eq_l1,eq_l2,eq_l3,lenV_row,bin_isS,h0,h1,h2,h3,h4,h5,h6,h7]
 rfl
variable(h7:isS q.op [110,111,116]=false)
include h7
theorem eq85_8(h8:isS q.op [102,108,111,111,114]=true):cw 85 [.agg (chkC f n),.agg q.cs] []=some (.ret (litB (eqOk f q)),eqH f n q):=by
 refine cw_of fn85 (c:=c85) rfl rfl rfl rfl ?_
 rw[show eqOk f q=((q.args.length:Int)==1) by simp only[eqOk,isOne,isTwo,isBin,h0,h1,h2,h3,h4,h5,h6,h7,h8,bB]]
 simp -implicitDefEqProofs only[c85,aW,↓aP,makes,reduceLT,reduceEqDiff,reduceAdd,core_box,eq_b9 f n,eq_b10 q,zA,zC,yA,fadr_ptr,zK,eq_l1,eq_l2,eq_l3,lenV_row,bin_isS,h0,h1,h2,h3,h4,h5,h6,h7,h8]
 rfl
variable(h8:isS q.op [102,108,111,111,114]=false)
include h8
theorem eq85_9(h9:isS q.op [114,97,116]=true):cw 85 [.agg (chkC f n),.agg q.cs] []=some (.ret (litB (eqOk f q)),eqH f n q):=by
 refine cw_of fn85 (c:=c85) rfl rfl rfl rfl ?_
 rw[show eqOk f q=((q.args.length:Int)==1) by simp only[eqOk,isOne,isTwo,isBin,h0,h1,h2,h3,h4,h5,h6,h7,h8,h9,bB]]
 simp -implicitDefEqProofs only[c85,aW,↓aP,makes,reduceLT,reduceEqDiff,reduceAdd,core_box,eq_b9 f n,eq_b10 q,zA,zC,yA,fadr_ptr,zK,eq_l1,eq_l2,eq_l3,lenV_row,bin_isS,h0,h1,h2,h3,h4,h5,h6,h7,h8,h9]
 rfl
variable(h9:isS q.op [114,97,116]=false)
include h9
theorem eq85_10(h10:isS q.op [103,97,110,100]=true):cw 85 [.agg (chkC f n),.agg q.cs] []=some (.ret (litB (eqOk f q)),eqH f n q):=by
 refine cw_of fn85 (c:=c85) rfl rfl rfl rfl ?_
 rw[show eqOk f q=decide ((q.args.length:Int) > 0) by simp only[eqOk,isOne,isTwo,isBin,h0,h1,h2,h3,h4,h5,h6,h7,h8,h9,h10,bB]]
 simp -implicitDefEqProofs only[c85,aW,↓aP,makes,reduceLT,reduceEqDiff,reduceAdd,core_box,eq_b9 f n,eq_b10 q,zA,zC,yA,fadr_ptr,zK,eq_l1,eq_l2,eq_l3,lenV_row,bin_isS,h0,h1,h2,h3,h4,h5,h6,h7,h8,h9,h10]
 rfl
variable(h10:isS q.op [103,97,110,100]=false)
include h10
theorem eq85_11(h11:isS q.op [109,114,103]=true):cw 85 [.agg (chkC f n),.agg q.cs] []=some (.ret (litB (eqOk f q)),eqH f n q):=by
 refine cw_of fn85 (c:=c85) rfl rfl rfl rfl ?_
 rw[show eqOk f q=decide ((q.args.length:Int) > 0) by simp only[eqOk,isOne,isTwo,isBin,h0,h1,h2,h3,h4,h5,h6,h7,h8,h9,h10,h11,bB]]
 simp -implicitDefEqProofs only[c85,aW,↓aP,makes,reduceLT,reduceEqDiff,reduceAdd,core_box,eq_b9 f n,eq_b10 q,zA,zC,yA,fadr_ptr,zK,eq_l1,eq_l2,eq_l3,lenV_row,bin_isS,h0,h1,h2,h3,h4,h5,h6,h7,h8,h9,h10,h11]
 rfl
variable(h11:isS q.op [109,114,103]=false)
include h11
theorem eq85_12(h12:isS q.op [115,101,108]=true):cw 85 [.agg (chkC f n),.agg q.cs] []=some (.ret (litB (eqOk f q)),eqH f n q):=by
 refine cw_of fn85 (c:=c85) rfl rfl rfl rfl ?_
 rw[show eqOk f q=((q.args.length:Int)==3) by simp only[eqOk,isOne,isTwo,isBin,h0,h1,h2,h3,h4,h5,h6,h7,h8,h9,h10,h11,h12,bB]]
 simp -implicitDefEqProofs only[c85,aW,↓aP,makes,reduceLT,reduceEqDiff,reduceAdd,core_box,eq_b9 f n,eq_b10 q,zA,zC,yA,fadr_ptr,zK,eq_l1,eq_l2,eq_l3,lenV_row,bin_isS,h0,h1,h2,h3,h4,h5,h6,h7,h8,h9,h10,h11,h12]
 rfl
variable(h12:isS q.op [115,101,108]=false)
include h12
theorem eq85_13(h13:isS q.op [43]=true):cw 85 [.agg (chkC f n),.agg q.cs] []=some (.ret (litB (eqOk f q)),eqH f n q):=by
 refine cw_of fn85 (c:=c85) rfl rfl rfl rfl ?_
 rw[show eqOk f q=((q.args.length:Int)==2) by simp only[eqOk,isOne,isTwo,isBin,h0,h1,h2,h3,h4,h5,h6,h7,h8,h9,h10,h11,h12,h13,bB]]
 simp -implicitDefEqProofs only[c85,aW,↓aP,makes,reduceLT,reduceEqDiff,reduceAdd,core_box,eq_b9 f n,eq_b10 q,zA,zC,yA,fadr_ptr,zK,eq_l1,eq_l2,eq_l3,lenV_row,bin_isS,h0,h1,h2,h3,h4,h5,h6,h7,h8,h9,h10,h11,h12,h13]
 rfl
variable(h13:isS q.op [43]=false)
include h13
theorem eq85_14(h14:isS q.op [45]=true):cw 85 [.agg (chkC f n),.agg q.cs] []=some (.ret (litB (eqOk f q)),eqH f n q):=by
 refine cw_of fn85 (c:=c85) rfl rfl rfl rfl ?_
 rw[show eqOk f q=((q.args.length:Int)==2) by simp only[eqOk,isOne,isTwo,isBin,h0,h1,h2,h3,h4,h5,h6,h7,h8,h9,h10,h11,h12,h13,h14,bB]]
 simp -implicitDefEqProofs only[c85,aW,↓aP,makes,reduceLT,reduceEqDiff,reduceAdd,core_box,eq_b9 f n,eq_b10 q,zA,zC,yA,fadr_ptr,zK,eq_l1,eq_l2,eq_l3,lenV_row,bin_isS,h0,h1,h2,h3,h4,h5,h6,h7,h8,h9,h10,h11,h12,h13,h14]
 rfl
variable(h14:isS q.op [45]=false)
include h14
theorem eq85_15(h15:isS q.op [42]=true):cw 85 [.agg (chkC f n),.agg q.cs] []=some (.ret (litB (eqOk f q)),eqH f n q):=by
 refine cw_of fn85 (c:=c85) rfl rfl rfl rfl ?_
 rw[show eqOk f q=((q.args.length:Int)==2) by simp only[eqOk,isOne,isTwo,isBin,h0,h1,h2,h3,h4,h5,h6,h7,h8,h9,h10,h11,h12,h13,h14,h15,bB]]
 simp -implicitDefEqProofs only[c85,aW,↓aP,makes,reduceLT,reduceEqDiff,reduceAdd,core_box,eq_b9 f n,eq_b10 q,zA,zC,yA,fadr_ptr,zK,eq_l1,eq_l2,eq_l3,lenV_row,bin_isS,h0,h1,h2,h3,h4,h5,h6,h7,h8,h9,h10,h11,h12,h13,h14,h15]
 rfl
variable(h15:isS q.op [42]=false)
include h15
theorem eq85_16(h16:isS q.op [47]=true):cw 85 [.agg (chkC f n),.agg q.cs] []=some (.ret (litB (eqOk f q)),eqH f n q):=by
 refine cw_of fn85 (c:=c85) rfl rfl rfl rfl ?_
 rw[show eqOk f q=((q.args.length:Int)==2) by simp only[eqOk,isOne,isTwo,isBin,h0,h1,h2,h3,h4,h5,h6,h7,h8,h9,h10,h11,h12,h13,h14,h15,h16,bB]]
 simp -implicitDefEqProofs only[c85,aW,↓aP,makes,reduceLT,reduceEqDiff,reduceAdd,core_box,eq_b9 f n,eq_b10 q,zA,zC,yA,fadr_ptr,zK,eq_l1,eq_l2,eq_l3,lenV_row,bin_isS,h0,h1,h2,h3,h4,h5,h6,h7,h8,h9,h10,h11,h12,h13,h14,h15,h16]
 rfl
variable(h16:isS q.op [47]=false)
include h16
theorem eq85_17(h17:isS q.op [100,105,118]=true):cw 85 [.agg (chkC f n),.agg q.cs] []=some (.ret (litB (eqOk f q)),eqH f n q):=by
 refine cw_of fn85 (c:=c85) rfl rfl rfl rfl ?_
 rw[show eqOk f q=((q.args.length:Int)==2) by simp only[eqOk,isOne,isTwo,isBin,h0,h1,h2,h3,h4,h5,h6,h7,h8,h9,h10,h11,h12,h13,h14,h15,h16,h17,bB]]
 simp -implicitDefEqProofs only[c85,aW,↓aP,makes,reduceLT,reduceEqDiff,reduceAdd,core_box,eq_b9 f n,eq_b10 q,zA,zC,yA,fadr_ptr,zK,eq_l1,eq_l2,eq_l3,lenV_row,bin_isS,h0,h1,h2,h3,h4,h5,h6,h7,h8,h9,h10,h11,h12,h13,h14,h15,h16,h17]
 rfl
variable(h17:isS q.op [100,105,118]=false)
include h17
theorem eq85_18(h18:isS q.op [109,111,100]=true):cw 85 [.agg (chkC f n),.agg q.cs] []=some (.ret (litB (eqOk f q)),eqH f n q):=by
 refine cw_of fn85 (c:=c85) rfl rfl rfl rfl ?_
 rw[show eqOk f q=((q.args.length:Int)==2) by simp only[eqOk,isOne,isTwo,isBin,h0,h1,h2,h3,h4,h5,h6,h7,h8,h9,h10,h11,h12,h13,h14,h15,h16,h17,h18,bB]]
 simp -implicitDefEqProofs only[c85,aW,↓aP,makes,reduceLT,reduceEqDiff,reduceAdd,core_box,eq_b9 f n,eq_b10 q,zA,zC,yA,fadr_ptr,zK,eq_l1,eq_l2,eq_l3,lenV_row,bin_isS,h0,h1,h2,h3,h4,h5,h6,h7,h8,h9,h10,h11,h12,h13,h14,h15,h16,h17,h18]
 rfl
variable(h18:isS q.op [109,111,100]=false)
include h18
theorem eq85_19(h19:isS q.op [60]=true):cw 85 [.agg (chkC f n),.agg q.cs] []=some (.ret (litB (eqOk f q)),eqH f n q):=by
 refine cw_of fn85 (c:=c85) rfl rfl rfl rfl ?_
 rw[show eqOk f q=((q.args.length:Int)==2) by simp only[eqOk,isOne,isTwo,isBin,h0,h1,h2,h3,h4,h5,h6,h7,h8,h9,h10,h11,h12,h13,h14,h15,h16,h17,h18,h19,bB]]
 simp -implicitDefEqProofs only[c85,aW,↓aP,makes,reduceLT,reduceEqDiff,reduceAdd,core_box,eq_b9 f n,eq_b10 q,zA,zC,yA,fadr_ptr,zK,eq_l1,eq_l2,eq_l3,lenV_row,bin_isS,h0,h1,h2,h3,h4,h5,h6,h7,h8,h9,h10,h11,h12,h13,h14,h15,h16,h17,h18,h19]
 rfl
variable(h19:isS q.op [60]=false)
include h19
theorem eq85_20(h20:isS q.op [60,61]=true):cw 85 [.agg (chkC f n),.agg q.cs] []=some (.ret (litB (eqOk f q)),eqH f n q):=by
 refine cw_of fn85 (c:=c85) rfl rfl rfl rfl ?_
 rw[show eqOk f q=((q.args.length:Int)==2) by simp only[eqOk,isOne,isTwo,isBin,h0,h1,h2,h3,h4,h5,h6,h7,h8,h9,h10,h11,h12,h13,h14,h15,h16,h17,h18,h19,h20,bB]]
 simp -implicitDefEqProofs only[c85,aW,↓aP,makes,reduceLT,reduceEqDiff,reduceAdd,core_box,eq_b9 f n,eq_b10 q,zA,zC,yA,fadr_ptr,zK,eq_l1,eq_l2,eq_l3,lenV_row,bin_isS,h0,h1,h2,h3,h4,h5,h6,h7,h8,h9,h10,h11,h12,h13,h14,h15,h16,h17,h18,h19,h20]
 rfl
variable(h20:isS q.op [60,61]=false)
include h20
theorem eq85_21(h21:isS q.op [62]=true):cw 85 [.agg (chkC f n),.agg q.cs] []=some (.ret (litB (eqOk f q)),eqH f n q):=by
 refine cw_of fn85 (c:=c85) rfl rfl rfl rfl ?_
 rw[show eqOk f q=((q.args.length:Int)==2) by simp only[eqOk,isOne,isTwo,isBin,h0,h1,h2,h3,h4,h5,h6,h7,h8,h9,h10,h11,h12,h13,h14,h15,h16,h17,h18,h19,h20,h21,bB]]
 simp -implicitDefEqProofs only[c85,aW,↓aP,makes,reduceLT,reduceEqDiff,reduceAdd,core_box,eq_b9 f n,eq_b10 q,zA,zC,yA,fadr_ptr,zK,eq_l1,eq_l2,eq_l3,lenV_row,bin_isS,h0,h1,h2,h3,h4,h5,h6,h7,h8,h9,h10,h11,h12,h13,h14,h15,h16,h17,h18,h19,h20,h21]
 rfl
variable(h21:isS q.op [62]=false)
include h21
theorem eq85_22(h22:isS q.op [62,61]=true):cw 85 [.agg (chkC f n),.agg q.cs] []=some (.ret (litB (eqOk f q)),eqH f n q):=by
 refine cw_of fn85 (c:=c85) rfl rfl rfl rfl ?_
 rw[show eqOk f q=((q.args.length:Int)==2) by simp only[eqOk,isOne,isTwo,isBin,h0,h1,h2,h3,h4,h5,h6,h7,h8,h9,h10,h11,h12,h13,h14,h15,h16,h17,h18,h19,h20,h21,h22,bB]]
 simp -implicitDefEqProofs only[c85,aW,↓aP,makes,reduceLT,reduceEqDiff,reduceAdd,core_box,eq_b9 f n,eq_b10 q,zA,zC,yA,fadr_ptr,zK,eq_l1,eq_l2,eq_l3,lenV_row,bin_isS,h0,h1,h2,h3,h4,h5,h6,h7,h8,h9,h10,h11,h12,h13,h14,h15,h16,h17,h18,h19,h20,h21,h22]
 rfl
variable(h22:isS q.op [62,61]=false)
include h22
theorem eq85_23(h23:isS q.op [61,61]=true):cw 85 [.agg (chkC f n),.agg q.cs] []=some (.ret (litB (eqOk f q)),eqH f n q):=by
 refine cw_of fn85 (c:=c85) rfl rfl rfl rfl ?_
 rw[show eqOk f q=((q.args.length:Int)==2) by simp only[eqOk,isOne,isTwo,isBin,h0,h1,h2,h3,h4,h5,h6,h7,h8,h9,h10,h11,h12,h13,h14,h15,h16,h17,h18,h19,h20,h21,h22,h23,bB]]
 simp -implicitDefEqProofs only[c85,aW,↓aP,makes,reduceLT,reduceEqDiff,reduceAdd,core_box,eq_b9 f n,eq_b10 q,zA,zC,yA,fadr_ptr,zK,eq_l1,eq_l2,eq_l3,lenV_row,bin_isS,h0,h1,h2,h3,h4,h5,h6,h7,h8,h9,h10,h11,h12,h13,h14,h15,h16,h17,h18,h19,h20,h21,h22,h23]
 rfl
variable(h23:isS q.op [61,61]=false)
include h23
theorem eq85_24(h24:isS q.op [33,61]=true):cw 85 [.agg (chkC f n),.agg q.cs] []=some (.ret (litB (eqOk f q)),eqH f n q):=by
 refine cw_of fn85 (c:=c85) rfl rfl rfl rfl ?_
 rw[show eqOk f q=((q.args.length:Int)==2) by simp only[eqOk,isOne,isTwo,isBin,h0,h1,h2,h3,h4,h5,h6,h7,h8,h9,h10,h11,h12,h13,h14,h15,h16,h17,h18,h19,h20,h21,h22,h23,h24,bB]]
 simp -implicitDefEqProofs only[c85,aW,↓aP,makes,reduceLT,reduceEqDiff,reduceAdd,core_box,eq_b9 f n,eq_b10 q,zA,zC,yA,fadr_ptr,zK,eq_l1,eq_l2,eq_l3,lenV_row,bin_isS,h0,h1,h2,h3,h4,h5,h6,h7,h8,h9,h10,h11,h12,h13,h14,h15,h16,h17,h18,h19,h20,h21,h22,h23,h24]
 rfl
variable(h24:isS q.op [33,61]=false)
include h24
theorem eq85_25(h25:isS q.op [97,110,100]=true):cw 85 [.agg (chkC f n),.agg q.cs] []=some (.ret (litB (eqOk f q)),eqH f n q):=by
 refine cw_of fn85 (c:=c85) rfl rfl rfl rfl ?_
 rw[show eqOk f q=((q.args.length:Int)==2) by simp only[eqOk,isOne,isTwo,isBin,h0,h1,h2,h3,h4,h5,h6,h7,h8,h9,h10,h11,h12,h13,h14,h15,h16,h17,h18,h19,h20,h21,h22,h23,h24,h25,bB]]
 simp -implicitDefEqProofs only[c85,aW,↓aP,makes,reduceLT,reduceEqDiff,reduceAdd,core_box,eq_b9 f n,eq_b10 q,zA,zC,yA,fadr_ptr,zK,eq_l1,eq_l2,eq_l3,lenV_row,bin_isS,h0,h1,h2,h3,h4,h5,h6,h7,h8,h9,h10,h11,h12,h13,h14,h15,h16,h17,h18,h19,h20,h21,h22,h23,h24,h25]
 rfl
variable(h25:isS q.op [97,110,100]=false)
include h25
theorem eq85_26(h26:isS q.op [111,114]=true):cw 85 [.agg (chkC f n),.agg q.cs] []=some (.ret (litB (eqOk f q)),eqH f n q):=by
 refine cw_of fn85 (c:=c85) rfl rfl rfl rfl ?_
 rw[show eqOk f q=((q.args.length:Int)==2) by simp only[eqOk,isOne,isTwo,isBin,h0,h1,h2,h3,h4,h5,h6,h7,h8,h9,h10,h11,h12,h13,h14,h15,h16,h17,h18,h19,h20,h21,h22,h23,h24,h25,h26,bB]]
 simp -implicitDefEqProofs only[c85,aW,↓aP,makes,reduceLT,reduceEqDiff,reduceAdd,core_box,eq_b9 f n,eq_b10 q,zA,zC,yA,fadr_ptr,zK,eq_l1,eq_l2,eq_l3,lenV_row,bin_isS,h0,h1,h2,h3,h4,h5,h6,h7,h8,h9,h10,h11,h12,h13,h14,h15,h16,h17,h18,h19,h20,h21,h22,h23,h24,h25,h26]
 rfl
variable(h26:isS q.op [111,114]=false)
include h26
theorem eq85_27:cw 85 [.agg (chkC f n),.agg q.cs] []=some (.ret (litB (eqOk f q)),eqH f n q):=by
 refine cw_of fn85 (c:=c85) rfl rfl rfl rfl ?_
 rw[show eqOk f q=false by simp only[eqOk,isOne,isTwo,isBin,h0,h1,h2,h3,h4,h5,h6,h7,h8,h9,h10,h11,h12,h13,h14,h15,h16,h17,h18,h19,h20,h21,h22,h23,h24,h25,h26,bB]]
 simp -implicitDefEqProofs only[c85,aW,↓aP,makes,reduceLT,reduceEqDiff,reduceAdd,core_box,eq_b9 f n,eq_b10 q,zA,zC,yA,fadr_ptr,zK,eq_l1,eq_l2,eq_l3,lenV_row,bin_isS,h0,h1,h2,h3,h4,h5,h6,h7,h8,h9,h10,h11,h12,h13,h14,h15,h16,h17,h18,h19,h20,h21,h22,h23,h24,h25,h26]
 rfl
end
theorem eq_tells(f:FlatV)(n:Nat)(q:Eqn):cw 85 [.agg (chkC f n),.agg q.cs] []=some (.ret (litB (eqOk f q)),eqH f n q):=by
 by_cases h0:isS q.op [108,105,116]=true
 ·exact eq85_0 f n q h0
 rw[zH]at h0
 by_cases h1:isS q.op [105,110]=true
 ·exact eq85_1 f n q h0 h1
 rw[zH]at h1
 by_cases h2:isS q.op [109,101,109]=true
 ·exact eq85_2 f n q h0 h1 h2
 rw[zH]at h2
 by_cases h3:isS q.op [99,111,110,116]=true
 ·exact eq85_3 f n q h0 h1 h2 h3
 rw[zH]at h3
 by_cases h4:isS q.op [102,108,97,103]=true
 ·exact eq85_4 f n q h0 h1 h2 h3 h4
 rw[zH]at h4
 by_cases h5:isS q.op [99,111,112,121]=true
 ·exact eq85_5 f n q h0 h1 h2 h3 h4 h5
 rw[zH]at h5
 by_cases h6:isS q.op [110,101,103]=true
 ·exact eq85_6 f n q h0 h1 h2 h3 h4 h5 h6
 rw[zH]at h6
 by_cases h7:isS q.op [110,111,116]=true
 ·exact eq85_7 f n q h0 h1 h2 h3 h4 h5 h6 h7
 rw[zH]at h7
 by_cases h8:isS q.op [102,108,111,111,114]=true
 ·exact eq85_8 f n q h0 h1 h2 h3 h4 h5 h6 h7 h8
 rw[zH]at h8
 by_cases h9:isS q.op [114,97,116]=true
 ·exact eq85_9 f n q h0 h1 h2 h3 h4 h5 h6 h7 h8 h9
 rw[zH]at h9
 by_cases h10:isS q.op [103,97,110,100]=true
 ·exact eq85_10 f n q h0 h1 h2 h3 h4 h5 h6 h7 h8 h9 h10
 rw[zH]at h10
 by_cases h11:isS q.op [109,114,103]=true
 ·exact eq85_11 f n q h0 h1 h2 h3 h4 h5 h6 h7 h8 h9 h10 h11
 rw[zH]at h11
 by_cases h12:isS q.op [115,101,108]=true
 ·exact eq85_12 f n q h0 h1 h2 h3 h4 h5 h6 h7 h8 h9 h10 h11 h12
 rw[zH]at h12
 by_cases h13:isS q.op [43]=true
 ·exact eq85_13 f n q h0 h1 h2 h3 h4 h5 h6 h7 h8 h9 h10 h11 h12 h13
 rw[zH]at h13
 by_cases h14:isS q.op [45]=true
 ·exact eq85_14 f n q h0 h1 h2 h3 h4 h5 h6 h7 h8 h9 h10 h11 h12 h13 h14
 rw[zH]at h14
 by_cases h15:isS q.op [42]=true
 ·exact eq85_15 f n q h0 h1 h2 h3 h4 h5 h6 h7 h8 h9 h10 h11 h12 h13 h14 h15
 rw[zH]at h15
 by_cases h16:isS q.op [47]=true
 ·exact eq85_16 f n q h0 h1 h2 h3 h4 h5 h6 h7 h8 h9 h10 h11 h12 h13 h14 h15 h16
 rw[zH]at h16
 by_cases h17:isS q.op [100,105,118]=true
 ·exact eq85_17 f n q h0 h1 h2 h3 h4 h5 h6 h7 h8 h9 h10 h11 h12 h13 h14 h15 h16 h17
 rw[zH]at h17
 by_cases h18:isS q.op [109,111,100]=true
 ·exact eq85_18 f n q h0 h1 h2 h3 h4 h5 h6 h7 h8 h9 h10 h11 h12 h13 h14 h15 h16 h17 h18
 rw[zH]at h18
 by_cases h19:isS q.op [60]=true
 ·exact eq85_19 f n q h0 h1 h2 h3 h4 h5 h6 h7 h8 h9 h10 h11 h12 h13 h14 h15 h16 h17 h18 h19
 rw[zH]at h19
 by_cases h20:isS q.op [60,61]=true
 ·exact eq85_20 f n q h0 h1 h2 h3 h4 h5 h6 h7 h8 h9 h10 h11 h12 h13 h14 h15 h16 h17 h18 h19 h20
 rw[zH]at h20
 by_cases h21:isS q.op [62]=true
 ·exact eq85_21 f n q h0 h1 h2 h3 h4 h5 h6 h7 h8 h9 h10 h11 h12 h13 h14 h15 h16 h17 h18 h19 h20 h21
 rw[zH]at h21
 by_cases h22:isS q.op [62,61]=true
 ·exact eq85_22 f n q h0 h1 h2 h3 h4 h5 h6 h7 h8 h9 h10 h11 h12 h13 h14 h15 h16 h17 h18 h19 h20 h21 h22
 rw[zH]at h22
 by_cases h23:isS q.op [61,61]=true
 ·exact eq85_23 f n q h0 h1 h2 h3 h4 h5 h6 h7 h8 h9 h10 h11 h12 h13 h14 h15 h16 h17 h18 h19 h20 h21 h22 h23
 rw[zH]at h23
 by_cases h24:isS q.op [33,61]=true
 ·exact eq85_24 f n q h0 h1 h2 h3 h4 h5 h6 h7 h8 h9 h10 h11 h12 h13 h14 h15 h16 h17 h18 h19 h20 h21 h22 h23 h24
 rw[zH]at h24
 by_cases h25:isS q.op [97,110,100]=true
 ·exact eq85_25 f n q h0 h1 h2 h3 h4 h5 h6 h7 h8 h9 h10 h11 h12 h13 h14 h15 h16 h17 h18 h19 h20 h21 h22 h23 h24 h25
 rw[zH]at h25
 by_cases h26:isS q.op [111,114]=true
 ·exact eq85_26 f n q h0 h1 h2 h3 h4 h5 h6 h7 h8 h9 h10 h11 h12 h13 h14 h15 h16 h17 h18 h19 h20 h21 h22 h23 h24 h25 h26
 rw[zH]at h26
 exact eq85_27 f n q h0 h1 h2 h3 h4 h5 h6 h7 h8 h9 h10 h11 h12 h13 h14 h15 h16 h17 h18 h19 h20 h21 h22 h23 h24 h25 h26
theorem eq_call(f:FlatV)(n:Nat)(q:Eqn)(H:List AO)(id:Nat):callV cw mds 85 [.agg (chkC f n),.agg q.cs] H id=some (.val (litB (eqOk f q)) none):=callV_pureA rfl rfl (eq_tells f n q) rfl
end
section
def resM(f:FlatV)(k:Int):List Int:=((f.mems[k.toNat]?).map fun m=>m.resets).getD []
def resK(f:FlatV)(k:Int):List Int:=((f.conts[k.toNat]?).map fun m=>m.resets).getD []
def rightOk(f:FlatV)(q:Eqn):Bool :=
 bif isS q.op [108,105,116]then len0 q else bif isS q.op [105,110]then len0 q&&inN f.ins.length q.k else bif isS q.op [109,101,109]then len0 q&&inN f.mems.length q.k&&within (resM f q.k) f.names.length
 else bif isS q.op [99,111,110,116]then len0 q&&inN f.conts.length q.k&&within (resK f q.k) f.names.length else bif isS q.op [102,108,97,103]then len0 q&&inN f.cross.length q.k
 else bif isOne q then(q.args.length:Int)==1 else bif isTwo q then decide ((q.args.length:Int) > 0)else bif isS q.op [115,101,108]then(q.args.length:Int)==3 else bif isBin q then(q.args.length:Int)==2 else false
def Fits(f:FlatV):Prop:=(∀m∈f.mems,m.resets.length≤1000000)∧(∀m∈f.conts,m.resets.length≤1000000)
theorem rt_b8(f:FlatV)(id:Nat)(t:TypeId):boxV id 8 (.agg f.cs) t=some (.val (.ptr id 0) (some (.row f.cs t))):=boxV_agg rfl rfl
theorem rt_l1(f:FlatV)(q:Eqn):Ai.load [.row f.cs 29,.row q.cs 60] none (.ptr 1 1)=some (litS q.op):=rfl
theorem rt_l2(f:FlatV)(q:Eqn):Ai.load [.row f.cs 29,.row q.cs 60] none (.ptr 1 2)=some (rowC q.args none):=rfl
theorem rt_l3(f:FlatV)(q:Eqn):Ai.load [.row f.cs 29,.row q.cs 60] none (.ptr 1 3)=some (litI .i64 q.k):=rfl
theorem rt_f0(f:FlatV)(q:Eqn):Ai.load [.row f.cs 29,.row q.cs 60] none (.ptr 0 0)=some (strs f.ins):=rfl
theorem rt_f1(f:FlatV)(q:Eqn):Ai.load [.row f.cs 29,.row q.cs 60] none (.ptr 0 1)=some (strs f.names):=rfl
theorem rt_f4(f:FlatV)(q:Eqn):Ai.load [.row f.cs 29,.row q.cs 60] none (.ptr 0 4)=some (memsA f.mems):=rfl
theorem rt_f5(f:FlatV)(q:Eqn):Ai.load [.row f.cs 29,.row q.cs 60] none (.ptr 0 5)=some (contsA f.conts):=rfl
theorem rt_f6(f:FlatV)(q:Eqn):Ai.load [.row f.cs 29,.row q.cs 60] none (.ptr 0 6)=some (crossA f.cross):=rfl
theorem rt_ge(n:Nat):decide ((n:Int)≥1)=decide ((n:Int) > 0):=by
 have:((n:Int)≥1)↔((n:Int) > 0):=by omega
 simp only[this]
theorem mem_h7(m:MemV):(List.drop 7 m.cs).head?=some (rowC m.resets none):=rfl
theorem cont_h7(m:ContV):(List.drop 7 m.cs).head?=some (rowC m.resets none):=rfl
def rtH(f:FlatV)(q:Eqn):List AO:=[.row f.cs 29,.row q.cs 60]
theorem rB:type_of% (And.intro @core_box (And.intro @rt_b8 (And.intro @eq_b10 (And.intro @List.length_nil.{0} (And.intro @List.length_cons.{0} (And.intro @List.singleton_append.{0} (And.intro @fadr_ptr (And.intro @fadr_ip (And.intro @Nat.add_zero (And.intro @rt_l1 (And.intro @rt_l2 (And.intro @rt_l3 (And.intro @lenV_row @bin_isS))))))))))))):=(And.intro @core_box (And.intro @rt_b8 (And.intro @eq_b10 (And.intro @List.length_nil.{0} (And.intro @List.length_cons.{0} (And.intro @List.singleton_append.{0} (And.intro @fadr_ptr (And.intro @fadr_ip (And.intro @Nat.add_zero (And.intro @rt_l1 (And.intro @rt_l2 (And.intro @rt_l3 (And.intro @lenV_row @bin_isS)))))))))))))
section
variable(f:FlatV)(q:Eqn)(hf:Fits f)
include hf
theorem rt44_0(h0:isS q.op [108,105,116]=true):cw 44 [.agg f.cs,.agg q.cs] []=some (.ret (litB (rightOk f q)),rtH f q):=by
 refine cw_of fn44 (c:=c44) rfl rfl rfl rfl ?_
 rw[show rightOk f q=len0 q by simp only[rightOk,isOne,isTwo,isBin,h0,bB]]
 unfold len0
 simp -implicitDefEqProofs only[c44,aW,↓aP,makes,reduceLT,reduceEqDiff,reduceAdd,rB,h0]
 rfl
variable(h0:isS q.op [108,105,116]=false)
include h0
theorem rt44_1(h1:isS q.op [105,110]=true):cw 44 [.agg f.cs,.agg q.cs] []=some (.ret (litB (rightOk f q)),rtH f q):=by
 refine cw_of fn44 (c:=c44) rfl rfl rfl rfl ?_
 rw[show rightOk f q=(len0 q&&inN f.ins.length q.k) by simp only[rightOk,isOne,isTwo,isBin,h0,h1,bB]]
 by_cases hz:((q.args.length:Int)==0)=true
 case neg =>
  rw[zH]at hz
  rw[show(len0 q&&inN f.ins.length q.k)=false by rw[show len0 q=false from hz];simp only[zP]]
  simp -implicitDefEqProofs only[c44,aW,↓aP,makes,reduceLT,reduceEqDiff,reduceAdd,rB,h0,h1,hz]
  rfl
 by_cases k0:q.k≥0
 case neg =>
  rw[show(len0 q&&inN f.ins.length q.k)=false by rw[show inN f.ins.length q.k=false by simp[inN];omega];simp only[zP,yM]]
  simp -implicitDefEqProofs only[c44,aW,↓aP,makes,reduceLT,reduceEqDiff,reduceAdd,rB,h0,h1,hz,k0]
  rfl
 by_cases k1:q.k<(f.ins.length:Int)
 case neg =>
  rw[show(len0 q&&inN f.ins.length q.k)=false by rw[show inN f.ins.length q.k=false by simp[inN];omega];simp only[zP,yM]]
  simp -implicitDefEqProofs only[c44,aW,↓aP,makes,reduceLT,reduceEqDiff,reduceAdd,rB,h0,h1,hz,k0,rt_f0,lenV_strs,k1]
  rfl
 rw[show len0 q=true from hz,show inN f.ins.length q.k=true by simp[inN];omega]
 simp -implicitDefEqProofs only[c44,aW,↓aP,makes,reduceLT,reduceEqDiff,reduceAdd,rB,h0,h1,hz,k0,rt_f0,lenV_strs,k1]
 rfl
variable(h1:isS q.op [105,110]=false)
include h1
theorem rt44_2(h2:isS q.op [109,101,109]=true):cw 44 [.agg f.cs,.agg q.cs] []=some (.ret (litB (rightOk f q)),rtH f q):=by
 refine cw_of fn44 (c:=c44) rfl rfl rfl rfl ?_
 rw[show rightOk f q=(len0 q&&inN f.mems.length q.k&&within (resM f q.k) f.names.length) by simp only[rightOk,isOne,isTwo,isBin,h0,h1,h2,bB]]
 by_cases hz:((q.args.length:Int)==0)=true
 case neg =>
  rw[zH]at hz
  rw[show(len0 q&&inN f.mems.length q.k&&within (resM f q.k) f.names.length)=false by rw[show len0 q=false from hz];simp only[zP]]
  simp -implicitDefEqProofs only[c44,aW,↓aP,makes,reduceLT,reduceEqDiff,reduceAdd,rB,h0,h1,h2,hz]
  rfl
 by_cases k0:q.k≥0
 case neg =>
  rw[show(len0 q&&inN f.mems.length q.k&&within (resM f q.k) f.names.length)=false by rw[show inN f.mems.length q.k=false by simp[inN];omega];simp only[zP,yM]]
  simp -implicitDefEqProofs only[c44,aW,↓aP,makes,reduceLT,reduceEqDiff,reduceAdd,rB,h0,h1,h2,hz,k0]
  rfl
 by_cases k1:q.k<(f.mems.length:Int)
 case neg =>
  rw[show(len0 q&&inN f.mems.length q.k&&within (resM f q.k) f.names.length)=false by rw[show inN f.mems.length q.k=false by simp[inN];omega];simp only[zP,yM]]
  simp -implicitDefEqProofs only[c44,aW,↓aP,makes,reduceLT,reduceEqDiff,reduceAdd,rB,h0,h1,h2,hz,k0,rt_f4,lenV_mems,k1]
  rfl
 rw[show len0 q=true from hz,show inN f.mems.length q.k=true by simp[inN];omega]
 obtain⟨k,hk⟩:∃k:Nat,q.k=k:=⟨q.k.toNat,by omega⟩
 rw[hk]at k0 k1 ⊢
 have hlt:k<f.mems.length:=by omega
 have hg:f.mems[k]?=some f.mems[k]:=zE hlt
 rw[show resM f k=f.mems[k].resets by simp[resM,hg],zQ,zQ]
 have l3:Ai.load [.row f.cs 29,.row q.cs 60] none (.ptr 1 3)=some (litI .i64 (k:Int)):=by rw[rt_l3,hk]
 have hw:=within_call f.mems[k].resets none f.names.length (hf.1 _ (zV hlt))
 simp -implicitDefEqProofs only[c44,aW,↓aP,makes,reduceLT,reduceEqDiff,reduceAdd,core_box,rt_b8 f,eq_b10 q,zA,zC,yA,fadr_ptr,fadr_ip,zK,rt_l1,rt_l2,lenV_row,bin_isS,h0,h1,h2,hz,k0,rt_f4,lenV_mems,k1,iadr_mems,hg,l3,mem_h7,rt_f1,lenV_strs,hw]
 rfl
variable(h2:isS q.op [109,101,109]=false)
include h2
theorem rt44_3(h3:isS q.op [99,111,110,116]=true):cw 44 [.agg f.cs,.agg q.cs] []=some (.ret (litB (rightOk f q)),rtH f q):=by
 refine cw_of fn44 (c:=c44) rfl rfl rfl rfl ?_
 rw[show rightOk f q=(len0 q&&inN f.conts.length q.k&&within (resK f q.k) f.names.length) by simp only[rightOk,isOne,isTwo,isBin,h0,h1,h2,h3,bB]]
 by_cases hz:((q.args.length:Int)==0)=true
 case neg =>
  rw[zH]at hz
  rw[show(len0 q&&inN f.conts.length q.k&&within (resK f q.k) f.names.length)=false by rw[show len0 q=false from hz];simp only[zP]]
  simp -implicitDefEqProofs only[c44,aW,↓aP,makes,reduceLT,reduceEqDiff,reduceAdd,rB,h0,h1,h2,h3,hz]
  rfl
 by_cases k0:q.k≥0
 case neg =>
  rw[show(len0 q&&inN f.conts.length q.k&&within (resK f q.k) f.names.length)=false by rw[show inN f.conts.length q.k=false by simp[inN];omega];simp only[zP,yM]]
  simp -implicitDefEqProofs only[c44,aW,↓aP,makes,reduceLT,reduceEqDiff,reduceAdd,rB,h0,h1,h2,h3,hz,k0]
  rfl
 by_cases k1:q.k<(f.conts.length:Int)
 case neg =>
  rw[show(len0 q&&inN f.conts.length q.k&&within (resK f q.k) f.names.length)=false by rw[show inN f.conts.length q.k=false by simp[inN];omega];simp only[zP,yM]]
  simp -implicitDefEqProofs only[c44,aW,↓aP,makes,reduceLT,reduceEqDiff,reduceAdd,rB,h0,h1,h2,h3,hz,k0,rt_f5,lenV_conts,k1]
  rfl
 rw[show len0 q=true from hz,show inN f.conts.length q.k=true by simp[inN];omega]
 obtain⟨k,hk⟩:∃k:Nat,q.k=k:=⟨q.k.toNat,by omega⟩
 rw[hk]at k0 k1 ⊢
 have hlt:k<f.conts.length:=by omega
 have hg:f.conts[k]?=some f.conts[k]:=zE hlt
 rw[show resK f k=f.conts[k].resets by simp[resK,hg],zQ,zQ]
 have l3:Ai.load [.row f.cs 29,.row q.cs 60] none (.ptr 1 3)=some (litI .i64 (k:Int)):=by rw[rt_l3,hk]
 have hw:=within_call f.conts[k].resets none f.names.length (hf.2 _ (zV hlt))
 simp -implicitDefEqProofs only[c44,aW,↓aP,makes,reduceLT,reduceEqDiff,reduceAdd,core_box,rt_b8 f,eq_b10 q,zA,zC,yA,fadr_ptr,fadr_ip,zK,rt_l1,rt_l2,lenV_row,bin_isS,h0,h1,h2,h3,hz,k0,rt_f5,lenV_conts,k1,iadr_conts,hg,l3,cont_h7,rt_f1,lenV_strs,hw]
 rfl
variable(h3:isS q.op [99,111,110,116]=false)
include h3
theorem rt44_4(h4:isS q.op [102,108,97,103]=true):cw 44 [.agg f.cs,.agg q.cs] []=some (.ret (litB (rightOk f q)),rtH f q):=by
 refine cw_of fn44 (c:=c44) rfl rfl rfl rfl ?_
 rw[show rightOk f q=(len0 q&&inN f.cross.length q.k) by simp only[rightOk,isOne,isTwo,isBin,h0,h1,h2,h3,h4,bB]]
 by_cases hz:((q.args.length:Int)==0)=true
 case neg =>
  rw[zH]at hz
  rw[show(len0 q&&inN f.cross.length q.k)=false by rw[show len0 q=false from hz];simp only[zP]]
  simp -implicitDefEqProofs only[c44,aW,↓aP,makes,reduceLT,reduceEqDiff,reduceAdd,rB,h0,h1,h2,h3,h4,hz]
  rfl
 by_cases k0:q.k≥0
 case neg =>
  rw[show(len0 q&&inN f.cross.length q.k)=false by rw[show inN f.cross.length q.k=false by simp[inN];omega];simp only[zP,yM]]
  simp -implicitDefEqProofs only[c44,aW,↓aP,makes,reduceLT,reduceEqDiff,reduceAdd,rB,h0,h1,h2,h3,h4,hz,k0]
  rfl
 by_cases k1:q.k<(f.cross.length:Int)
 case neg =>
  rw[show(len0 q&&inN f.cross.length q.k)=false by rw[show inN f.cross.length q.k=false by simp[inN];omega];simp only[zP,yM]]
  simp -implicitDefEqProofs only[c44,aW,↓aP,makes,reduceLT,reduceEqDiff,reduceAdd,rB,h0,h1,h2,h3,h4,hz,k0,rt_f6,lenV_cross,k1]
  rfl
 rw[show len0 q=true from hz,show inN f.cross.length q.k=true by simp[inN];omega]
 simp -implicitDefEqProofs only[c44,aW,↓aP,makes,reduceLT,reduceEqDiff,reduceAdd,rB,h0,h1,h2,h3,h4,hz,k0,rt_f6,lenV_cross,k1]
 rfl
variable(h4:isS q.op [102,108,97,103]=false)
include h4
theorem rt44_5(h5:isS q.op [99,111,112,121]=true):cw 44 [.agg f.cs,.agg q.cs] []=some (.ret (litB (rightOk f q)),rtH f q):=by
 refine cw_of fn44 (c:=c44) rfl rfl rfl rfl ?_
 rw[show rightOk f q=((q.args.length:Int)==1) by simp only[rightOk,isOne,isTwo,isBin,h0,h1,h2,h3,h4,h5,bB]]
 simp -implicitDefEqProofs only[c44,aW,↓aP,makes,reduceLT,reduceEqDiff,reduceAdd,rB,h0,h1,h2,h3,h4,h5]
 rfl
variable(h5:isS q.op [99,111,112,121]=false)
include h5
theorem rt44_6(h6:isS q.op [110,101,103]=true):cw 44 [.agg f.cs,.agg q.cs] []=some (.ret (litB (rightOk f q)),rtH f q):=by
 refine cw_of fn44 (c:=c44) rfl rfl rfl rfl ?_
 rw[show rightOk f q=((q.args.length:Int)==1) by simp only[rightOk,isOne,isTwo,isBin,h0,h1,h2,h3,h4,h5,h6,bB]]
 simp -implicitDefEqProofs only[c44,aW,↓aP,makes,reduceLT,reduceEqDiff,reduceAdd,rB,h0,h1,h2,h3,h4,h5,h6]
 rfl
variable(h6:isS q.op [110,101,103]=false)
include h6
theorem rt44_7(h7:isS q.op [110,111,116]=true):cw 44 [.agg f.cs,.agg q.cs] []=some (.ret (litB (rightOk f q)),rtH f q):=by
 refine cw_of fn44 (c:=c44) rfl rfl rfl rfl ?_
 rw[show rightOk f q=((q.args.length:Int)==1) by simp only[rightOk,isOne,isTwo,isBin,h0,h1,h2,h3,h4,h5,h6,h7,bB]]
 simp -implicitDefEqProofs only[c44,aW,↓aP,makes,reduceLT,reduceEqDiff,reduceAdd,rB,h0,h1,h2,h3,h4,h5,h6,h7]
 rfl
variable(h7:isS q.op [110,111,116]=false)
include h7
theorem rt44_8(h8:isS q.op [102,108,111,111,114]=true):cw 44 [.agg f.cs,.agg q.cs] []=some (.ret (litB (rightOk f q)),rtH f q):=by
 refine cw_of fn44 (c:=c44) rfl rfl rfl rfl ?_
 rw[show rightOk f q=((q.args.length:Int)==1) by simp only[rightOk,isOne,isTwo,isBin,h0,h1,h2,h3,h4,h5,h6,h7,h8,bB]]
 simp -implicitDefEqProofs only[c44,aW,↓aP,makes,reduceLT,reduceEqDiff,reduceAdd,rB,h0,h1,h2,h3,h4,h5,h6,h7,h8]
 rfl
variable(h8:isS q.op [102,108,111,111,114]=false)
include h8
theorem rt44_9(h9:isS q.op [114,97,116]=true):cw 44 [.agg f.cs,.agg q.cs] []=some (.ret (litB (rightOk f q)),rtH f q):=by
 refine cw_of fn44 (c:=c44) rfl rfl rfl rfl ?_
 rw[show rightOk f q=((q.args.length:Int)==1) by simp only[rightOk,isOne,isTwo,isBin,h0,h1,h2,h3,h4,h5,h6,h7,h8,h9,bB]]
 simp -implicitDefEqProofs only[c44,aW,↓aP,makes,reduceLT,reduceEqDiff,reduceAdd,rB,h0,h1,h2,h3,h4,h5,h6,h7,h8,h9]
 rfl
variable(h9:isS q.op [114,97,116]=false)
include h9
theorem rt44_10(h10:isS q.op [103,97,110,100]=true):cw 44 [.agg f.cs,.agg q.cs] []=some (.ret (litB (rightOk f q)),rtH f q):=by
 refine cw_of fn44 (c:=c44) rfl rfl rfl rfl ?_
 rw[show rightOk f q=decide ((q.args.length:Int) > 0) by simp only[rightOk,isOne,isTwo,isBin,h0,h1,h2,h3,h4,h5,h6,h7,h8,h9,h10,bB]]
 simp -implicitDefEqProofs only[c44,aW,↓aP,makes,reduceLT,reduceEqDiff,reduceAdd,rB,h0,h1,h2,h3,h4,h5,h6,h7,h8,h9,h10,rt_ge]
 rfl
variable(h10:isS q.op [103,97,110,100]=false)
include h10
theorem rt44_11(h11:isS q.op [109,114,103]=true):cw 44 [.agg f.cs,.agg q.cs] []=some (.ret (litB (rightOk f q)),rtH f q):=by
 refine cw_of fn44 (c:=c44) rfl rfl rfl rfl ?_
 rw[show rightOk f q=decide ((q.args.length:Int) > 0) by simp only[rightOk,isOne,isTwo,isBin,h0,h1,h2,h3,h4,h5,h6,h7,h8,h9,h10,h11,bB]]
 simp -implicitDefEqProofs only[c44,aW,↓aP,makes,reduceLT,reduceEqDiff,reduceAdd,rB,h0,h1,h2,h3,h4,h5,h6,h7,h8,h9,h10,h11,rt_ge]
 rfl
variable(h11:isS q.op [109,114,103]=false)
include h11
theorem rt44_12(h12:isS q.op [115,101,108]=true):cw 44 [.agg f.cs,.agg q.cs] []=some (.ret (litB (rightOk f q)),rtH f q):=by
 refine cw_of fn44 (c:=c44) rfl rfl rfl rfl ?_
 rw[show rightOk f q=((q.args.length:Int)==3) by simp only[rightOk,isOne,isTwo,isBin,h0,h1,h2,h3,h4,h5,h6,h7,h8,h9,h10,h11,h12,bB]]
 simp -implicitDefEqProofs only[c44,aW,↓aP,makes,reduceLT,reduceEqDiff,reduceAdd,rB,h0,h1,h2,h3,h4,h5,h6,h7,h8,h9,h10,h11,h12]
 rfl
variable(h12:isS q.op [115,101,108]=false)
include h12
theorem rt44_13(h13:isS q.op [43]=true):cw 44 [.agg f.cs,.agg q.cs] []=some (.ret (litB (rightOk f q)),rtH f q):=by
 refine cw_of fn44 (c:=c44) rfl rfl rfl rfl ?_
 rw[show rightOk f q=((q.args.length:Int)==2) by simp only[rightOk,isOne,isTwo,isBin,h0,h1,h2,h3,h4,h5,h6,h7,h8,h9,h10,h11,h12,h13,bB]]
 simp -implicitDefEqProofs only[c44,aW,↓aP,makes,reduceLT,reduceEqDiff,reduceAdd,rB,h0,h1,h2,h3,h4,h5,h6,h7,h8,h9,h10,h11,h12,h13]
 rfl
variable(h13:isS q.op [43]=false)
include h13
theorem rt44_14(h14:isS q.op [45]=true):cw 44 [.agg f.cs,.agg q.cs] []=some (.ret (litB (rightOk f q)),rtH f q):=by
 refine cw_of fn44 (c:=c44) rfl rfl rfl rfl ?_
 rw[show rightOk f q=((q.args.length:Int)==2) by simp only[rightOk,isOne,isTwo,isBin,h0,h1,h2,h3,h4,h5,h6,h7,h8,h9,h10,h11,h12,h13,h14,bB]]
 simp -implicitDefEqProofs only[c44,aW,↓aP,makes,reduceLT,reduceEqDiff,reduceAdd,rB,h0,h1,h2,h3,h4,h5,h6,h7,h8,h9,h10,h11,h12,h13,h14]
 rfl
variable(h14:isS q.op [45]=false)
include h14
theorem rt44_15(h15:isS q.op [42]=true):cw 44 [.agg f.cs,.agg q.cs] []=some (.ret (litB (rightOk f q)),rtH f q):=by
 refine cw_of fn44 (c:=c44) rfl rfl rfl rfl ?_
 rw[show rightOk f q=((q.args.length:Int)==2) by simp only[rightOk,isOne,isTwo,isBin,h0,h1,h2,h3,h4,h5,h6,h7,h8,h9,h10,h11,h12,h13,h14,h15,bB]]
 simp -implicitDefEqProofs only[c44,aW,↓aP,makes,reduceLT,reduceEqDiff,reduceAdd,rB,h0,h1,h2,h3,h4,h5,h6,h7,h8,h9,h10,h11,h12,h13,h14,h15]
 rfl
variable(h15:isS q.op [42]=false)
include h15
theorem rt44_16(h16:isS q.op [47]=true):cw 44 [.agg f.cs,.agg q.cs] []=some (.ret (litB (rightOk f q)),rtH f q):=by
 refine cw_of fn44 (c:=c44) rfl rfl rfl rfl ?_
 rw[show rightOk f q=((q.args.length:Int)==2) by simp only[rightOk,isOne,isTwo,isBin,h0,h1,h2,h3,h4,h5,h6,h7,h8,h9,h10,h11,h12,h13,h14,h15,h16,bB]]
 simp -implicitDefEqProofs only[c44,aW,↓aP,makes,reduceLT,reduceEqDiff,reduceAdd,rB,h0,h1,h2,h3,h4,h5,h6,h7,h8,h9,h10,h11,h12,h13,h14,h15,h16]
 rfl
variable(h16:isS q.op [47]=false)
include h16
theorem rt44_17(h17:isS q.op [100,105,118]=true):cw 44 [.agg f.cs,.agg q.cs] []=some (.ret (litB (rightOk f q)),rtH f q):=by
 refine cw_of fn44 (c:=c44) rfl rfl rfl rfl ?_
 rw[show rightOk f q=((q.args.length:Int)==2) by simp only[rightOk,isOne,isTwo,isBin,h0,h1,h2,h3,h4,h5,h6,h7,h8,h9,h10,h11,h12,h13,h14,h15,h16,h17,bB]]
 simp -implicitDefEqProofs only[c44,aW,↓aP,makes,reduceLT,reduceEqDiff,reduceAdd,rB,h0,h1,h2,h3,h4,h5,h6,h7,h8,h9,h10,h11,h12,h13,h14,h15,h16,h17]
 rfl
variable(h17:isS q.op [100,105,118]=false)
include h17
theorem rt44_18(h18:isS q.op [109,111,100]=true):cw 44 [.agg f.cs,.agg q.cs] []=some (.ret (litB (rightOk f q)),rtH f q):=by
 refine cw_of fn44 (c:=c44) rfl rfl rfl rfl ?_
 rw[show rightOk f q=((q.args.length:Int)==2) by simp only[rightOk,isOne,isTwo,isBin,h0,h1,h2,h3,h4,h5,h6,h7,h8,h9,h10,h11,h12,h13,h14,h15,h16,h17,h18,bB]]
 simp -implicitDefEqProofs only[c44,aW,↓aP,makes,reduceLT,reduceEqDiff,reduceAdd,rB,h0,h1,h2,h3,h4,h5,h6,h7,h8,h9,h10,h11,h12,h13,h14,h15,h16,h17,h18]
 rfl
variable(h18:isS q.op [109,111,100]=false)
include h18
theorem rt44_19(h19:isS q.op [60]=true):cw 44 [.agg f.cs,.agg q.cs] []=some (.ret (litB (rightOk f q)),rtH f q):=by
 refine cw_of fn44 (c:=c44) rfl rfl rfl rfl ?_
 rw[show rightOk f q=((q.args.length:Int)==2) by simp only[rightOk,isOne,isTwo,isBin,h0,h1,h2,h3,h4,h5,h6,h7,h8,h9,h10,h11,h12,h13,h14,h15,h16,h17,h18,h19,bB]]
 simp -implicitDefEqProofs only[c44,aW,↓aP,makes,reduceLT,reduceEqDiff,reduceAdd,rB,h0,h1,h2,h3,h4,h5,h6,h7,h8,h9,h10,h11,h12,h13,h14,h15,h16,h17,h18,h19]
 rfl
variable(h19:isS q.op [60]=false)
include h19
theorem rt44_20(h20:isS q.op [60,61]=true):cw 44 [.agg f.cs,.agg q.cs] []=some (.ret (litB (rightOk f q)),rtH f q):=by
 refine cw_of fn44 (c:=c44) rfl rfl rfl rfl ?_
 rw[show rightOk f q=((q.args.length:Int)==2) by simp only[rightOk,isOne,isTwo,isBin,h0,h1,h2,h3,h4,h5,h6,h7,h8,h9,h10,h11,h12,h13,h14,h15,h16,h17,h18,h19,h20,bB]]
 simp -implicitDefEqProofs only[c44,aW,↓aP,makes,reduceLT,reduceEqDiff,reduceAdd,rB,h0,h1,h2,h3,h4,h5,h6,h7,h8,h9,h10,h11,h12,h13,h14,h15,h16,h17,h18,h19,h20]
 rfl
variable(h20:isS q.op [60,61]=false)
include h20
theorem rt44_21(h21:isS q.op [62]=true):cw 44 [.agg f.cs,.agg q.cs] []=some (.ret (litB (rightOk f q)),rtH f q):=by
 refine cw_of fn44 (c:=c44) rfl rfl rfl rfl ?_
 rw[show rightOk f q=((q.args.length:Int)==2) by simp only[rightOk,isOne,isTwo,isBin,h0,h1,h2,h3,h4,h5,h6,h7,h8,h9,h10,h11,h12,h13,h14,h15,h16,h17,h18,h19,h20,h21,bB]]
 simp -implicitDefEqProofs only[c44,aW,↓aP,makes,reduceLT,reduceEqDiff,reduceAdd,rB,h0,h1,h2,h3,h4,h5,h6,h7,h8,h9,h10,h11,h12,h13,h14,h15,h16,h17,h18,h19,h20,h21]
 rfl
variable(h21:isS q.op [62]=false)
include h21
theorem rt44_22(h22:isS q.op [62,61]=true):cw 44 [.agg f.cs,.agg q.cs] []=some (.ret (litB (rightOk f q)),rtH f q):=by
 refine cw_of fn44 (c:=c44) rfl rfl rfl rfl ?_
 rw[show rightOk f q=((q.args.length:Int)==2) by simp only[rightOk,isOne,isTwo,isBin,h0,h1,h2,h3,h4,h5,h6,h7,h8,h9,h10,h11,h12,h13,h14,h15,h16,h17,h18,h19,h20,h21,h22,bB]]
 simp -implicitDefEqProofs only[c44,aW,↓aP,makes,reduceLT,reduceEqDiff,reduceAdd,rB,h0,h1,h2,h3,h4,h5,h6,h7,h8,h9,h10,h11,h12,h13,h14,h15,h16,h17,h18,h19,h20,h21,h22]
 rfl
variable(h22:isS q.op [62,61]=false)
include h22
theorem rt44_23(h23:isS q.op [61,61]=true):cw 44 [.agg f.cs,.agg q.cs] []=some (.ret (litB (rightOk f q)),rtH f q):=by
 refine cw_of fn44 (c:=c44) rfl rfl rfl rfl ?_
 rw[show rightOk f q=((q.args.length:Int)==2) by simp only[rightOk,isOne,isTwo,isBin,h0,h1,h2,h3,h4,h5,h6,h7,h8,h9,h10,h11,h12,h13,h14,h15,h16,h17,h18,h19,h20,h21,h22,h23,bB]]
 simp -implicitDefEqProofs only[c44,aW,↓aP,makes,reduceLT,reduceEqDiff,reduceAdd,rB,h0,h1,h2,h3,h4,h5,h6,h7,h8,h9,h10,h11,h12,h13,h14,h15,h16,h17,h18,h19,h20,h21,h22,h23]
 rfl
variable(h23:isS q.op [61,61]=false)
include h23
theorem rt44_24(h24:isS q.op [33,61]=true):cw 44 [.agg f.cs,.agg q.cs] []=some (.ret (litB (rightOk f q)),rtH f q):=by
 refine cw_of fn44 (c:=c44) rfl rfl rfl rfl ?_
 rw[show rightOk f q=((q.args.length:Int)==2) by simp only[rightOk,isOne,isTwo,isBin,h0,h1,h2,h3,h4,h5,h6,h7,h8,h9,h10,h11,h12,h13,h14,h15,h16,h17,h18,h19,h20,h21,h22,h23,h24,bB]]
 simp -implicitDefEqProofs only[c44,aW,↓aP,makes,reduceLT,reduceEqDiff,reduceAdd,rB,h0,h1,h2,h3,h4,h5,h6,h7,h8,h9,h10,h11,h12,h13,h14,h15,h16,h17,h18,h19,h20,h21,h22,h23,h24]
 rfl
variable(h24:isS q.op [33,61]=false)
include h24
theorem rt44_25(h25:isS q.op [97,110,100]=true):cw 44 [.agg f.cs,.agg q.cs] []=some (.ret (litB (rightOk f q)),rtH f q):=by
 refine cw_of fn44 (c:=c44) rfl rfl rfl rfl ?_
 rw[show rightOk f q=((q.args.length:Int)==2) by simp only[rightOk,isOne,isTwo,isBin,h0,h1,h2,h3,h4,h5,h6,h7,h8,h9,h10,h11,h12,h13,h14,h15,h16,h17,h18,h19,h20,h21,h22,h23,h24,h25,bB]]
 simp -implicitDefEqProofs only[c44,aW,↓aP,makes,reduceLT,reduceEqDiff,reduceAdd,rB,h0,h1,h2,h3,h4,h5,h6,h7,h8,h9,h10,h11,h12,h13,h14,h15,h16,h17,h18,h19,h20,h21,h22,h23,h24,h25]
 rfl
variable(h25:isS q.op [97,110,100]=false)
include h25
theorem rt44_26(h26:isS q.op [111,114]=true):cw 44 [.agg f.cs,.agg q.cs] []=some (.ret (litB (rightOk f q)),rtH f q):=by
 refine cw_of fn44 (c:=c44) rfl rfl rfl rfl ?_
 rw[show rightOk f q=((q.args.length:Int)==2) by simp only[rightOk,isOne,isTwo,isBin,h0,h1,h2,h3,h4,h5,h6,h7,h8,h9,h10,h11,h12,h13,h14,h15,h16,h17,h18,h19,h20,h21,h22,h23,h24,h25,h26,bB]]
 simp -implicitDefEqProofs only[c44,aW,↓aP,makes,reduceLT,reduceEqDiff,reduceAdd,rB,h0,h1,h2,h3,h4,h5,h6,h7,h8,h9,h10,h11,h12,h13,h14,h15,h16,h17,h18,h19,h20,h21,h22,h23,h24,h25,h26]
 rfl
variable(h26:isS q.op [111,114]=false)
include h26
theorem rt44_27:cw 44 [.agg f.cs,.agg q.cs] []=some (.ret (litB (rightOk f q)),rtH f q):=by
 refine cw_of fn44 (c:=c44) rfl rfl rfl rfl ?_
 rw[show rightOk f q=false by simp only[rightOk,isOne,isTwo,isBin,h0,h1,h2,h3,h4,h5,h6,h7,h8,h9,h10,h11,h12,h13,h14,h15,h16,h17,h18,h19,h20,h21,h22,h23,h24,h25,h26,bB]]
 simp -implicitDefEqProofs only[c44,aW,↓aP,makes,reduceLT,reduceEqDiff,reduceAdd,rB,h0,h1,h2,h3,h4,h5,h6,h7,h8,h9,h10,h11,h12,h13,h14,h15,h16,h17,h18,h19,h20,h21,h22,h23,h24,h25,h26]
 rfl
end
theorem right_tells(f:FlatV)(q:Eqn)(hf:Fits f):cw 44 [.agg f.cs,.agg q.cs] []=some (.ret (litB (rightOk f q)),rtH f q):=by
 by_cases h0:isS q.op [108,105,116]=true
 ·exact rt44_0 f q hf h0
 rw[zH]at h0
 by_cases h1:isS q.op [105,110]=true
 ·exact rt44_1 f q hf h0 h1
 rw[zH]at h1
 by_cases h2:isS q.op [109,101,109]=true
 ·exact rt44_2 f q hf h0 h1 h2
 rw[zH]at h2
 by_cases h3:isS q.op [99,111,110,116]=true
 ·exact rt44_3 f q hf h0 h1 h2 h3
 rw[zH]at h3
 by_cases h4:isS q.op [102,108,97,103]=true
 ·exact rt44_4 f q hf h0 h1 h2 h3 h4
 rw[zH]at h4
 by_cases h5:isS q.op [99,111,112,121]=true
 ·exact rt44_5 f q hf h0 h1 h2 h3 h4 h5
 rw[zH]at h5
 by_cases h6:isS q.op [110,101,103]=true
 ·exact rt44_6 f q hf h0 h1 h2 h3 h4 h5 h6
 rw[zH]at h6
 by_cases h7:isS q.op [110,111,116]=true
 ·exact rt44_7 f q hf h0 h1 h2 h3 h4 h5 h6 h7
 rw[zH]at h7
 by_cases h8:isS q.op [102,108,111,111,114]=true
 ·exact rt44_8 f q hf h0 h1 h2 h3 h4 h5 h6 h7 h8
 rw[zH]at h8
 by_cases h9:isS q.op [114,97,116]=true
 ·exact rt44_9 f q hf h0 h1 h2 h3 h4 h5 h6 h7 h8 h9
 rw[zH]at h9
 by_cases h10:isS q.op [103,97,110,100]=true
 ·exact rt44_10 f q hf h0 h1 h2 h3 h4 h5 h6 h7 h8 h9 h10
 rw[zH]at h10
 by_cases h11:isS q.op [109,114,103]=true
 ·exact rt44_11 f q hf h0 h1 h2 h3 h4 h5 h6 h7 h8 h9 h10 h11
 rw[zH]at h11
 by_cases h12:isS q.op [115,101,108]=true
 ·exact rt44_12 f q hf h0 h1 h2 h3 h4 h5 h6 h7 h8 h9 h10 h11 h12
 rw[zH]at h12
 by_cases h13:isS q.op [43]=true
 ·exact rt44_13 f q hf h0 h1 h2 h3 h4 h5 h6 h7 h8 h9 h10 h11 h12 h13
 rw[zH]at h13
 by_cases h14:isS q.op [45]=true
 ·exact rt44_14 f q hf h0 h1 h2 h3 h4 h5 h6 h7 h8 h9 h10 h11 h12 h13 h14
 rw[zH]at h14
 by_cases h15:isS q.op [42]=true
 ·exact rt44_15 f q hf h0 h1 h2 h3 h4 h5 h6 h7 h8 h9 h10 h11 h12 h13 h14 h15
 rw[zH]at h15
 by_cases h16:isS q.op [47]=true
 ·exact rt44_16 f q hf h0 h1 h2 h3 h4 h5 h6 h7 h8 h9 h10 h11 h12 h13 h14 h15 h16
 rw[zH]at h16
 by_cases h17:isS q.op [100,105,118]=true
 ·exact rt44_17 f q hf h0 h1 h2 h3 h4 h5 h6 h7 h8 h9 h10 h11 h12 h13 h14 h15 h16 h17
 rw[zH]at h17
 by_cases h18:isS q.op [109,111,100]=true
 ·exact rt44_18 f q hf h0 h1 h2 h3 h4 h5 h6 h7 h8 h9 h10 h11 h12 h13 h14 h15 h16 h17 h18
 rw[zH]at h18
 by_cases h19:isS q.op [60]=true
 ·exact rt44_19 f q hf h0 h1 h2 h3 h4 h5 h6 h7 h8 h9 h10 h11 h12 h13 h14 h15 h16 h17 h18 h19
 rw[zH]at h19
 by_cases h20:isS q.op [60,61]=true
 ·exact rt44_20 f q hf h0 h1 h2 h3 h4 h5 h6 h7 h8 h9 h10 h11 h12 h13 h14 h15 h16 h17 h18 h19 h20
 rw[zH]at h20
 by_cases h21:isS q.op [62]=true
 ·exact rt44_21 f q hf h0 h1 h2 h3 h4 h5 h6 h7 h8 h9 h10 h11 h12 h13 h14 h15 h16 h17 h18 h19 h20 h21
 rw[zH]at h21
 by_cases h22:isS q.op [62,61]=true
 ·exact rt44_22 f q hf h0 h1 h2 h3 h4 h5 h6 h7 h8 h9 h10 h11 h12 h13 h14 h15 h16 h17 h18 h19 h20 h21 h22
 rw[zH]at h22
 by_cases h23:isS q.op [61,61]=true
 ·exact rt44_23 f q hf h0 h1 h2 h3 h4 h5 h6 h7 h8 h9 h10 h11 h12 h13 h14 h15 h16 h17 h18 h19 h20 h21 h22 h23
 rw[zH]at h23
 by_cases h24:isS q.op [33,61]=true
 ·exact rt44_24 f q hf h0 h1 h2 h3 h4 h5 h6 h7 h8 h9 h10 h11 h12 h13 h14 h15 h16 h17 h18 h19 h20 h21 h22 h23 h24
 rw[zH]at h24
 by_cases h25:isS q.op [97,110,100]=true
 ·exact rt44_25 f q hf h0 h1 h2 h3 h4 h5 h6 h7 h8 h9 h10 h11 h12 h13 h14 h15 h16 h17 h18 h19 h20 h21 h22 h23 h24 h25
 rw[zH]at h25
 by_cases h26:isS q.op [111,114]=true
 ·exact rt44_26 f q hf h0 h1 h2 h3 h4 h5 h6 h7 h8 h9 h10 h11 h12 h13 h14 h15 h16 h17 h18 h19 h20 h21 h22 h23 h24 h25 h26
 rw[zH]at h26
 exact rt44_27 f q hf h0 h1 h2 h3 h4 h5 h6 h7 h8 h9 h10 h11 h12 h13 h14 h15 h16 h17 h18 h19 h20 h21 h22 h23 h24 h25 h26
theorem right_call(f:FlatV)(q:Eqn)(hf:Fits f)(H:List AO)(id:Nat):callV cw mds 44 [.agg f.cs,.agg q.cs] H id=some (.val (litB (rightOk f q)) none):=callV_pureA rfl rfl (right_tells f q hf) rfl
end
section
def lenI(o:COpV)(n:Int):Bool:=(o.args.length:Int)==n
def opOk(f:FlatV)(n i:Nat)(o:COpV):Bool :=
 bif isS o.op [118,97,114]then lenI o 1&&within o.args n else bif isS o.op [99,111,110,116]then lenI o 1&&within o.args f.conts.length else bif isS o.op [110,101,103]then lenI o 1&&within o.args i
 else bif isS o.op [43]||isS o.op [45]||isS o.op [47]then lenI o 2&&within o.args i else bif isS o.op [42]then lenI o 3&&within (o.args.take 2) i&&within (o.args.drop 2) 2
 else bif isS o.op [115,101,108]then lenI o 3&&within (o.args.take 1) n&&within (o.args.drop 1) i else false
def opsF(f:FlatV)(n:Nat):Nat→List COpV→Bool
 | _,[]=>true
 | i,o::r=>opOk f n i o&&opsF f n (i+1) r
def opsOk(f:FlatV)(n:Nat)(l:List COpV):Bool:=opsF f n 0 l&&decide ((l.length:Int) > 0)
theorem cop_h1(o:COpV):(List.drop 1 o.cs).head?=some (rowC o.args none):=rfl
theorem cop_h0(o:COpV):(List.drop 0 o.cs).head?=some (litS o.op):=rfl
theorem sli_2(x y z:Int):slice 1 (rowC [x,y,z] none) none (some (litI .i64 2)) none=some (rowC [x,y] none):=rfl
theorem sli_1(x y z:Int):slice 1 (rowC [x,y,z] none) none (some (litI .i64 1)) none=some (rowC [x] none):=rfl
theorem sli_2d(x y z:Int):slice 1 (rowC [x,y,z] none) (some (litI .i64 2)) none none=some (rowC [z] none):=rfl
theorem sli_1d(x y z:Int):slice 1 (rowC [x,y,z] none) (some (litI .i64 1)) none none=some (rowC [y,z] none):=rfl
theorem list3(l:List Int)(h:((l.length:Int)==3)=true):∃x y z,l=[x,y,z]:=by
 have:l.length=3:=by have:=eq_of_beq h;omega
 match l,this with
 | [x,y,z],_=>exact⟨x,y,z,rfl⟩
theorem as_f5(f:FlatV):Ai.load [.row f.cs 29] none (.ptr 0 5)=some (contsA f.conts):=rfl
theorem asks_round_0(f:FlatV)(n i:Nat)(l:List COpV)(o:COpV)(hi:l[i]?=some o)(hlt:(i:Int)<l.length)(hn:i<4611686018427387904)(h0:isS o.op [118,97,114]=true) :
  codeW cw (lookM mtl) mds c45l0 [(1,copsA l),(2,litI .i64 n),(3,.ptr 0 0),(7,litI .i64 i)] [.row f.cs 29]=some (bif opOk f n i o then(.normal,[(1,copsA l),(2,litI .i64 n),(3,.ptr 0 0),(7,litI .i64 ((i+1:Nat):Int))],[.row f.cs 29])else(.ret,[(6,litB false)],[.row f.cs 29])):=by
 rw[show opOk f n i o=(lenI o 1&&within o.args n) by simp only[opOk,h0,bB]]
 by_cases hz:((o.args.length:Int)==1)=true
 case neg =>
  rw[zH]at hz
  rw[show lenI o 1=false from hz]
  simp only[zP,cond_false]
  simp -implicitDefEqProofs only[c45l0,aW,↓aP,makes,reduceLT,reduceEqDiff,reduceAdd,lenV_cops,iadr_cops,hi,hlt,fadr_ip,fadr_ptr,cop_h1,cop_h0,zB,bin_isS,lenV_row,wrap1 hn,lenV_conts,as_f5,h0,hz]
 rw[show lenI o 1=true from hz]
 have hl:o.args.length≤1000000:=by have:=eq_of_beq hz;omega
 have hW:=within_call o.args none n hl
 cases hw:within o.args n with
 | true =>
  rw[hw]at hW
  simp only[zQ,cond_true]
  simp -implicitDefEqProofs only[c45l0,aW,↓aP,makes,reduceLT,reduceEqDiff,reduceAdd,lenV_cops,iadr_cops,hi,hlt,fadr_ip,fadr_ptr,cop_h1,cop_h0,zB,bin_isS,lenV_row,wrap1 hn,lenV_conts,as_f5,h0,hz,hW]
 | false =>
  rw[hw]at hW
  simp only[zQ,cond_false]
  simp -implicitDefEqProofs only[c45l0,aW,↓aP,makes,reduceLT,reduceEqDiff,reduceAdd,lenV_cops,iadr_cops,hi,hlt,fadr_ip,fadr_ptr,cop_h1,cop_h0,zB,bin_isS,lenV_row,wrap1 hn,lenV_conts,as_f5,h0,hz,hW]
theorem asks_round_1(f:FlatV)(n i:Nat)(l:List COpV)(o:COpV)(hi:l[i]?=some o)(hlt:(i:Int)<l.length)(hn:i<4611686018427387904)(h0:isS o.op [118,97,114]=false)(h1:isS o.op [99,111,110,116]=true) :
  codeW cw (lookM mtl) mds c45l0 [(1,copsA l),(2,litI .i64 n),(3,.ptr 0 0),(7,litI .i64 i)] [.row f.cs 29]=some (bif opOk f n i o then(.normal,[(1,copsA l),(2,litI .i64 n),(3,.ptr 0 0),(7,litI .i64 ((i+1:Nat):Int))],[.row f.cs 29])else(.ret,[(6,litB false)],[.row f.cs 29])):=by
 rw[show opOk f n i o=(lenI o 1&&within o.args f.conts.length) by simp only[opOk,h0,h1,bB]]
 by_cases hz:((o.args.length:Int)==1)=true
 case neg =>
  rw[zH]at hz
  rw[show lenI o 1=false from hz]
  simp only[zP,cond_false]
  simp -implicitDefEqProofs only[c45l0,aW,↓aP,makes,reduceLT,reduceEqDiff,reduceAdd,lenV_cops,iadr_cops,hi,hlt,fadr_ip,fadr_ptr,cop_h1,cop_h0,zB,bin_isS,lenV_row,wrap1 hn,lenV_conts,as_f5,h0,h1,hz]
 rw[show lenI o 1=true from hz]
 have hl:o.args.length≤1000000:=by have:=eq_of_beq hz;omega
 have hW:=within_call o.args none f.conts.length hl
 cases hw:within o.args f.conts.length with
 | true =>
  rw[hw]at hW
  simp only[zQ,cond_true]
  simp -implicitDefEqProofs only[c45l0,aW,↓aP,makes,reduceLT,reduceEqDiff,reduceAdd,lenV_cops,iadr_cops,hi,hlt,fadr_ip,fadr_ptr,cop_h1,cop_h0,zB,bin_isS,lenV_row,wrap1 hn,lenV_conts,as_f5,h0,h1,hz,hW]
 | false =>
  rw[hw]at hW
  simp only[zQ,cond_false]
  simp -implicitDefEqProofs only[c45l0,aW,↓aP,makes,reduceLT,reduceEqDiff,reduceAdd,lenV_cops,iadr_cops,hi,hlt,fadr_ip,fadr_ptr,cop_h1,cop_h0,zB,bin_isS,lenV_row,wrap1 hn,lenV_conts,as_f5,h0,h1,hz,hW]
theorem asks_round_2(f:FlatV)(n i:Nat)(l:List COpV)(o:COpV)(hi:l[i]?=some o)(hlt:(i:Int)<l.length)(hn:i<4611686018427387904)(h0:isS o.op [118,97,114]=false)(h1:isS o.op [99,111,110,116]=false)(h2:isS o.op [110,101,103]=true) :
  codeW cw (lookM mtl) mds c45l0 [(1,copsA l),(2,litI .i64 n),(3,.ptr 0 0),(7,litI .i64 i)] [.row f.cs 29]=some (bif opOk f n i o then(.normal,[(1,copsA l),(2,litI .i64 n),(3,.ptr 0 0),(7,litI .i64 ((i+1:Nat):Int))],[.row f.cs 29])else(.ret,[(6,litB false)],[.row f.cs 29])):=by
 rw[show opOk f n i o=(lenI o 1&&within o.args i) by simp only[opOk,h0,h1,h2,bB]]
 by_cases hz:((o.args.length:Int)==1)=true
 case neg =>
  rw[zH]at hz
  rw[show lenI o 1=false from hz]
  simp only[zP,cond_false]
  simp -implicitDefEqProofs only[c45l0,aW,↓aP,makes,reduceLT,reduceEqDiff,reduceAdd,lenV_cops,iadr_cops,hi,hlt,fadr_ip,fadr_ptr,cop_h1,cop_h0,zB,bin_isS,lenV_row,wrap1 hn,lenV_conts,as_f5,h0,h1,h2,hz]
 rw[show lenI o 1=true from hz]
 have hl:o.args.length≤1000000:=by have:=eq_of_beq hz;omega
 have hW:=within_call o.args none i hl
 cases hw:within o.args i with
 | true =>
  rw[hw]at hW
  simp only[zQ,cond_true]
  simp -implicitDefEqProofs only[c45l0,aW,↓aP,makes,reduceLT,reduceEqDiff,reduceAdd,lenV_cops,iadr_cops,hi,hlt,fadr_ip,fadr_ptr,cop_h1,cop_h0,zB,bin_isS,lenV_row,wrap1 hn,lenV_conts,as_f5,h0,h1,h2,hz,hW]
 | false =>
  rw[hw]at hW
  simp only[zQ,cond_false]
  simp -implicitDefEqProofs only[c45l0,aW,↓aP,makes,reduceLT,reduceEqDiff,reduceAdd,lenV_cops,iadr_cops,hi,hlt,fadr_ip,fadr_ptr,cop_h1,cop_h0,zB,bin_isS,lenV_row,wrap1 hn,lenV_conts,as_f5,h0,h1,h2,hz,hW]
theorem asks_round_3(f:FlatV)(n i:Nat)(l:List COpV)(o:COpV)(hi:l[i]?=some o)(hlt:(i:Int)<l.length)(hn:i<4611686018427387904)(h0:isS o.op [118,97,114]=false)(h1:isS o.op [99,111,110,116]=false)(h2:isS o.op [110,101,103]=false)(h3:isS o.op [43]=true) :
  codeW cw (lookM mtl) mds c45l0 [(1,copsA l),(2,litI .i64 n),(3,.ptr 0 0),(7,litI .i64 i)] [.row f.cs 29]=some (bif opOk f n i o then(.normal,[(1,copsA l),(2,litI .i64 n),(3,.ptr 0 0),(7,litI .i64 ((i+1:Nat):Int))],[.row f.cs 29])else(.ret,[(6,litB false)],[.row f.cs 29])):=by
 rw[show opOk f n i o=(lenI o 2&&within o.args i) by simp only[opOk,h0,h1,h2,h3,bB]]
 by_cases hz:((o.args.length:Int)==2)=true
 case neg =>
  rw[zH]at hz
  rw[show lenI o 2=false from hz]
  simp only[zP,cond_false]
  simp -implicitDefEqProofs only[c45l0,aW,↓aP,makes,reduceLT,reduceEqDiff,reduceAdd,lenV_cops,iadr_cops,hi,hlt,fadr_ip,fadr_ptr,cop_h1,cop_h0,zB,bin_isS,lenV_row,wrap1 hn,lenV_conts,as_f5,h0,h1,h2,h3,hz]
 rw[show lenI o 2=true from hz]
 have hl:o.args.length≤1000000:=by have:=eq_of_beq hz;omega
 have hW:=within_call o.args none i hl
 cases hw:within o.args i with
 | true =>
  rw[hw]at hW
  simp only[zQ,cond_true]
  simp -implicitDefEqProofs only[c45l0,aW,↓aP,makes,reduceLT,reduceEqDiff,reduceAdd,lenV_cops,iadr_cops,hi,hlt,fadr_ip,fadr_ptr,cop_h1,cop_h0,zB,bin_isS,lenV_row,wrap1 hn,lenV_conts,as_f5,h0,h1,h2,h3,hz,hW]
 | false =>
  rw[hw]at hW
  simp only[zQ,cond_false]
  simp -implicitDefEqProofs only[c45l0,aW,↓aP,makes,reduceLT,reduceEqDiff,reduceAdd,lenV_cops,iadr_cops,hi,hlt,fadr_ip,fadr_ptr,cop_h1,cop_h0,zB,bin_isS,lenV_row,wrap1 hn,lenV_conts,as_f5,h0,h1,h2,h3,hz,hW]
theorem asks_round_4(f:FlatV)(n i:Nat)(l:List COpV)(o:COpV)(hi:l[i]?=some o)(hlt:(i:Int)<l.length)(hn:i<4611686018427387904)(h0:isS o.op [118,97,114]=false)(h1:isS o.op [99,111,110,116]=false)(h2:isS o.op [110,101,103]=false)(h3:isS o.op [43]=false)(h4:isS o.op [45]=true) :
  codeW cw (lookM mtl) mds c45l0 [(1,copsA l),(2,litI .i64 n),(3,.ptr 0 0),(7,litI .i64 i)] [.row f.cs 29]=some (bif opOk f n i o then(.normal,[(1,copsA l),(2,litI .i64 n),(3,.ptr 0 0),(7,litI .i64 ((i+1:Nat):Int))],[.row f.cs 29])else(.ret,[(6,litB false)],[.row f.cs 29])):=by
 rw[show opOk f n i o=(lenI o 2&&within o.args i) by simp only[opOk,h0,h1,h2,h3,h4,bB]]
 by_cases hz:((o.args.length:Int)==2)=true
 case neg =>
  rw[zH]at hz
  rw[show lenI o 2=false from hz]
  simp only[zP,cond_false]
  simp -implicitDefEqProofs only[c45l0,aW,↓aP,makes,reduceLT,reduceEqDiff,reduceAdd,lenV_cops,iadr_cops,hi,hlt,fadr_ip,fadr_ptr,cop_h1,cop_h0,zB,bin_isS,lenV_row,wrap1 hn,lenV_conts,as_f5,h0,h1,h2,h3,h4,hz]
 rw[show lenI o 2=true from hz]
 have hl:o.args.length≤1000000:=by have:=eq_of_beq hz;omega
 have hW:=within_call o.args none i hl
 cases hw:within o.args i with
 | true =>
  rw[hw]at hW
  simp only[zQ,cond_true]
  simp -implicitDefEqProofs only[c45l0,aW,↓aP,makes,reduceLT,reduceEqDiff,reduceAdd,lenV_cops,iadr_cops,hi,hlt,fadr_ip,fadr_ptr,cop_h1,cop_h0,zB,bin_isS,lenV_row,wrap1 hn,lenV_conts,as_f5,h0,h1,h2,h3,h4,hz,hW]
 | false =>
  rw[hw]at hW
  simp only[zQ,cond_false]
  simp -implicitDefEqProofs only[c45l0,aW,↓aP,makes,reduceLT,reduceEqDiff,reduceAdd,lenV_cops,iadr_cops,hi,hlt,fadr_ip,fadr_ptr,cop_h1,cop_h0,zB,bin_isS,lenV_row,wrap1 hn,lenV_conts,as_f5,h0,h1,h2,h3,h4,hz,hW]
theorem asks_round_5(f:FlatV)(n i:Nat)(l:List COpV)(o:COpV)(hi:l[i]?=some o)(hlt:(i:Int)<l.length)(hn:i<4611686018427387904)(h0:isS o.op [118,97,114]=false)(h1:isS o.op [99,111,110,116]=false)(h2:isS o.op [110,101,103]=false)(h3:isS o.op [43]=false)(h4:isS o.op [45]=false)(h5:isS o.op [47]=true) :
  codeW cw (lookM mtl) mds c45l0 [(1,copsA l),(2,litI .i64 n),(3,.ptr 0 0),(7,litI .i64 i)] [.row f.cs 29]=some (bif opOk f n i o then(.normal,[(1,copsA l),(2,litI .i64 n),(3,.ptr 0 0),(7,litI .i64 ((i+1:Nat):Int))],[.row f.cs 29])else(.ret,[(6,litB false)],[.row f.cs 29])):=by
 rw[show opOk f n i o=(lenI o 2&&within o.args i) by simp only[opOk,h0,h1,h2,h3,h4,h5,bB]]
 by_cases hz:((o.args.length:Int)==2)=true
 case neg =>
  rw[zH]at hz
  rw[show lenI o 2=false from hz]
  simp only[zP,cond_false]
  simp -implicitDefEqProofs only[c45l0,aW,↓aP,makes,reduceLT,reduceEqDiff,reduceAdd,lenV_cops,iadr_cops,hi,hlt,fadr_ip,fadr_ptr,cop_h1,cop_h0,zB,bin_isS,lenV_row,wrap1 hn,lenV_conts,as_f5,h0,h1,h2,h3,h4,h5,hz]
 rw[show lenI o 2=true from hz]
 have hl:o.args.length≤1000000:=by have:=eq_of_beq hz;omega
 have hW:=within_call o.args none i hl
 cases hw:within o.args i with
 | true =>
  rw[hw]at hW
  simp only[zQ,cond_true]
  simp -implicitDefEqProofs only[c45l0,aW,↓aP,makes,reduceLT,reduceEqDiff,reduceAdd,lenV_cops,iadr_cops,hi,hlt,fadr_ip,fadr_ptr,cop_h1,cop_h0,zB,bin_isS,lenV_row,wrap1 hn,lenV_conts,as_f5,h0,h1,h2,h3,h4,h5,hz,hW]
 | false =>
  rw[hw]at hW
  simp only[zQ,cond_false]
  simp -implicitDefEqProofs only[c45l0,aW,↓aP,makes,reduceLT,reduceEqDiff,reduceAdd,lenV_cops,iadr_cops,hi,hlt,fadr_ip,fadr_ptr,cop_h1,cop_h0,zB,bin_isS,lenV_row,wrap1 hn,lenV_conts,as_f5,h0,h1,h2,h3,h4,h5,hz,hW]
theorem asks_round_6(f:FlatV)(n i:Nat)(l:List COpV)(o:COpV)(hi:l[i]?=some o)(hlt:(i:Int)<l.length)(hn:i<4611686018427387904)(h0:isS o.op [118,97,114]=false)(h1:isS o.op [99,111,110,116]=false)(h2:isS o.op [110,101,103]=false)(h3:isS o.op [43]=false)(h4:isS o.op [45]=false)(h5:isS o.op [47]=false)(h6:isS o.op [42]=true) :
  codeW cw (lookM mtl) mds c45l0 [(1,copsA l),(2,litI .i64 n),(3,.ptr 0 0),(7,litI .i64 i)] [.row f.cs 29]=some (bif opOk f n i o then(.normal,[(1,copsA l),(2,litI .i64 n),(3,.ptr 0 0),(7,litI .i64 ((i+1:Nat):Int))],[.row f.cs 29])else(.ret,[(6,litB false)],[.row f.cs 29])):=by
 rw[show opOk f n i o=(lenI o 3&&within (o.args.take 2) i&&within (o.args.drop 2) 2) by simp only[opOk,h0,h1,h2,h3,h4,h5,h6,bB]]
 by_cases hz:((o.args.length:Int)==3)=true
 case neg =>
  rw[zH]at hz
  rw[show lenI o 3=false from hz]
  simp only[zP,cond_false]
  simp -implicitDefEqProofs only[c45l0,aW,↓aP,makes,reduceLT,reduceEqDiff,reduceAdd,lenV_cops,iadr_cops,hi,hlt,fadr_ip,fadr_ptr,cop_h1,cop_h0,zB,bin_isS,lenV_row,wrap1 hn,lenV_conts,as_f5,h0,h1,h2,h3,h4,h5,h6,hz]
 rw[show lenI o 3=true from hz]
 obtain⟨x,y,z,ha⟩:=list3 o.args hz
 rw[ha]at hz ⊢
 have hW1:=within_call [x,y] none i (by simp)
 have hW2:∀H id,callV cw mds 43 [rowC [z] none,litI .i64 2] H id=some (.val (litB (within [z] 2)) none):=fun H id=>within_call [z] none 2 (by simp) H id
 simp only[List.take,List.drop,zQ]
 cases hw:within [x,y] i with
 | false =>
  rw[hw]at hW1
  simp only[zP,cond_false]
  simp -implicitDefEqProofs only[c45l0,aW,↓aP,makes,reduceLT,reduceEqDiff,reduceAdd,lenV_cops,iadr_cops,hi,hlt,fadr_ip,fadr_ptr,cop_h1,cop_h0,zB,bin_isS,lenV_row,wrap1 hn,lenV_conts,as_f5,h0,h1,h2,h3,h4,h5,h6,ha,sli_1,sli_2,sli_1d,sli_2d,hz,hW1]
 | true =>
 rw[hw]at hW1
 cases hv:within [z] 2 with
 | true =>
  rw[hv]at hW2
  simp only[zQ,cond_true]
  simp -implicitDefEqProofs only[c45l0,aW,↓aP,makes,reduceLT,reduceEqDiff,reduceAdd,lenV_cops,iadr_cops,hi,hlt,fadr_ip,fadr_ptr,cop_h1,cop_h0,zB,bin_isS,lenV_row,wrap1 hn,lenV_conts,as_f5,h0,h1,h2,h3,h4,h5,h6,ha,sli_1,sli_2,sli_1d,sli_2d,hz,hW1,hW2]
 | false =>
  rw[hv]at hW2
  simp only[zQ,cond_false]
  simp -implicitDefEqProofs only[c45l0,aW,↓aP,makes,reduceLT,reduceEqDiff,reduceAdd,lenV_cops,iadr_cops,hi,hlt,fadr_ip,fadr_ptr,cop_h1,cop_h0,zB,bin_isS,lenV_row,wrap1 hn,lenV_conts,as_f5,h0,h1,h2,h3,h4,h5,h6,ha,sli_1,sli_2,sli_1d,sli_2d,hz,hW1,hW2]
theorem asks_round_7(f:FlatV)(n i:Nat)(l:List COpV)(o:COpV)(hi:l[i]?=some o)(hlt:(i:Int)<l.length)(hn:i<4611686018427387904)(h0:isS o.op [118,97,114]=false)(h1:isS o.op [99,111,110,116]=false)(h2:isS o.op [110,101,103]=false)(h3:isS o.op [43]=false)(h4:isS o.op [45]=false)(h5:isS o.op [47]=false)(h6:isS o.op [42]=false)(h7:isS o.op [115,101,108]=true) :
  codeW cw (lookM mtl) mds c45l0 [(1,copsA l),(2,litI .i64 n),(3,.ptr 0 0),(7,litI .i64 i)] [.row f.cs 29]=some (bif opOk f n i o then(.normal,[(1,copsA l),(2,litI .i64 n),(3,.ptr 0 0),(7,litI .i64 ((i+1:Nat):Int))],[.row f.cs 29])else(.ret,[(6,litB false)],[.row f.cs 29])):=by
 rw[show opOk f n i o=(lenI o 3&&within (o.args.take 1) n&&within (o.args.drop 1) i) by simp only[opOk,h0,h1,h2,h3,h4,h5,h6,h7,bB]]
 by_cases hz:((o.args.length:Int)==3)=true
 case neg =>
  rw[zH]at hz
  rw[show lenI o 3=false from hz]
  simp only[zP,cond_false]
  simp -implicitDefEqProofs only[c45l0,aW,↓aP,makes,reduceLT,reduceEqDiff,reduceAdd,lenV_cops,iadr_cops,hi,hlt,fadr_ip,fadr_ptr,cop_h1,cop_h0,zB,bin_isS,lenV_row,wrap1 hn,lenV_conts,as_f5,h0,h1,h2,h3,h4,h5,h6,h7,hz]
 rw[show lenI o 3=true from hz]
 obtain⟨x,y,z,ha⟩:=list3 o.args hz
 rw[ha]at hz ⊢
 have hW1:=within_call [x] none n (by simp)
 have hW2:=within_call [y,z] none i (by simp)
 simp only[List.take,List.drop,zQ]
 cases hw:within [x] n with
 | false =>
  rw[hw]at hW1
  simp only[zP,cond_false]
  simp -implicitDefEqProofs only[c45l0,aW,↓aP,makes,reduceLT,reduceEqDiff,reduceAdd,lenV_cops,iadr_cops,hi,hlt,fadr_ip,fadr_ptr,cop_h1,cop_h0,zB,bin_isS,lenV_row,wrap1 hn,lenV_conts,as_f5,h0,h1,h2,h3,h4,h5,h6,h7,ha,sli_1,sli_2,sli_1d,sli_2d,hz,hW1]
 | true =>
 rw[hw]at hW1
 cases hv:within [y,z] i with
 | true =>
  rw[hv]at hW2
  simp only[zQ,cond_true]
  simp -implicitDefEqProofs only[c45l0,aW,↓aP,makes,reduceLT,reduceEqDiff,reduceAdd,lenV_cops,iadr_cops,hi,hlt,fadr_ip,fadr_ptr,cop_h1,cop_h0,zB,bin_isS,lenV_row,wrap1 hn,lenV_conts,as_f5,h0,h1,h2,h3,h4,h5,h6,h7,ha,sli_1,sli_2,sli_1d,sli_2d,hz,hW1,hW2]
 | false =>
  rw[hv]at hW2
  simp only[zQ,cond_false]
  simp -implicitDefEqProofs only[c45l0,aW,↓aP,makes,reduceLT,reduceEqDiff,reduceAdd,lenV_cops,iadr_cops,hi,hlt,fadr_ip,fadr_ptr,cop_h1,cop_h0,zB,bin_isS,lenV_row,wrap1 hn,lenV_conts,as_f5,h0,h1,h2,h3,h4,h5,h6,h7,ha,sli_1,sli_2,sli_1d,sli_2d,hz,hW1,hW2]
theorem asks_round_8(f:FlatV)(n i:Nat)(l:List COpV)(o:COpV)(hi:l[i]?=some o)(hlt:(i:Int)<l.length)(hn:i<4611686018427387904)(h0:isS o.op [118,97,114]=false)(h1:isS o.op [99,111,110,116]=false)(h2:isS o.op [110,101,103]=false)(h3:isS o.op [43]=false)(h4:isS o.op [45]=false)(h5:isS o.op [47]=false)(h6:isS o.op [42]=false)(h7:isS o.op [115,101,108]=false) :
  codeW cw (lookM mtl) mds c45l0 [(1,copsA l),(2,litI .i64 n),(3,.ptr 0 0),(7,litI .i64 i)] [.row f.cs 29]=some (bif opOk f n i o then(.normal,[(1,copsA l),(2,litI .i64 n),(3,.ptr 0 0),(7,litI .i64 ((i+1:Nat):Int))],[.row f.cs 29])else(.ret,[(6,litB false)],[.row f.cs 29])):=by
 rw[show opOk f n i o=false by simp only[opOk,h0,h1,h2,h3,h4,h5,h6,h7,bB],cond_false]
 simp -implicitDefEqProofs only[c45l0,aW,↓aP,makes,reduceLT,reduceEqDiff,reduceAdd,lenV_cops,iadr_cops,hi,hlt,fadr_ip,fadr_ptr,cop_h1,cop_h0,zB,bin_isS,lenV_row,wrap1 hn,lenV_conts,as_f5,h0,h1,h2,h3,h4,h5,h6,h7]
theorem asks_round(f:FlatV)(n i:Nat)(l:List COpV)(o:COpV)(hi:l[i]?=some o)(hlt:(i:Int)<l.length)(hn:i<4611686018427387904) :
  codeW cw (lookM mtl) mds c45l0 [(1,copsA l),(2,litI .i64 n),(3,.ptr 0 0),(7,litI .i64 i)] [.row f.cs 29]=some (bif opOk f n i o then(.normal,[(1,copsA l),(2,litI .i64 n),(3,.ptr 0 0),(7,litI .i64 ((i+1:Nat):Int))],[.row f.cs 29])else(.ret,[(6,litB false)],[.row f.cs 29])):=by
 by_cases h0:isS o.op [118,97,114]=true
 ·exact asks_round_0 f n i l o hi hlt hn h0
 rw[zH]at h0
 by_cases h1:isS o.op [99,111,110,116]=true
 ·exact asks_round_1 f n i l o hi hlt hn h0 h1
 rw[zH]at h1
 by_cases h2:isS o.op [110,101,103]=true
 ·exact asks_round_2 f n i l o hi hlt hn h0 h1 h2
 rw[zH]at h2
 by_cases h3:isS o.op [43]=true
 ·exact asks_round_3 f n i l o hi hlt hn h0 h1 h2 h3
 rw[zH]at h3
 by_cases h4:isS o.op [45]=true
 ·exact asks_round_4 f n i l o hi hlt hn h0 h1 h2 h3 h4
 rw[zH]at h4
 by_cases h5:isS o.op [47]=true
 ·exact asks_round_5 f n i l o hi hlt hn h0 h1 h2 h3 h4 h5
 rw[zH]at h5
 by_cases h6:isS o.op [42]=true
 ·exact asks_round_6 f n i l o hi hlt hn h0 h1 h2 h3 h4 h5 h6
 rw[zH]at h6
 by_cases h7:isS o.op [115,101,108]=true
 ·exact asks_round_7 f n i l o hi hlt hn h0 h1 h2 h3 h4 h5 h6 h7
 rw[zH]at h7
 exact asks_round_8 f n i l o hi hlt hn h0 h1 h2 h3 h4 h5 h6 h7
theorem asks_loop(f:FlatV)(n:Nat)(l:List COpV)(hl:l.length≤1000000):∀(m i:Nat),m+i=l.length →
  loopW (codeW cw (lookM mtl) mds c45l0) [1,2,3,7] [(1,copsA l),(2,litI .i64 n),(3,.ptr 0 0),(7,litI .i64 i)] [.row f.cs 29] =
   some (bif opsF f n i (l.drop i)then(EX.exit 0,[(1,copsA l),(2,litI .i64 n),(3,.ptr 0 0),(7,litI .i64 l.length),(13,litB false)],[.row f.cs 29])else(.ret,[(6,litB false)],[.row f.cs 29]))
 | 0,i,h=>by
  have hn:i=l.length:=by omega
  subst hn
  rw[yB,opsF,cond_true]
  refine loopW_out ?_ (by simp)
  simp -implicitDefEqProofs only[c45l0,aW,↓aP,makes,reduceLT,reduceEqDiff,reduceAdd,lenV_cops,zR]
 | m+1,i,h=>by
  have hn:i<l.length:=by omega
  have hg:l[i]?=some l[i]:=zE hn
  have hlt:(i:Int)<l.length:=by omega
  have R:=asks_round f n i l l[i] hg hlt (by omega)
  rw[zS hn,opsF]
  cases ho:opOk f n i l[i]with
  | true =>
   rw[ho,cond_true]at R
   rw[zQ]
   refine loopW_round ?_ (asks_loop f n l hl m (i+1) (by omega))
   simp -implicitDefEqProofs only[aW,↓aP,makes,reduceLT,reduceEqDiff,reduceAdd,R]
  | false =>
   rw[ho,cond_false]at R
   rw[zP,cond_false]
   refine loopW_out ?_ (by simp)
   simp -implicitDefEqProofs only[aW,↓aP,makes,reduceLT,reduceEqDiff,reduceAdd,R]
theorem asks_tells(f:FlatV)(n:Nat)(l:List COpV)(hl:l.length≤1000000):cw 45 [.agg f.cs,copsA l,litI .i64 n] []=some (.ret (litB (opsOk f n l)),[.row f.cs 29]):=by
 refine cw_of fn45 (c:=c45) rfl rfl rfl rfl ?_
 have L:=asks_loop f n l hl l.length 0 (by omega)
 rw[zJ,show((0:Nat):Int)=0 from rfl]at L
 unfold opsOk
 cases ho:opsF f n 0 l with
 | true =>
  rw[ho,cond_true]at L
  rw[zQ]
  simp -implicitDefEqProofs only[c45,aW,↓aP,makes,reduceLT,reduceEqDiff,reduceAdd,core_box,rt_b8 f,zA,L,lenV_cops]
  rfl
 | false =>
  rw[ho,cond_false]at L
  rw[zP]
  simp -implicitDefEqProofs only[c45,aW,↓aP,makes,reduceLT,reduceEqDiff,reduceAdd,core_box,rt_b8 f,zA,L]
  rfl
theorem asks_call(f:FlatV)(n:Nat)(l:List COpV)(hl:l.length≤1000000)(H:List AO)(id:Nat):callV cw mds 45 [.agg f.cs,copsA l,litI .i64 n] H id=some (.val (litB (opsOk f n l)) none):=callV_pureA rfl rfl (asks_tells f n l hl) rfl
end
section
theorem op_st(H:List AO)(o:COpV):storeAt (H++[AO.row [litS (bs []),.sl 0 [] (some 0)] 94]) 2 (.ptr H.length 0) (.agg o.cs)=some (H++[.row o.cs 94]):=by
 rw[storeAt_agg (n:=2) (xs:=o.cs) (get_last H _) rfl rfl rfl,setL_last]
theorem op_g1(H:List AO)(o:COpV):Ai.load (H++[.row o.cs 94]) none (.ptr H.length 1)=some (rowC o.args none):=by rw[load_ptr (get_last H _)];rfl
theorem op_g0(H:List AO)(o:COpV):Ai.load (H++[.row o.cs 94]) none (.ptr H.length 0)=some (litS o.op):=by rw[load_ptr (get_last H _)];rfl
theorem get_app0{H:List AO}{r:AO}(h:H[0]?=some r)(x:AO):(H++[x])[0]?=some r:=getH_app h
theorem op_c9{H:List AO}{f:FlatV}{n:Nat}(h:H[0]?=some (.row (chkC f n) 106))(x:AO):Ai.load (H++[x]) (some 9) (.ptr 0 0)=some (.agg (chkC f n)):=load_agg (get_app0 h x) rfl
theorem op_c5{H:List AO}{f:FlatV}{n:Nat}(h:H[0]?=some (.row (chkC f n) 106))(x:AO):Ai.load (H++[x]) none (.ptr 0 5)=some (contsA f.conts):=by rw[load_ptr (get_app0 h x)];rfl
theorem iadr_2(x y z:Int):iadr 1 (rowC [x,y,z] none) (litI .i64 2)=some (.ip [litI .i64 z]):=rfl
theorem iadr_0(x y z:Int):iadr 1 (rowC [x,y,z] none) (litI .i64 0)=some (.ip [litI .i64 x]):=rfl
theorem ops_round_0(f:FlatV)(n i:Nat)(l:List COpV)(o:COpV)(hi:l[i]?=some o)(hlt:(i:Int)<l.length)(hn:i<4611686018427387904)(H:List AO)(hH:H[0]?=some (.row (chkC f n) 106))(h0:isS o.op [118,97,114]=true) :
  codeW cw (lookM mtl) mds c63l0 [(1,copsA l),(2,.ptr 0 0),(9,copsA l),(10,litI .i64 l.length),(11,litI .i64 i)] H=some (bif opOk f n i o then(.normal,[(1,copsA l),(2,.ptr 0 0),(9,copsA l),(10,litI .i64 l.length),(11,litI .i64 ((i+1:Nat):Int))],H++[.row o.cs 94])else(.ret,[(4,litB false)],H++[.row o.cs 94])):=by
 rw[show opOk f n i o=(lenI o 1&&within o.args n) by simp only[opOk,h0,bB]]
 by_cases hz:((o.args.length:Int)==1)=true
 case neg =>
  rw[zH]at hz
  rw[show lenI o 1=false from hz]
  simp only[zP,cond_false]
  simp -implicitDefEqProofs only[c63l0,aW,↓aP,makes,reduceLT,reduceEqDiff,reduceAdd,lenV_cops,iadr_cops,hi,hlt,load_ipA (show(COpV.cs o).length=2 from rfl),fadr_ip,fadr_ptr,op_st,op_g1,op_g0,op_c9 hH,op_c5 hH,zB,bin_isS,lenV_row,lenV_conts,wrap1 hn,h0,hz]
 rw[show lenI o 1=true from hz]
 have hl:o.args.length≤1000000:=by have:=eq_of_beq hz;omega
 have hW:=vars_call f n o.args none hl
 cases hw:within o.args n with
 | true =>
  rw[hw]at hW
  simp only[zQ,cond_true]
  simp -implicitDefEqProofs only[c63l0,aW,↓aP,makes,reduceLT,reduceEqDiff,reduceAdd,lenV_cops,iadr_cops,hi,hlt,load_ipA (show(COpV.cs o).length=2 from rfl),fadr_ip,fadr_ptr,op_st,op_g1,op_g0,op_c9 hH,op_c5 hH,zB,bin_isS,lenV_row,lenV_conts,wrap1 hn,h0,hz,hW]
 | false =>
  rw[hw]at hW
  simp only[zQ,cond_false]
  simp -implicitDefEqProofs only[c63l0,aW,↓aP,makes,reduceLT,reduceEqDiff,reduceAdd,lenV_cops,iadr_cops,hi,hlt,load_ipA (show(COpV.cs o).length=2 from rfl),fadr_ip,fadr_ptr,op_st,op_g1,op_g0,op_c9 hH,op_c5 hH,zB,bin_isS,lenV_row,lenV_conts,wrap1 hn,h0,hz,hW]
theorem ops_round_1(f:FlatV)(n i:Nat)(l:List COpV)(o:COpV)(hi:l[i]?=some o)(hlt:(i:Int)<l.length)(hn:i<4611686018427387904)(H:List AO)(hH:H[0]?=some (.row (chkC f n) 106))(h0:isS o.op [118,97,114]=false)(h1:isS o.op [99,111,110,116]=true) :
  codeW cw (lookM mtl) mds c63l0 [(1,copsA l),(2,.ptr 0 0),(9,copsA l),(10,litI .i64 l.length),(11,litI .i64 i)] H=some (bif opOk f n i o then(.normal,[(1,copsA l),(2,.ptr 0 0),(9,copsA l),(10,litI .i64 l.length),(11,litI .i64 ((i+1:Nat):Int))],H++[.row o.cs 94])else(.ret,[(4,litB false)],H++[.row o.cs 94])):=by
 rw[show opOk f n i o=(lenI o 1&&within o.args f.conts.length) by simp only[opOk,h0,h1,bB]]
 by_cases hz:((o.args.length:Int)==1)=true
 case neg =>
  rw[zH]at hz
  rw[show lenI o 1=false from hz]
  simp only[zP,cond_false]
  simp -implicitDefEqProofs only[c63l0,aW,↓aP,makes,reduceLT,reduceEqDiff,reduceAdd,lenV_cops,iadr_cops,hi,hlt,load_ipA (show(COpV.cs o).length=2 from rfl),fadr_ip,fadr_ptr,op_st,op_g1,op_g0,op_c9 hH,op_c5 hH,zB,bin_isS,lenV_row,lenV_conts,wrap1 hn,h0,h1,hz]
 rw[show lenI o 1=true from hz]
 have hl:o.args.length≤1000000:=by have:=eq_of_beq hz;omega
 have hW:=places_call o.args none f.conts.length hl
 cases hw:within o.args f.conts.length with
 | true =>
  rw[hw]at hW
  simp only[zQ,cond_true]
  simp -implicitDefEqProofs only[c63l0,aW,↓aP,makes,reduceLT,reduceEqDiff,reduceAdd,lenV_cops,iadr_cops,hi,hlt,load_ipA (show(COpV.cs o).length=2 from rfl),fadr_ip,fadr_ptr,op_st,op_g1,op_g0,op_c9 hH,op_c5 hH,zB,bin_isS,lenV_row,lenV_conts,wrap1 hn,h0,h1,hz,hW]
 | false =>
  rw[hw]at hW
  simp only[zQ,cond_false]
  simp -implicitDefEqProofs only[c63l0,aW,↓aP,makes,reduceLT,reduceEqDiff,reduceAdd,lenV_cops,iadr_cops,hi,hlt,load_ipA (show(COpV.cs o).length=2 from rfl),fadr_ip,fadr_ptr,op_st,op_g1,op_g0,op_c9 hH,op_c5 hH,zB,bin_isS,lenV_row,lenV_conts,wrap1 hn,h0,h1,hz,hW]
theorem ops_round_2(f:FlatV)(n i:Nat)(l:List COpV)(o:COpV)(hi:l[i]?=some o)(hlt:(i:Int)<l.length)(hn:i<4611686018427387904)(H:List AO)(hH:H[0]?=some (.row (chkC f n) 106))(h0:isS o.op [118,97,114]=false)(h1:isS o.op [99,111,110,116]=false)(h2:isS o.op [110,101,103]=true) :
  codeW cw (lookM mtl) mds c63l0 [(1,copsA l),(2,.ptr 0 0),(9,copsA l),(10,litI .i64 l.length),(11,litI .i64 i)] H=some (bif opOk f n i o then(.normal,[(1,copsA l),(2,.ptr 0 0),(9,copsA l),(10,litI .i64 l.length),(11,litI .i64 ((i+1:Nat):Int))],H++[.row o.cs 94])else(.ret,[(4,litB false)],H++[.row o.cs 94])):=by
 rw[show opOk f n i o=(lenI o 1&&within o.args i) by simp only[opOk,h0,h1,h2,bB]]
 by_cases hz:((o.args.length:Int)==1)=true
 case neg =>
  rw[zH]at hz
  rw[show lenI o 1=false from hz]
  simp only[zP,cond_false]
  simp -implicitDefEqProofs only[c63l0,aW,↓aP,makes,reduceLT,reduceEqDiff,reduceAdd,lenV_cops,iadr_cops,hi,hlt,load_ipA (show(COpV.cs o).length=2 from rfl),fadr_ip,fadr_ptr,op_st,op_g1,op_g0,op_c9 hH,op_c5 hH,zB,bin_isS,lenV_row,lenV_conts,wrap1 hn,h0,h1,h2,hz]
 rw[show lenI o 1=true from hz]
 have hl:o.args.length≤1000000:=by have:=eq_of_beq hz;omega
 have hW:=places_call o.args none i hl
 cases hw:within o.args i with
 | true =>
  rw[hw]at hW
  simp only[zQ,cond_true]
  simp -implicitDefEqProofs only[c63l0,aW,↓aP,makes,reduceLT,reduceEqDiff,reduceAdd,lenV_cops,iadr_cops,hi,hlt,load_ipA (show(COpV.cs o).length=2 from rfl),fadr_ip,fadr_ptr,op_st,op_g1,op_g0,op_c9 hH,op_c5 hH,zB,bin_isS,lenV_row,lenV_conts,wrap1 hn,h0,h1,h2,hz,hW]
 | false =>
  rw[hw]at hW
  simp only[zQ,cond_false]
  simp -implicitDefEqProofs only[c63l0,aW,↓aP,makes,reduceLT,reduceEqDiff,reduceAdd,lenV_cops,iadr_cops,hi,hlt,load_ipA (show(COpV.cs o).length=2 from rfl),fadr_ip,fadr_ptr,op_st,op_g1,op_g0,op_c9 hH,op_c5 hH,zB,bin_isS,lenV_row,lenV_conts,wrap1 hn,h0,h1,h2,hz,hW]
theorem ops_round_3(f:FlatV)(n i:Nat)(l:List COpV)(o:COpV)(hi:l[i]?=some o)(hlt:(i:Int)<l.length)(hn:i<4611686018427387904)(H:List AO)(hH:H[0]?=some (.row (chkC f n) 106))(h0:isS o.op [118,97,114]=false)(h1:isS o.op [99,111,110,116]=false)(h2:isS o.op [110,101,103]=false)(h3:isS o.op [43]=true) :
  codeW cw (lookM mtl) mds c63l0 [(1,copsA l),(2,.ptr 0 0),(9,copsA l),(10,litI .i64 l.length),(11,litI .i64 i)] H=some (bif opOk f n i o then(.normal,[(1,copsA l),(2,.ptr 0 0),(9,copsA l),(10,litI .i64 l.length),(11,litI .i64 ((i+1:Nat):Int))],H++[.row o.cs 94])else(.ret,[(4,litB false)],H++[.row o.cs 94])):=by
 rw[show opOk f n i o=(lenI o 2&&within o.args i) by simp only[opOk,h0,h1,h2,h3,bB]]
 by_cases hz:((o.args.length:Int)==2)=true
 case neg =>
  rw[zH]at hz
  rw[show lenI o 2=false from hz]
  simp only[zP,cond_false]
  simp -implicitDefEqProofs only[c63l0,aW,↓aP,makes,reduceLT,reduceEqDiff,reduceAdd,lenV_cops,iadr_cops,hi,hlt,load_ipA (show(COpV.cs o).length=2 from rfl),fadr_ip,fadr_ptr,op_st,op_g1,op_g0,op_c9 hH,op_c5 hH,zB,bin_isS,lenV_row,lenV_conts,wrap1 hn,h0,h1,h2,h3,hz]
 rw[show lenI o 2=true from hz]
 have hl:o.args.length≤1000000:=by have:=eq_of_beq hz;omega
 have hW:=places_call o.args none i hl
 cases hw:within o.args i with
 | true =>
  rw[hw]at hW
  simp only[zQ,cond_true]
  simp -implicitDefEqProofs only[c63l0,aW,↓aP,makes,reduceLT,reduceEqDiff,reduceAdd,lenV_cops,iadr_cops,hi,hlt,load_ipA (show(COpV.cs o).length=2 from rfl),fadr_ip,fadr_ptr,op_st,op_g1,op_g0,op_c9 hH,op_c5 hH,zB,bin_isS,lenV_row,lenV_conts,wrap1 hn,h0,h1,h2,h3,hz,hW]
 | false =>
  rw[hw]at hW
  simp only[zQ,cond_false]
  simp -implicitDefEqProofs only[c63l0,aW,↓aP,makes,reduceLT,reduceEqDiff,reduceAdd,lenV_cops,iadr_cops,hi,hlt,load_ipA (show(COpV.cs o).length=2 from rfl),fadr_ip,fadr_ptr,op_st,op_g1,op_g0,op_c9 hH,op_c5 hH,zB,bin_isS,lenV_row,lenV_conts,wrap1 hn,h0,h1,h2,h3,hz,hW]
theorem ops_round_4(f:FlatV)(n i:Nat)(l:List COpV)(o:COpV)(hi:l[i]?=some o)(hlt:(i:Int)<l.length)(hn:i<4611686018427387904)(H:List AO)(hH:H[0]?=some (.row (chkC f n) 106))(h0:isS o.op [118,97,114]=false)(h1:isS o.op [99,111,110,116]=false)(h2:isS o.op [110,101,103]=false)(h3:isS o.op [43]=false)(h4:isS o.op [45]=true) :
  codeW cw (lookM mtl) mds c63l0 [(1,copsA l),(2,.ptr 0 0),(9,copsA l),(10,litI .i64 l.length),(11,litI .i64 i)] H=some (bif opOk f n i o then(.normal,[(1,copsA l),(2,.ptr 0 0),(9,copsA l),(10,litI .i64 l.length),(11,litI .i64 ((i+1:Nat):Int))],H++[.row o.cs 94])else(.ret,[(4,litB false)],H++[.row o.cs 94])):=by
 rw[show opOk f n i o=(lenI o 2&&within o.args i) by simp only[opOk,h0,h1,h2,h3,h4,bB]]
 by_cases hz:((o.args.length:Int)==2)=true
 case neg =>
  rw[zH]at hz
  rw[show lenI o 2=false from hz]
  simp only[zP,cond_false]
  simp -implicitDefEqProofs only[c63l0,aW,↓aP,makes,reduceLT,reduceEqDiff,reduceAdd,lenV_cops,iadr_cops,hi,hlt,load_ipA (show(COpV.cs o).length=2 from rfl),fadr_ip,fadr_ptr,op_st,op_g1,op_g0,op_c9 hH,op_c5 hH,zB,bin_isS,lenV_row,lenV_conts,wrap1 hn,h0,h1,h2,h3,h4,hz]
 rw[show lenI o 2=true from hz]
 have hl:o.args.length≤1000000:=by have:=eq_of_beq hz;omega
 have hW:=places_call o.args none i hl
 cases hw:within o.args i with
 | true =>
  rw[hw]at hW
  simp only[zQ,cond_true]
  simp -implicitDefEqProofs only[c63l0,aW,↓aP,makes,reduceLT,reduceEqDiff,reduceAdd,lenV_cops,iadr_cops,hi,hlt,load_ipA (show(COpV.cs o).length=2 from rfl),fadr_ip,fadr_ptr,op_st,op_g1,op_g0,op_c9 hH,op_c5 hH,zB,bin_isS,lenV_row,lenV_conts,wrap1 hn,h0,h1,h2,h3,h4,hz,hW]
 | false =>
  rw[hw]at hW
  simp only[zQ,cond_false]
  simp -implicitDefEqProofs only[c63l0,aW,↓aP,makes,reduceLT,reduceEqDiff,reduceAdd,lenV_cops,iadr_cops,hi,hlt,load_ipA (show(COpV.cs o).length=2 from rfl),fadr_ip,fadr_ptr,op_st,op_g1,op_g0,op_c9 hH,op_c5 hH,zB,bin_isS,lenV_row,lenV_conts,wrap1 hn,h0,h1,h2,h3,h4,hz,hW]
theorem ops_round_5(f:FlatV)(n i:Nat)(l:List COpV)(o:COpV)(hi:l[i]?=some o)(hlt:(i:Int)<l.length)(hn:i<4611686018427387904)(H:List AO)(hH:H[0]?=some (.row (chkC f n) 106))(h0:isS o.op [118,97,114]=false)(h1:isS o.op [99,111,110,116]=false)(h2:isS o.op [110,101,103]=false)(h3:isS o.op [43]=false)(h4:isS o.op [45]=false)(h5:isS o.op [47]=true) :
  codeW cw (lookM mtl) mds c63l0 [(1,copsA l),(2,.ptr 0 0),(9,copsA l),(10,litI .i64 l.length),(11,litI .i64 i)] H=some (bif opOk f n i o then(.normal,[(1,copsA l),(2,.ptr 0 0),(9,copsA l),(10,litI .i64 l.length),(11,litI .i64 ((i+1:Nat):Int))],H++[.row o.cs 94])else(.ret,[(4,litB false)],H++[.row o.cs 94])):=by
 rw[show opOk f n i o=(lenI o 2&&within o.args i) by simp only[opOk,h0,h1,h2,h3,h4,h5,bB]]
 by_cases hz:((o.args.length:Int)==2)=true
 case neg =>
  rw[zH]at hz
  rw[show lenI o 2=false from hz]
  simp only[zP,cond_false]
  simp -implicitDefEqProofs only[c63l0,aW,↓aP,makes,reduceLT,reduceEqDiff,reduceAdd,lenV_cops,iadr_cops,hi,hlt,load_ipA (show(COpV.cs o).length=2 from rfl),fadr_ip,fadr_ptr,op_st,op_g1,op_g0,op_c9 hH,op_c5 hH,zB,bin_isS,lenV_row,lenV_conts,wrap1 hn,h0,h1,h2,h3,h4,h5,hz]
 rw[show lenI o 2=true from hz]
 have hl:o.args.length≤1000000:=by have:=eq_of_beq hz;omega
 have hW:=places_call o.args none i hl
 cases hw:within o.args i with
 | true =>
  rw[hw]at hW
  simp only[zQ,cond_true]
  simp -implicitDefEqProofs only[c63l0,aW,↓aP,makes,reduceLT,reduceEqDiff,reduceAdd,lenV_cops,iadr_cops,hi,hlt,load_ipA (show(COpV.cs o).length=2 from rfl),fadr_ip,fadr_ptr,op_st,op_g1,op_g0,op_c9 hH,op_c5 hH,zB,bin_isS,lenV_row,lenV_conts,wrap1 hn,h0,h1,h2,h3,h4,h5,hz,hW]
 | false =>
  rw[hw]at hW
  simp only[zQ,cond_false]
  simp -implicitDefEqProofs only[c63l0,aW,↓aP,makes,reduceLT,reduceEqDiff,reduceAdd,lenV_cops,iadr_cops,hi,hlt,load_ipA (show(COpV.cs o).length=2 from rfl),fadr_ip,fadr_ptr,op_st,op_g1,op_g0,op_c9 hH,op_c5 hH,zB,bin_isS,lenV_row,lenV_conts,wrap1 hn,h0,h1,h2,h3,h4,h5,hz,hW]
theorem ops_round_6(f:FlatV)(n i:Nat)(l:List COpV)(o:COpV)(hi:l[i]?=some o)(hlt:(i:Int)<l.length)(hn:i<4611686018427387904)(H:List AO)(hH:H[0]?=some (.row (chkC f n) 106))(h0:isS o.op [118,97,114]=false)(h1:isS o.op [99,111,110,116]=false)(h2:isS o.op [110,101,103]=false)(h3:isS o.op [43]=false)(h4:isS o.op [45]=false)(h5:isS o.op [47]=false)(h6:isS o.op [42]=true) :
  codeW cw (lookM mtl) mds c63l0 [(1,copsA l),(2,.ptr 0 0),(9,copsA l),(10,litI .i64 l.length),(11,litI .i64 i)] H=some (bif opOk f n i o then(.normal,[(1,copsA l),(2,.ptr 0 0),(9,copsA l),(10,litI .i64 l.length),(11,litI .i64 ((i+1:Nat):Int))],H++[.row o.cs 94])else(.ret,[(4,litB false)],H++[.row o.cs 94])):=by
 rw[show opOk f n i o=(lenI o 3&&within (o.args.take 2) i&&within (o.args.drop 2) 2) by simp only[opOk,h0,h1,h2,h3,h4,h5,h6,bB]]
 by_cases hz:((o.args.length:Int)==3)=true
 case neg =>
  rw[zH]at hz
  rw[show lenI o 3=false from hz]
  simp only[zP,cond_false]
  simp -implicitDefEqProofs only[c63l0,aW,↓aP,makes,reduceLT,reduceEqDiff,reduceAdd,lenV_cops,iadr_cops,hi,hlt,load_ipA (show(COpV.cs o).length=2 from rfl),fadr_ip,fadr_ptr,op_st,op_g1,op_g0,op_c9 hH,op_c5 hH,zB,bin_isS,lenV_row,lenV_conts,wrap1 hn,h0,h1,h2,h3,h4,h5,h6,hz]
 rw[show lenI o 3=true from hz]
 obtain⟨x,y,z,ha⟩:=list3 o.args hz
 rw[ha]at hz ⊢
 have hW1:=places_call [x,y] none i (by simp)
 have hW2:∀H id,callV cw mds 80 [litI .i64 2,.sl 1 [[litI .i64 z]] (some 1)] H id=some (.val (litB (within [z] 2)) none):=fun H id=>places_call [z] (some 1) 2 (by simp) H id
 simp only[List.take,List.drop,zQ]
 cases hw:within [x,y] i with
 | false =>
  rw[hw]at hW1
  simp only[zP,cond_false]
  simp -implicitDefEqProofs only[c63l0,aW,↓aP,makes,reduceLT,reduceEqDiff,reduceAdd,lenV_cops,iadr_cops,hi,hlt,load_ipA (show(COpV.cs o).length=2 from rfl),fadr_ip,fadr_ptr,op_st,op_g1,op_g0,op_c9 hH,op_c5 hH,zB,bin_isS,lenV_row,lenV_conts,wrap1 hn,h0,h1,h2,h3,h4,h5,h6,ha,sli_1,sli_2,sli_1d,sli_2d,iadr_2,iadr_0,bsV_int,hz,hW1]
 | true =>
 rw[hw]at hW1
 cases hv:within [z] 2 with
 | true =>
  rw[hv]at hW2
  simp only[zQ,cond_true]
  simp -implicitDefEqProofs only[c63l0,aW,↓aP,makes,reduceLT,reduceEqDiff,reduceAdd,lenV_cops,iadr_cops,hi,hlt,load_ipA (show(COpV.cs o).length=2 from rfl),fadr_ip,fadr_ptr,op_st,op_g1,op_g0,op_c9 hH,op_c5 hH,zB,bin_isS,lenV_row,lenV_conts,wrap1 hn,h0,h1,h2,h3,h4,h5,h6,ha,sli_1,sli_2,sli_1d,sli_2d,iadr_2,iadr_0,bsV_int,hz,hW1,hW2]
 | false =>
  rw[hv]at hW2
  simp only[zQ,cond_false]
  simp -implicitDefEqProofs only[c63l0,aW,↓aP,makes,reduceLT,reduceEqDiff,reduceAdd,lenV_cops,iadr_cops,hi,hlt,load_ipA (show(COpV.cs o).length=2 from rfl),fadr_ip,fadr_ptr,op_st,op_g1,op_g0,op_c9 hH,op_c5 hH,zB,bin_isS,lenV_row,lenV_conts,wrap1 hn,h0,h1,h2,h3,h4,h5,h6,ha,sli_1,sli_2,sli_1d,sli_2d,iadr_2,iadr_0,bsV_int,hz,hW1,hW2]
theorem ops_round_7(f:FlatV)(n i:Nat)(l:List COpV)(o:COpV)(hi:l[i]?=some o)(hlt:(i:Int)<l.length)(hn:i<4611686018427387904)(H:List AO)(hH:H[0]?=some (.row (chkC f n) 106))(h0:isS o.op [118,97,114]=false)(h1:isS o.op [99,111,110,116]=false)(h2:isS o.op [110,101,103]=false)(h3:isS o.op [43]=false)(h4:isS o.op [45]=false)(h5:isS o.op [47]=false)(h6:isS o.op [42]=false)(h7:isS o.op [115,101,108]=true) :
  codeW cw (lookM mtl) mds c63l0 [(1,copsA l),(2,.ptr 0 0),(9,copsA l),(10,litI .i64 l.length),(11,litI .i64 i)] H=some (bif opOk f n i o then(.normal,[(1,copsA l),(2,.ptr 0 0),(9,copsA l),(10,litI .i64 l.length),(11,litI .i64 ((i+1:Nat):Int))],H++[.row o.cs 94])else(.ret,[(4,litB false)],H++[.row o.cs 94])):=by
 rw[show opOk f n i o=(lenI o 3&&within (o.args.take 1) n&&within (o.args.drop 1) i) by simp only[opOk,h0,h1,h2,h3,h4,h5,h6,h7,bB]]
 by_cases hz:((o.args.length:Int)==3)=true
 case neg =>
  rw[zH]at hz
  rw[show lenI o 3=false from hz]
  simp only[zP,cond_false]
  simp -implicitDefEqProofs only[c63l0,aW,↓aP,makes,reduceLT,reduceEqDiff,reduceAdd,lenV_cops,iadr_cops,hi,hlt,load_ipA (show(COpV.cs o).length=2 from rfl),fadr_ip,fadr_ptr,op_st,op_g1,op_g0,op_c9 hH,op_c5 hH,zB,bin_isS,lenV_row,lenV_conts,wrap1 hn,h0,h1,h2,h3,h4,h5,h6,h7,hz]
 rw[show lenI o 3=true from hz]
 obtain⟨x,y,z,ha⟩:=list3 o.args hz
 rw[ha]at hz ⊢
 have hW1:∀H id,callV cw mds 57 [.agg (chkC f n),.sl 1 [[litI .i64 x]] (some 1)] H id=some (.val (litB (within [x] n)) none):=fun H id=>vars_call f n [x] (some 1) (by simp) H id
 have hW2:=places_call [y,z] none i (by simp)
 simp only[List.take,List.drop,zQ]
 cases hw:within [x] n with
 | false =>
  rw[hw]at hW1
  simp only[zP,cond_false]
  simp -implicitDefEqProofs only[c63l0,aW,↓aP,makes,reduceLT,reduceEqDiff,reduceAdd,lenV_cops,iadr_cops,hi,hlt,load_ipA (show(COpV.cs o).length=2 from rfl),fadr_ip,fadr_ptr,op_st,op_g1,op_g0,op_c9 hH,op_c5 hH,zB,bin_isS,lenV_row,lenV_conts,wrap1 hn,h0,h1,h2,h3,h4,h5,h6,h7,ha,sli_1,sli_2,sli_1d,sli_2d,iadr_2,iadr_0,bsV_int,hz,hW1]
 | true =>
 rw[hw]at hW1
 cases hv:within [y,z] i with
 | true =>
  rw[hv]at hW2
  simp only[zQ,cond_true]
  simp -implicitDefEqProofs only[c63l0,aW,↓aP,makes,reduceLT,reduceEqDiff,reduceAdd,lenV_cops,iadr_cops,hi,hlt,load_ipA (show(COpV.cs o).length=2 from rfl),fadr_ip,fadr_ptr,op_st,op_g1,op_g0,op_c9 hH,op_c5 hH,zB,bin_isS,lenV_row,lenV_conts,wrap1 hn,h0,h1,h2,h3,h4,h5,h6,h7,ha,sli_1,sli_2,sli_1d,sli_2d,iadr_2,iadr_0,bsV_int,hz,hW1,hW2]
 | false =>
  rw[hv]at hW2
  simp only[zQ,cond_false]
  simp -implicitDefEqProofs only[c63l0,aW,↓aP,makes,reduceLT,reduceEqDiff,reduceAdd,lenV_cops,iadr_cops,hi,hlt,load_ipA (show(COpV.cs o).length=2 from rfl),fadr_ip,fadr_ptr,op_st,op_g1,op_g0,op_c9 hH,op_c5 hH,zB,bin_isS,lenV_row,lenV_conts,wrap1 hn,h0,h1,h2,h3,h4,h5,h6,h7,ha,sli_1,sli_2,sli_1d,sli_2d,iadr_2,iadr_0,bsV_int,hz,hW1,hW2]
theorem ops_round_8(f:FlatV)(n i:Nat)(l:List COpV)(o:COpV)(hi:l[i]?=some o)(hlt:(i:Int)<l.length)(hn:i<4611686018427387904)(H:List AO)(hH:H[0]?=some (.row (chkC f n) 106))(h0:isS o.op [118,97,114]=false)(h1:isS o.op [99,111,110,116]=false)(h2:isS o.op [110,101,103]=false)(h3:isS o.op [43]=false)(h4:isS o.op [45]=false)(h5:isS o.op [47]=false)(h6:isS o.op [42]=false)(h7:isS o.op [115,101,108]=false) :
  codeW cw (lookM mtl) mds c63l0 [(1,copsA l),(2,.ptr 0 0),(9,copsA l),(10,litI .i64 l.length),(11,litI .i64 i)] H=some (bif opOk f n i o then(.normal,[(1,copsA l),(2,.ptr 0 0),(9,copsA l),(10,litI .i64 l.length),(11,litI .i64 ((i+1:Nat):Int))],H++[.row o.cs 94])else(.ret,[(4,litB false)],H++[.row o.cs 94])):=by
 rw[show opOk f n i o=false by simp only[opOk,h0,h1,h2,h3,h4,h5,h6,h7,bB],cond_false]
 simp -implicitDefEqProofs only[c63l0,aW,↓aP,makes,reduceLT,reduceEqDiff,reduceAdd,lenV_cops,iadr_cops,hi,hlt,load_ipA (show(COpV.cs o).length=2 from rfl),fadr_ip,fadr_ptr,op_st,op_g1,op_g0,op_c9 hH,op_c5 hH,zB,bin_isS,lenV_row,lenV_conts,wrap1 hn,h0,h1,h2,h3,h4,h5,h6,h7]
theorem ops_round(f:FlatV)(n i:Nat)(l:List COpV)(o:COpV)(hi:l[i]?=some o)(hlt:(i:Int)<l.length)(hn:i<4611686018427387904)(H:List AO)(hH:H[0]?=some (.row (chkC f n) 106)) :
  codeW cw (lookM mtl) mds c63l0 [(1,copsA l),(2,.ptr 0 0),(9,copsA l),(10,litI .i64 l.length),(11,litI .i64 i)] H=some (bif opOk f n i o then(.normal,[(1,copsA l),(2,.ptr 0 0),(9,copsA l),(10,litI .i64 l.length),(11,litI .i64 ((i+1:Nat):Int))],H++[.row o.cs 94])else(.ret,[(4,litB false)],H++[.row o.cs 94])):=by
 by_cases h0:isS o.op [118,97,114]=true
 ·exact ops_round_0 f n i l o hi hlt hn H hH h0
 rw[zH]at h0
 by_cases h1:isS o.op [99,111,110,116]=true
 ·exact ops_round_1 f n i l o hi hlt hn H hH h0 h1
 rw[zH]at h1
 by_cases h2:isS o.op [110,101,103]=true
 ·exact ops_round_2 f n i l o hi hlt hn H hH h0 h1 h2
 rw[zH]at h2
 by_cases h3:isS o.op [43]=true
 ·exact ops_round_3 f n i l o hi hlt hn H hH h0 h1 h2 h3
 rw[zH]at h3
 by_cases h4:isS o.op [45]=true
 ·exact ops_round_4 f n i l o hi hlt hn H hH h0 h1 h2 h3 h4
 rw[zH]at h4
 by_cases h5:isS o.op [47]=true
 ·exact ops_round_5 f n i l o hi hlt hn H hH h0 h1 h2 h3 h4 h5
 rw[zH]at h5
 by_cases h6:isS o.op [42]=true
 ·exact ops_round_6 f n i l o hi hlt hn H hH h0 h1 h2 h3 h4 h5 h6
 rw[zH]at h6
 by_cases h7:isS o.op [115,101,108]=true
 ·exact ops_round_7 f n i l o hi hlt hn H hH h0 h1 h2 h3 h4 h5 h6 h7
 rw[zH]at h7
 exact ops_round_8 f n i l o hi hlt hn H hH h0 h1 h2 h3 h4 h5 h6 h7
theorem ops_loop(f:FlatV)(n:Nat)(l:List COpV)(hl:l.length≤1000000):∀(m i:Nat)(H:List AO),m+i=l.length→H[0]?=some (.row (chkC f n) 106) →
  ∃H',loopW (codeW cw (lookM mtl) mds c63l0) [1,2,9,10,11] [(1,copsA l),(2,.ptr 0 0),(9,copsA l),(10,litI .i64 l.length),(11,litI .i64 i)] H =
   some (bif opsF f n i (l.drop i)then(EX.exit 0,[(1,copsA l),(2,.ptr 0 0),(9,copsA l),(10,litI .i64 l.length),(11,litI .i64 l.length),(12,litB false)],H')else(.ret,[(4,litB false)],H'))
 | 0,i,H,h,hH=>by
  have hn:i=l.length:=by omega
  subst hn
  refine⟨H,?_⟩
  rw[yB,opsF,cond_true]
  refine loopW_out ?_ (by simp)
  simp -implicitDefEqProofs only[c63l0,aW,↓aP,makes,reduceLT,reduceEqDiff,reduceAdd,zR]
 | m+1,i,H,h,hH=>by
  have hn:i<l.length:=by omega
  have hg:l[i]?=some l[i]:=zE hn
  have hlt:(i:Int)<l.length:=by omega
  have R:=ops_round f n i l l[i] hg hlt (by omega) H hH
  rw[zS hn,opsF]
  cases ho:opOk f n i l[i]with
  | true =>
   rw[ho,cond_true]at R
   rw[zQ]
   obtain⟨H',L⟩:=ops_loop f n l hl m (i+1) _ (by omega) (get_app0 hH (.row (COpV.cs l[i]) 94))
   refine⟨H',loopW_round ?_ L⟩
   simp -implicitDefEqProofs only[aW,↓aP,makes,reduceLT,reduceEqDiff,reduceAdd,R]
  | false =>
   rw[ho,cond_false]at R
   refine⟨H++[.row (COpV.cs l[i]) 94],?_⟩
   rw[zP,cond_false]
   refine loopW_out ?_ (by simp)
   simp -implicitDefEqProofs only[aW,↓aP,makes,reduceLT,reduceEqDiff,reduceAdd,R]
theorem ops_tells(f:FlatV)(n:Nat)(l:List COpV)(hl:l.length≤1000000):∃H',cw 63 [.agg (chkC f n),copsA l] []=some (.ret (litB (opsOk f n l)),H'):=by
 obtain⟨H',L⟩:=ops_loop f n l hl l.length 0 [.row (chkC f n) 106] (by omega) rfl
 refine⟨H',cw_of fn63 (c:=c63) rfl rfl rfl rfl ?_⟩
 rw[zJ,show((0:Nat):Int)=0 from rfl]at L
 unfold opsOk
 cases ho:opsF f n 0 l with
 | true =>
  rw[ho,cond_true]at L
  rw[zQ]
  simp -implicitDefEqProofs only[c63,aW,↓aP,makes,reduceLT,reduceEqDiff,reduceAdd,core_box,eq_b9 f n,zA,L,lenV_cops]
  rfl
 | false =>
  rw[ho,cond_false]at L
  rw[zP]
  simp -implicitDefEqProofs only[c63,aW,↓aP,makes,reduceLT,reduceEqDiff,reduceAdd,core_box,eq_b9 f n,zA,L,lenV_cops]
  rfl
theorem ops_call(f:FlatV)(n:Nat)(l:List COpV)(hl:l.length≤1000000)(H:List AO)(id:Nat):callV cw mds 63 [.agg (chkC f n),copsA l] H id=some (.val (litB (opsOk f n l)) none):=by
 obtain⟨H',h⟩:=ops_tells f n l hl
 exact callV_pureA rfl rfl h rfl
end
section
def memOk(n:Nat)(m:MemV):Bool:=inN n m.next&&decide (m.guard<n)&&within m.resets n
def slopeOk(n:Nat)(s:SlopeV):Bool:=inN n s.var&&decide (s.guard<n)
def contOk(n:Nat)(x:ContV):Bool:=inN n x.var&&decide (x.guard<n)&&within x.resets n&&x.slopes.all (slopeOk n)
def crossOk(f:FlatV)(n:Nat)(x:CrossV):Bool:=decide (x.guard<n)&&opsOk f n x.ops
def gH(f:FlatV)(n:Nat):List AO:=[.row f.cs 29,.row (chkC f n) 106,.row [.fn (.func 59) [] [.ptr 1 0]] 109]
theorem vars1_call(f:FlatV)(n:Nat)(x:Int)(H:List AO)(id:Nat):callV cw mds 57 [.agg (chkC f n),.sl 1 [[litI .i64 x]] (some 1)] H id=some (.val (litB (inN n x)) none):=by
 have:=vars_call f n [x] (some 1) (by simp) H id
 rwa [show within [x] n=inN n x by simp[within]]at this
theorem mem_tells(f:FlatV)(n:Nat)(m:MemV)(hl:m.resets.length≤1000000):cw 56 [.agg m.cs,.ptr 1 0] (gH f n)=some (.ret (litB (!memOk n m)),gH f n++[.row m.cs 87]):=by
 refine cw_of fn56 (c:=c56) rfl rfl rfl rfl ?_
 have hb:∀id t,boxV id 8 (.agg m.cs) t=some (.val (.ptr id 0) (some (.row m.cs t))):=fun _ _=>boxV_agg rfl rfl
 have c9:Ai.load [.row f.cs 29,.row (chkC f n) 106,.row [.fn (.func 59) [] [.ptr 1 0]] 109,.row m.cs 87] (some 9) (.ptr 1 0)=some (.agg (chkC f n)):=rfl
 have m5:Ai.load [.row f.cs 29,.row (chkC f n) 106,.row [.fn (.func 59) [] [.ptr 1 0]] 109,.row m.cs 87] none (.ptr 3 5)=some (litI .i64 m.next):=rfl
 have m6:Ai.load [.row f.cs 29,.row (chkC f n) 106,.row [.fn (.func 59) [] [.ptr 1 0]] 109,.row m.cs 87] none (.ptr 3 6)=some (litI .i64 m.guard):=rfl
 have m7:Ai.load [.row f.cs 29,.row (chkC f n) 106,.row [.fn (.func 59) [] [.ptr 1 0]] 109,.row m.cs 87] none (.ptr 3 7)=some (rowC m.resets none):=rfl
 have hV:=vars1_call f n m.next
 have hG:=guard_call f n m.guard
 have hR:=vars_call f n m.resets none hl
 unfold memOk gH
 cases ha:inN n m.next with
 | false =>
  rw[ha]at hV
  simp -implicitDefEqProofs only[c56,aW,↓aP,makes,reduceLT,reduceEqDiff,reduceAdd,core_box,hb,zA,zC,fadr_ptr,c9,m5,hV,bsV_int]
  rfl
 | true =>
  rw[ha]at hV
  cases hg:decide (m.guard<n)with
  | false =>
   rw[hg]at hG
   simp -implicitDefEqProofs only[c56,aW,↓aP,makes,reduceLT,reduceEqDiff,reduceAdd,core_box,hb,zA,zC,fadr_ptr,c9,m5,m6,hV,hG,bsV_int]
   rfl
  | true =>
   rw[hg]at hG
   simp -implicitDefEqProofs only[c56,aW,↓aP,makes,reduceLT,reduceEqDiff,reduceAdd,core_box,hb,zA,zC,fadr_ptr,c9,m5,m6,m7,hV,hG,hR,bsV_int]
   rfl
theorem mem_fn_call(f:FlatV)(n:Nat)(m:MemV)(hl:m.resets.length≤1000000)(id:Nat):fnV cw mds (.fn (.func 56) [] [.ptr 1 0]) [.agg m.cs] (gH f n) id=some (.wr (litB (!memOk n m)) (gH f n)) :=
 (wr_same rfl (mem_tells f n m hl) (by simp) rfl rfl:callV cw mds 56 [.agg m.cs,.ptr 1 0] (gH f n) id=_)
theorem cross_tells(f:FlatV)(n:Nat)(m:CrossV)(hl:m.ops.length≤1000000):cw 62 [.agg m.cs,.ptr 1 0] (gH f n)=some (.ret (litB (!crossOk f n m)),gH f n++[.row m.cs 45]):=by
 refine cw_of fn62 (c:=c62) rfl rfl rfl rfl ?_
 have hb:∀id t,boxV id 2 (.agg m.cs) t=some (.val (.ptr id 0) (some (.row m.cs t))):=fun _ _=>boxV_agg rfl rfl
 have c9:Ai.load [.row f.cs 29,.row (chkC f n) 106,.row [.fn (.func 59) [] [.ptr 1 0]] 109,.row m.cs 45] (some 9) (.ptr 1 0)=some (.agg (chkC f n)):=rfl
 have m0:Ai.load [.row f.cs 29,.row (chkC f n) 106,.row [.fn (.func 59) [] [.ptr 1 0]] 109,.row m.cs 45] none (.ptr 3 0)=some (litI .i64 m.guard):=rfl
 have m1:Ai.load [.row f.cs 29,.row (chkC f n) 106,.row [.fn (.func 59) [] [.ptr 1 0]] 109,.row m.cs 45] none (.ptr 3 1)=some (copsA m.ops):=rfl
 have hG:=guard_call f n m.guard
 have hO:=ops_call f n m.ops hl
 unfold crossOk gH
 cases hg:decide (m.guard<n)with
 | false =>
  rw[hg]at hG
  simp -implicitDefEqProofs only[c62,aW,↓aP,makes,reduceLT,reduceEqDiff,reduceAdd,core_box,hb,zA,zC,fadr_ptr,c9,m0,hG]
  rfl
 | true =>
  rw[hg]at hG
  simp -implicitDefEqProofs only[c62,aW,↓aP,makes,reduceLT,reduceEqDiff,reduceAdd,core_box,hb,zA,zC,fadr_ptr,c9,m0,m1,hG,hO]
  rfl
theorem cross_fn_call(f:FlatV)(n:Nat)(m:CrossV)(hl:m.ops.length≤1000000)(id:Nat):fnV cw mds (.fn (.func 62) [] [.ptr 1 0]) [.agg m.cs] (gH f n) id=some (.wr (litB (!crossOk f n m)) (gH f n)) :=
 (wr_same rfl (cross_tells f n m hl) (by simp) rfl rfl:callV cw mds 62 [.agg m.cs,.ptr 1 0] (gH f n) id=_)
def gX(f:FlatV)(n:Nat)(x:ContV):List AO:=[.row f.cs 29,.row (chkC f n) 106,.row [.fn (.func 59) [] [.ptr 1 0]] 109,.row x.cs 90]
theorem slope_tells(f:FlatV)(n:Nat)(x:ContV)(m:SlopeV):cw 59 [.agg m.cs,.ptr 1 0] (gX f n x)=some (.ret (litB (!slopeOk n m)),gX f n x++[.row m.cs 92]):=by
 refine cw_of fn59 (c:=c59) rfl rfl rfl rfl ?_
 have hb:∀id t,boxV id 2 (.agg m.cs) t=some (.val (.ptr id 0) (some (.row m.cs t))):=fun _ _=>boxV_agg rfl rfl
 have c9:Ai.load [.row f.cs 29,.row (chkC f n) 106,.row [.fn (.func 59) [] [.ptr 1 0]] 109,.row x.cs 90,.row m.cs 92] (some 9) (.ptr 1 0)=some (.agg (chkC f n)):=rfl
 have m0:Ai.load [.row f.cs 29,.row (chkC f n) 106,.row [.fn (.func 59) [] [.ptr 1 0]] 109,.row x.cs 90,.row m.cs 92] none (.ptr 4 0)=some (litI .i64 m.guard):=rfl
 have m1:Ai.load [.row f.cs 29,.row (chkC f n) 106,.row [.fn (.func 59) [] [.ptr 1 0]] 109,.row x.cs 90,.row m.cs 92] none (.ptr 4 1)=some (litI .i64 m.var):=rfl
 have hV:=vars1_call f n m.var
 have hG:=guard_call f n m.guard
 unfold slopeOk gX
 cases ha:inN n m.var with
 | false =>
  rw[ha]at hV
  simp -implicitDefEqProofs only[c59,aW,↓aP,makes,reduceLT,reduceEqDiff,reduceAdd,core_box,hb,zA,zC,fadr_ptr,c9,m1,hV,bsV_int]
  rfl
 | true =>
  rw[ha]at hV
  simp -implicitDefEqProofs only[c59,aW,↓aP,makes,reduceLT,reduceEqDiff,reduceAdd,core_box,hb,zA,zC,fadr_ptr,c9,m1,m0,hV,hG,bsV_int]
  rfl
theorem slope_fn_call(f:FlatV)(n:Nat)(x:ContV)(m:SlopeV)(id:Nat):fnV cw mds (.fn (.func 59) [] [.ptr 1 0]) [.agg m.cs] (gX f n x) id=some (.wr (litB (!slopeOk n m)) (gX f n x)) :=
 (wr_same rfl (slope_tells f n x m) (by simp) rfl rfl:callV cw mds 59 [.agg m.cs,.ptr 1 0] (gX f n x) id=_)
theorem any_not{α:Type}(p:α→Bool)(r:List α):(r.any fun x=>!p x)=!r.all p:=by rw[←not_all_not p r,Bool.not_not]
theorem cont_tells(f:FlatV)(n:Nat)(m:ContV)(hl:m.resets.length≤1000000)(hs:m.slopes.length≤1000000):cw 60 [.agg m.cs,.ptr 1 0,.ptr 2 0] (gH f n)=some (.ret (litB (!contOk n m)),gH f n++[.row m.cs 90]):=by
 refine cw_of fn60 (c:=c60) rfl rfl rfl rfl ?_
 have hb:∀id t,boxV id 9 (.agg m.cs) t=some (.val (.ptr id 0) (some (.row m.cs t))):=fun _ _=>boxV_agg rfl rfl
 have c9:Ai.load [.row f.cs 29,.row (chkC f n) 106,.row [.fn (.func 59) [] [.ptr 1 0]] 109,.row m.cs 90] (some 9) (.ptr 1 0)=some (.agg (chkC f n)):=rfl
 have m5:Ai.load [.row f.cs 29,.row (chkC f n) 106,.row [.fn (.func 59) [] [.ptr 1 0]] 109,.row m.cs 90] none (.ptr 3 5)=some (litI .i64 m.var):=rfl
 have m6:Ai.load [.row f.cs 29,.row (chkC f n) 106,.row [.fn (.func 59) [] [.ptr 1 0]] 109,.row m.cs 90] none (.ptr 3 6)=some (litI .i64 m.guard):=rfl
 have m7:Ai.load [.row f.cs 29,.row (chkC f n) 106,.row [.fn (.func 59) [] [.ptr 1 0]] 109,.row m.cs 90] none (.ptr 3 7)=some (rowC m.resets none):=rfl
 have m8:Ai.load [.row f.cs 29,.row (chkC f n) 106,.row [.fn (.func 59) [] [.ptr 1 0]] 109,.row m.cs 90] none (.ptr 3 8)=some (slopesA m.slopes):=rfl
 have m2:Ai.load [.row f.cs 29,.row (chkC f n) 106,.row [.fn (.func 59) [] [.ptr 1 0]] 109,.row m.cs 90] none (.ptr 2 0)=some (.fn (.func 59) [] [.ptr 1 0]):=rfl
 have hV:=vars1_call f n m.var
 have hG:=guard_call f n m.guard
 have hR:=vars_call f n m.resets none hl
 have hS:=contains61_call m.slopes (fun s=>!slopeOk n s) (.fn (.func 59) [] [.ptr 1 0]) (gX f n m) (fun s _ id=>slope_fn_call f n m s id) rfl hs
 rw[any_not]at hS
 unfold gX at hS
 unfold contOk gH
 cases ha:inN n m.var with
 | false =>
  rw[ha]at hV
  simp -implicitDefEqProofs only[c60,aW,↓aP,makes,reduceLT,reduceEqDiff,reduceAdd,core_box,hb,zA,zC,fadr_ptr,c9,m5,hV,bsV_int]
  rfl
 | true =>
  rw[ha]at hV
  cases hg:decide (m.guard<n)with
  | false =>
   rw[hg]at hG
   simp -implicitDefEqProofs only[c60,aW,↓aP,makes,reduceLT,reduceEqDiff,reduceAdd,core_box,hb,zA,zC,fadr_ptr,c9,m5,m6,hV,hG,bsV_int]
   rfl
  | true =>
   rw[hg]at hG
   cases hr:within m.resets n with
   | false =>
    rw[hr]at hR
    simp -implicitDefEqProofs only[c60,aW,↓aP,makes,reduceLT,reduceEqDiff,reduceAdd,core_box,hb,zA,zC,fadr_ptr,c9,m5,m6,m7,hV,hG,hR,bsV_int]
    rfl
   | true =>
    rw[hr]at hR
    simp -implicitDefEqProofs only[c60,aW,↓aP,makes,reduceLT,reduceEqDiff,reduceAdd,core_box,hb,zA,zC,fadr_ptr,c9,m5,m6,m7,m8,m2,hV,hG,hR,hS,bsV_int]
    rfl
theorem cont_fn_call(f:FlatV)(n:Nat)(m:ContV)(hl:m.resets.length≤1000000)(hs:m.slopes.length≤1000000)(id:Nat):fnV cw mds (.fn (.func 60) [] [.ptr 1 0,.ptr 2 0]) [.agg m.cs] (gH f n) id=some (.wr (litB (!contOk n m)) (gH f n)) :=
 (wr_same rfl (cont_tells f n m hl hs) (by simp) rfl rfl:callV cw mds 60 [.agg m.cs,.ptr 1 0,.ptr 2 0] (gH f n) id=_)
end
section
variable {call:CallF}{mt:MtF}{md:FuncId→Md}
def cellsB(T:List Bool):List AV:=T.map litB
def boolsC(T:List Bool)(c:Option Nat):AV:=.sl 1 (T.map fun b=>[litB b]) c
theorem lenV_bools(r:List Bool)(c:Option Nat):lenV (boolsC r c)=some (litI .i64 r.length):=by simp[boolsC,lenV]
theorem iadr_bools(r:List Bool)(c:Option Nat)(n:Nat):iadr 1 (boolsC r c) (litI .i64 n)=(r[n]?).map fun x=>.ip [litB x]:=by
 rw[boolsC,iadr_sl];simp[Function.comp_def]
theorem cellsB_whole(T:List Bool):(cellsB T).all whole=true:=by
 rw[yD];intro a ha
 obtain⟨b,_,rfl⟩:=zW.1 ha
 rfl
theorem indexb_loop(r:List Bool)(c:Option Nat)(v:Bool)(H:List AO)(hl:r.length≤1000000):∀(m n:Nat),m+n=r.length →
  loopW (codeW call mt md c92l0) [0,1,7,8] [(0,boolsC r c),(1,litB v),(7,litI .i64 r.length),(8,litI .i64 n)] H =
   some (if findF (fun b=>v==b) n (r.drop n) = -1 then(EX.exit 0,[(0,boolsC r c),(1,litB v),(7,litI .i64 r.length),(8,litI .i64 r.length),(9,litB false)],H)else(.ret,[(4,litI .i64 (findF (fun b=>v==b) n (r.drop n)))],H))
 | 0,n,h=>by
  have hn:n=r.length:=by omega
  subst hn
  rw[if_pos (by simp[findF])]
  refine loopW_out ?_ (by simp)
  simp -implicitDefEqProofs only[c92l0,aW,↓aP,makes,reduceLT,reduceEqDiff,reduceAdd,zR]
 | m+1,n,h=>by
  have hn:n<r.length:=by omega
  have hg:r[n]?=some r[n]:=zE hn
  have hlt:(n:Int)<r.length:=by omega
  have hd:r.drop n=r[n]::r.drop (n+1):=zS hn
  rw[hd,findF]
  cases hc:(v==r[n])with
  | true =>
   rw[cond_true,if_neg (by omega)]
   refine loopW_out ?_ (by simp)
   simp -implicitDefEqProofs only[c92l0,aW,↓aP,makes,reduceLT,reduceEqDiff,reduceAdd,iadr_bools,hg,hlt,hc]
  | false =>
   rw[cond_false]
   refine loopW_round ?_ (indexb_loop r c v H hl m (n+1) (by omega))
   simp -implicitDefEqProofs only[c92l0,aW,↓aP,makes,reduceLT,reduceEqDiff,reduceAdd,iadr_bools,hg,hlt,hc,wrap1 (show n<4611686018427387904 by omega)]
theorem indexb_tells(r:List Bool)(c:Option Nat)(v:Bool)(hl:r.length≤1000000)(H:List AO):cw 92 [boolsC r c,litB v] H=some (.ret (litI .i64 (findF (fun b=>v==b) 0 r)),H):=by
 refine cw_of fn92 (c:=c92) rfl rfl rfl rfl ?_
 have L:=indexb_loop (call:=cw) (mt:=lookM mtl) (md:=mds) r c v H hl r.length 0 (by omega)
 rw[zJ,show((0:Nat):Int)=0 from rfl]at L
 by_cases ha:findF (fun b=>v==b) 0 r = -1
 ·rw[if_pos ha]at L
  rw[ha]
  simp -implicitDefEqProofs only[c92,aW,↓aP,makes,reduceLT,reduceEqDiff,reduceAdd,lenV_bools,L]
  rfl
 ·rw[if_neg ha]at L
  simp -implicitDefEqProofs only[c92,aW,↓aP,makes,reduceLT,reduceEqDiff,reduceAdd,lenV_bools,L]
  rfl
theorem containsb_tells(r:List Bool)(c:Option Nat)(v:Bool)(hl:r.length≤1000000)(H:List AO):cw 86 [boolsC r c,litB v] H=some (.ret (litB (r.any fun b=>v==b)),H):=by
 refine cw_of fn86 (c:=c86) rfl rfl rfl rfl ?_
 have h:∀H id,callV cw mds 92 [boolsC r c,litB v] H id=some (.val (litI .i64 (findF (fun b=>v==b) 0 r)) none):=fun H id=>callV_pure rfl rfl (indexb_tells r c v hl []) rfl
 rw[←findF_any _ r 0]
 simp -implicitDefEqProofs only[c86,aW,↓aP,makes,reduceLT,reduceEqDiff,reduceAdd,h]
 rfl
theorem containsb_own(T:List Bool)(n r:Nat)(c:Option Nat)(v:Bool)(H:List AO)(hT:T.length=n)(hl:n≤1000000)(h:H[r]?=some (.row (cellsB T) 4))(id:Nat) :
  callV cw mds 86 [.own r 0 n 1 c,litB v] H id=some (.val (litB (T.any fun b=>v==b)) none):=by
 refine callV_flat (p:=([boolsC T c,litB v],[r])) rfl ?_ (containsb_tells T c v (by omega) [])
 have:=frz_own (k:=14) (n:=n) (cap:=c) h (by simp[cellsB,hT]) (cellsB_whole T)
 rw[xW (by simp[cellsB,hT])]at this
 have e:((cellsB T).map fun a=>[a])=T.map fun b=>[litB b]:=by simp[cellsB,Function.comp_def]
 rw[e]at this
 simp only[mapL,show frzF=14+2 from rfl,this,zD]
 rfl
def stepOk(f:FlatV)(n:Nat)(T:List Bool)(q:Eqn):Bool:=inN n q.var&&!(T.getD q.var.toNat false)&&decide (q.guard<n)&&within q.args n&&eqOk f q
def eqsF(f:FlatV)(n:Nat):List Bool→List Eqn→Option (List Bool)
 | T,[]=>some T
 | T,q::r=>bif stepOk f n T q then eqsF f n (T.set q.var.toNat true) r else none
theorem eq_st(H:List AO)(o:Eqn):storeAt (H++[AO.row [litI .i64 0,litS (bs []),.sl 0 [] (some 0),litI .i64 0,litI .i64 0,litB false,.sl 0 [] (some 0),.sl 0 [] (some 0),litS (bs []),litI .i64 0] 60]) 10 (.ptr H.length 0) (.agg o.cs)=some (H++[.row o.cs 60]):=by
 rw[storeAt_agg (n:=10) (xs:=o.cs) (get_last H _) rfl rfl rfl,setL_last]
theorem eq_g0(H:List AO)(o:Eqn):Ai.load (H++[.row o.cs 60]) none (.ptr H.length 0)=some (litI .i64 o.var):=by rw[load_ptr (get_last H _)];rfl
theorem eq_g2(H:List AO)(o:Eqn):Ai.load (H++[.row o.cs 60]) none (.ptr H.length 2)=some (rowC o.args none):=by rw[load_ptr (get_last H _)];rfl
theorem eq_g9(H:List AO)(o:Eqn):Ai.load (H++[.row o.cs 60]) none (.ptr H.length 9)=some (litI .i64 o.guard):=by rw[load_ptr (get_last H _)];rfl
theorem eq_gA(H:List AO)(o:Eqn):Ai.load (H++[.row o.cs 60]) (some 10) (.ptr H.length 0)=some (.agg o.cs):=load_agg (get_last H _) rfl
theorem eqs_round(f:FlatV)(n i:Nat)(l:List Eqn)(q:Eqn)(T:List Bool)(hi:l[i]?=some q)(hlt:(i:Int)<l.length)(hn:i<4611686018427387904)(hl:q.args.length≤1000000)
  (H:List AO)(hH:H[0]?=some (.row (chkC f n) 106))(h1:H[1]?=some (.row (cellsB T) 4))(hT:T.length=n) :
  codeW cw (lookM mtl) mds c67l0 [(1,.ptr 0 0),(3,.own 1 0 n 1 (some n)),(11,eqsA l),(12,litI .i64 l.length),(13,litI .i64 i)] H =
   some (bif stepOk f n T q then(.normal,[(1,.ptr 0 0),(3,.own 1 0 n 1 (some n)),(11,eqsA l),(12,litI .i64 l.length),(13,litI .i64 ((i+1:Nat):Int))],setL (H++[.row q.cs 60]) 1 (.row (cellsB (T.set q.var.toNat true)) 4))
    else(.ret,[(2,litB false)],H++[.row q.cs 60])):=by
 have hV:=vars1_call f n q.var
 have hG:=guard_call f n q.guard
 have hR:=vars_call f n q.args none hl
 have hE:=eq_call f n q
 have hA:=load_ipA (H:=H) (show(Eqn.cs q).length=10 from rfl)
 have c9:=op_c9 hH (.row q.cs 60)
 cases a1:inN n q.var with
 | false =>
  rw[a1]at hV
  rw[show stepOk f n T q=false by simp only[stepOk,a1,zP],cond_false]
  simp -implicitDefEqProofs only[c67l0,aW,↓aP,makes,reduceLT,reduceEqDiff,reduceAdd,iadr_eqs,hi,hlt,hA,eq_st,eq_g0,c9,fadr_ptr,hV,bsV_int]
 | true =>
 rw[a1]at hV
 obtain⟨v,hv,hvn⟩:∃v:Nat,q.var=v∧v<n:=by
  simp only[inN,zL,decide_eq_true_eq]at a1
  exact⟨q.var.toNat,by omega,by omega⟩
 have ia:iadr 1 (.own 1 0 n 1 (some n)) (litI .i64 q.var)=some (.ptr 1 v):=by
  rw[hv,iadr_own,if_pos (by omega)];simp
 have ht:Ai.load (H++[.row q.cs 60]) none (.ptr 1 v)=some (litB (T.getD v false)):=by
  rw[load_ptr (getH_app h1),cellsB,xJ,zE (by omega),yR,zF,zE (by omega)];rfl
 have hst:storeAt (H++[.row q.cs 60]) 1 (.ptr 1 v) (litB true)=some (setL (H++[.row q.cs 60]) 1 (.row (cellsB (T.set v true)) 4)):=by
  rw[store_ptr (getH_app h1) (by simp[cellsB];omega) rfl rfl,cellsB,cellsB,uG]
 have hvt:q.var.toNat=v:=by omega
 cases a2:T.getD v false with
 | true =>
  rw[a2]at ht
  rw[show stepOk f n T q=false by simp only[stepOk,a1,hvt,a2,vK,yM,zP],cond_false]
  simp -implicitDefEqProofs only[c67l0,aW,↓aP,makes,reduceLT,reduceEqDiff,reduceAdd,iadr_eqs,hi,hlt,hA,eq_st,eq_g0,c9,fadr_ptr,hV,bsV_int,ia,ht]
 | false =>
 rw[a2]at ht
 cases a3:decide (q.guard<n)with
 | false =>
  rw[a3]at hG
  rw[show stepOk f n T q=false by simp only[stepOk,a3,yM,zP],cond_false]
  simp -implicitDefEqProofs only[c67l0,aW,↓aP,makes,reduceLT,reduceEqDiff,reduceAdd,iadr_eqs,hi,hlt,hA,eq_st,eq_g0,eq_g9,c9,fadr_ptr,hV,bsV_int,ia,ht,hG]
 | true =>
 rw[a3]at hG
 cases a4:within q.args n with
 | false =>
  rw[a4]at hR
  rw[show stepOk f n T q=false by simp only[stepOk,a4,yM,zP],cond_false]
  simp -implicitDefEqProofs only[c67l0,aW,↓aP,makes,reduceLT,reduceEqDiff,reduceAdd,iadr_eqs,hi,hlt,hA,eq_st,eq_g0,eq_g2,eq_g9,c9,fadr_ptr,hV,bsV_int,ia,ht,hG,hR]
 | true =>
 rw[a4]at hR
 cases a5:eqOk f q with
 | false =>
  rw[a5]at hE
  rw[show stepOk f n T q=false by simp only[stepOk,a5,yM],cond_false]
  simp -implicitDefEqProofs only[c67l0,aW,↓aP,makes,reduceLT,reduceEqDiff,reduceAdd,iadr_eqs,hi,hlt,hA,eq_st,eq_g0,eq_g2,eq_g9,eq_gA,c9,fadr_ptr,hV,bsV_int,ia,ht,hG,hR,hE]
 | true =>
 rw[a5]at hE
 rw[show stepOk f n T q=true by simp only[stepOk,a1,hvt,a2,a3,a4,a5,vU,yX],cond_true,hvt]
 simp -implicitDefEqProofs only[c67l0,aW,↓aP,makes,reduceLT,reduceEqDiff,reduceAdd,iadr_eqs,hi,hlt,hA,eq_st,eq_g0,eq_g2,eq_g9,eq_gA,c9,fadr_ptr,hV,bsV_int,ia,ht,hG,hR,hE,hst,wrap1 hn]
end
section
theorem eqs_loop(f:FlatV)(n:Nat)(l:List Eqn)(hl:l.length≤1000000)(ha:∀q∈l,q.args.length≤1000000):∀(m i:Nat)(T:List Bool)(H:List AO),m+i=l.length →
  H[0]?=some (.row (chkC f n) 106)→H[1]?=some (.row (cellsB T) 4)→T.length=n →
  (∀T',eqsF f n T (l.drop i)=some T'→∃H',loopW (codeW cw (lookM mtl) mds c67l0) [1,3,11,12,13] [(1,.ptr 0 0),(3,.own 1 0 n 1 (some n)),(11,eqsA l),(12,litI .i64 l.length),(13,litI .i64 i)] H =
   some (EX.exit 0,[(1,.ptr 0 0),(3,.own 1 0 n 1 (some n)),(11,eqsA l),(12,litI .i64 l.length),(13,litI .i64 l.length),(14,litB false)],H')∧H'[1]?=some (.row (cellsB T') 4)∧T'.length=n) ∧
  (eqsF f n T (l.drop i)=none→∃H',loopW (codeW cw (lookM mtl) mds c67l0) [1,3,11,12,13] [(1,.ptr 0 0),(3,.own 1 0 n 1 (some n)),(11,eqsA l),(12,litI .i64 l.length),(13,litI .i64 i)] H=some (.ret,[(2,litB false)],H'))
 | 0,i,T,H,h,h0,h1,hT=>by
  have hn:i=l.length:=by omega
  subst hn
  rw[yB,eqsF]
  refine⟨fun T' e=>⟨H,?_,?_,?_⟩,fun e=>by cases e⟩
  ·refine loopW_out ?_ (by simp)
   simp -implicitDefEqProofs only[c67l0,aW,↓aP,makes,reduceLT,reduceEqDiff,reduceAdd,zR]
  ·simp only[sI]at e;rw[←e];exact h1
  ·simp only[sI]at e;rw[←e];exact hT
 | m+1,i,T,H,h,h0,h1,hT=>by
  have hn:i<l.length:=by omega
  have hg:l[i]?=some l[i]:=zE hn
  have hlt:(i:Int)<l.length:=by omega
  have R:=eqs_round f n i l l[i] T hg hlt (by omega) (ha _ (zV hn)) H h0 h1 hT
  rw[zS hn,eqsF]
  cases ho:stepOk f n T l[i]with
  | true =>
   rw[ho,cond_true]at R
   rw[cond_true]
   have k0:(setL (H++[.row (Eqn.cs l[i]) 60]) 1 (.row (cellsB (T.set l[i].var.toNat true)) 4))[0]?=some (.row (chkC f n) 106):=by
    rw[getH_set_ne (by omega)];exact getH_app h0
   have k1:(setL (H++[.row (Eqn.cs l[i]) 60]) 1 (.row (cellsB (T.set l[i].var.toNat true)) 4))[1]?=some (.row (cellsB (T.set l[i].var.toNat true)) 4):=by
    unfold setL
    have:=(zG.1 h1).1
    rw[yK (by simp;omega)]
   obtain⟨A,B⟩:=eqs_loop f n l hl ha m (i+1) _ _ (by omega) k0 k1 (by simp[hT])
   refine⟨fun T' e=>?_,fun e=>?_⟩
   ·obtain⟨H',L,x,y⟩:=A T' e
    refine⟨H',loopW_round ?_ L,x,y⟩
    simp -implicitDefEqProofs only[aW,↓aP,makes,reduceLT,reduceEqDiff,reduceAdd,R]
   ·obtain⟨H',L⟩:=B e
    refine⟨H',loopW_round ?_ L⟩
    simp -implicitDefEqProofs only[aW,↓aP,makes,reduceLT,reduceEqDiff,reduceAdd,R]
  | false =>
   rw[ho,cond_false]at R
   rw[cond_false]
   refine⟨fun T' e=>(by cases e),fun e=>⟨H++[.row (Eqn.cs l[i]) 60],loopW_out ?_ (by simp)⟩⟩
   simp -implicitDefEqProofs only[aW,↓aP,makes,reduceLT,reduceEqDiff,reduceAdd,R]
def eqsOk(f:FlatV)(n:Nat):Bool:=match eqsF f n (List.replicate n false) f.eqs with
 | some T=>!(T.any fun b=>false==b)
 | none=>false
theorem eqs_tells(f:FlatV)(n:Nat)(hn:n≤1000000)(hl:f.eqs.length≤1000000)(ha:∀q∈f.eqs,q.args.length≤1000000):∃H',cw 67 [.agg (chkC f n)] []=some (.ret (litB (eqsOk f n)),H'):=by
 have hm:∀id,mksV id 1 1 [litB false] 4 (litI .i64 n) (litI .i64 n)=some (.val (.own id 0 n 1 (some n)) (some (.row (cellsB (List.replicate n false)) 4))):=fun id=>by
  rw[mksV_ok (by omega) (by omega),reps_one,cellsB,List.map_replicate]
 have l8:Ai.load [.row (chkC f n) 106] none (.ptr 0 8)=some (litI .i64 n):=rfl
 have l3:Ai.load [.row (chkC f n) 106,.row (cellsB (List.replicate n false)) 4] none (.ptr 0 3)=some (eqsA f.eqs):=rfl
 obtain⟨A,B⟩:=eqs_loop f n f.eqs hl ha f.eqs.length 0 (List.replicate n false) [.row (chkC f n) 106,.row (cellsB (List.replicate n false)) 4] (by omega) rfl rfl (by simp)
 rw[zJ,show((0:Nat):Int)=0 from rfl]at A B
 unfold eqsOk
 cases e:eqsF f n (List.replicate n false) f.eqs with
 | some T =>
  obtain⟨H',L,x,y⟩:=A T e
  have hc:=containsb_own T n 1 (some n) false H' y hn x
  refine⟨H',cw_of fn67 (c:=c67) rfl rfl rfl rfl ?_⟩
  simp only
  simp -implicitDefEqProofs only[c67,aW,↓aP,makes,reduceLT,reduceEqDiff,reduceAdd,core_box,eq_b9 f n,zA,zC,fadr_ptr,zK,l8,hm,l3,lenV_eqs,L,hc]
  rfl
 | none =>
  obtain⟨H',L⟩:=B e
  refine⟨H',cw_of fn67 (c:=c67) rfl rfl rfl rfl ?_⟩
  simp only
  simp -implicitDefEqProofs only[c67,aW,↓aP,makes,reduceLT,reduceEqDiff,reduceAdd,core_box,eq_b9 f n,zA,zC,fadr_ptr,zK,l8,hm,l3,lenV_eqs,L]
  rfl
theorem eqs_call(f:FlatV)(n:Nat)(hn:n≤1000000)(hl:f.eqs.length≤1000000)(ha:∀q∈f.eqs,q.args.length≤1000000)(H:List AO)(id:Nat):callV cw mds 67 [.agg (chkC f n)] H id=some (.val (litB (eqsOk f n)) none):=by
 obtain⟨H',h⟩:=eqs_tells f n hn hl ha
 exact callV_pureA rfl rfl h rfl
end
section
variable {call:CallF}{mt:MtF}{md:FuncId→Md}
def buildV(z:List AV)(ps:List (Nat×Nat×AV)):Option Out:=(fill z ps).bind fun cs=>some (.val (.agg cs) none)
theorem core_build{H:List AO}{id:Nat}{fr:Fr}(z:List AV)(ps:List (Nat×Nat×X)):core call mt md H id (.build z ps) fr=buildV z (ps.map fun p=>(p.1,p.2.1,ev fr p.2.2)):=rfl
theorem flat_f(f:FlatV)(id:Nat)(t:TypeId):boxV id 8 (flatA f) t=some (.val (.ptr id 0) (some (.row f.cs t))):=boxV_agg rfl rfl
structure FitsF(f:FlatV):Prop where
 mems:f.mems.length≤1000000
 conts:f.conts.length≤1000000
 cross:f.cross.length≤1000000
 eqs:f.eqs.length≤1000000
 names:f.names.length≤1000000
 outs:f.outs.length≤1000000
 again:f.again.length≤1000000
 args:∀q∈f.eqs,q.args.length≤1000000
 mres:∀m∈f.mems,m.resets.length≤1000000
 cres:∀m∈f.conts,m.resets.length≤1000000
 slopes:∀m∈f.conts,m.slopes.length≤1000000
 ops:∀m∈f.cross,m.ops.length≤1000000
def nV(f:FlatV):Nat:=f.names.length
def goodOk(f:FlatV):Bool:=f.mems.all (memOk (nV f))&&f.conts.all (contOk (nV f))&&f.cross.all (crossOk f (nV f))&&((f.eqs.length:Int)==(nV f:Int))&&eqsOk f (nV f)&&within f.outs (nV f)&&within f.again (nV f)
theorem good_tells(f:FlatV)(F:FitsF f):∃H',cw 37 [flatA f] []=some (.ret (litB (goodOk f)),H'):=by
 refine⟨gH f (nV f),cw_of fn37 (c:=c37) rfl rfl rfl rfl ?_⟩
 have lA:Ai.load [.row f.cs 29] (some 8) (.ptr 0 0)=some (.agg f.cs):=load_agg rfl rfl
 have l1:Ai.load [.row f.cs 29] none (.ptr 0 1)=some (strs f.names):=rfl
 have hbu:buildV [.sl 0 [] (some 0),.sl 0 [] (some 0),.sl 0 [] (some 0),.sl 0 [] (some 0),.sl 0 [] (some 0),.sl 0 [] (some 0),.sl 0 [] (some 0),.sl 0 [] (some 0),litI .i64 0] [(0,8,.agg f.cs),(8,1,litI .i64 f.names.length)]=some (.val (.agg (chkC f (nV f))) none):=rfl
 have s9:storeAt [.row f.cs 29,.row [.sl 0 [] (some 0),.sl 0 [] (some 0),.sl 0 [] (some 0),.sl 0 [] (some 0),.sl 0 [] (some 0),.sl 0 [] (some 0),.sl 0 [] (some 0),.sl 0 [] (some 0),litI .i64 0] 106] 9 (.ptr 1 0) (.agg (chkC f (nV f)))=some [.row f.cs 29,.row (chkC f (nV f)) 106]:=by
  rw[storeAt_agg (n:=9) (xs:=chkC f (nV f)) (t:=106) rfl rfl rfl rfl];rfl
 have s1:storeAt [.row f.cs 29,.row (chkC f (nV f)) 106,.row [.lit .nilFunc] 109] 1 (.ptr 2 0) (.fn (.func 59) [] [.ptr 1 0])=some [.row f.cs 29,.row (chkC f (nV f)) 106,.row [.fn (.func 59) [] [.ptr 1 0]] 109]:=rfl
 have g4:Ai.load [.row f.cs 29,.row (chkC f (nV f)) 106,.row [.fn (.func 59) [] [.ptr 1 0]] 109] none (.ptr 0 4)=some (memsA f.mems):=rfl
 have g5:Ai.load [.row f.cs 29,.row (chkC f (nV f)) 106,.row [.fn (.func 59) [] [.ptr 1 0]] 109] none (.ptr 0 5)=some (contsA f.conts):=rfl
 have g6:Ai.load [.row f.cs 29,.row (chkC f (nV f)) 106,.row [.fn (.func 59) [] [.ptr 1 0]] 109] none (.ptr 0 6)=some (crossA f.cross):=rfl
 have g3:Ai.load [.row f.cs 29,.row (chkC f (nV f)) 106,.row [.fn (.func 59) [] [.ptr 1 0]] 109] none (.ptr 0 3)=some (eqsA f.eqs):=rfl
 have g2:Ai.load [.row f.cs 29,.row (chkC f (nV f)) 106,.row [.fn (.func 59) [] [.ptr 1 0]] 109] none (.ptr 0 2)=some (rowC f.outs none):=rfl
 have g7:Ai.load [.row f.cs 29,.row (chkC f (nV f)) 106,.row [.fn (.func 59) [] [.ptr 1 0]] 109] none (.ptr 0 7)=some (rowC f.again none):=rfl
 have h8:Ai.load [.row f.cs 29,.row (chkC f (nV f)) 106,.row [.fn (.func 59) [] [.ptr 1 0]] 109] none (.ptr 1 8)=some (litI .i64 (nV f)):=rfl
 have hC:Ai.load [.row f.cs 29,.row (chkC f (nV f)) 106,.row [.fn (.func 59) [] [.ptr 1 0]] 109] (some 9) (.ptr 1 0)=some (.agg (chkC f (nV f))):=load_agg rfl rfl
 have cM:=contains64_call f.mems (fun m=>!memOk (nV f) m) (.fn (.func 56) [] [.ptr 1 0]) (gH f (nV f)) (fun m h id=>mem_fn_call f (nV f) m (F.mres m h) id) rfl F.mems
 have cK:=contains65_call f.conts (fun m=>!contOk (nV f) m) (.fn (.func 60) [] [.ptr 1 0,.ptr 2 0]) (gH f (nV f)) (fun m h id=>cont_fn_call f (nV f) m (F.cres m h) (F.slopes m h) id) rfl F.conts
 have cX:=contains66_call f.cross (fun m=>!crossOk f (nV f) m) (.fn (.func 62) [] [.ptr 1 0]) (gH f (nV f)) (fun m h id=>cross_fn_call f (nV f) m (F.ops m h) id) rfl F.cross
 have hE:=eqs_call f (nV f) F.names F.eqs F.args
 have hO:=vars_call f (nV f) f.outs none F.outs
 have hA:=vars_call f (nV f) f.again none F.again
 rw[any_not]at cM cK cX
 unfold gH at cM cK cX ⊢
 unfold goodOk
 cases a1:f.mems.all (memOk (nV f))with
 | false =>
  rw[a1]at cM
  simp -implicitDefEqProofs only[c37,aW,↓aP,makes,reduceLT,reduceEqDiff,reduceAdd,core_box,flat_f,core_build,core_mkf,zA,zC,fadr_ptr,zK,lA,l1,lenV_strs,hbu,s9,s1,g4,cM]
  rfl
 | true =>
 rw[a1]at cM
 cases a2:f.conts.all (contOk (nV f))with
 | false =>
  rw[a2]at cK
  simp -implicitDefEqProofs only[c37,aW,↓aP,makes,reduceLT,reduceEqDiff,reduceAdd,core_box,flat_f,core_build,core_mkf,zA,zC,fadr_ptr,zK,lA,l1,lenV_strs,hbu,s9,s1,g4,g5,cM,cK]
  rfl
 | true =>
 rw[a2]at cK
 cases a3:f.cross.all (crossOk f (nV f))with
 | false =>
  rw[a3]at cX
  simp -implicitDefEqProofs only[c37,aW,↓aP,makes,reduceLT,reduceEqDiff,reduceAdd,core_box,flat_f,core_build,core_mkf,zA,zC,fadr_ptr,zK,lA,l1,lenV_strs,hbu,s9,s1,g4,g5,g6,cM,cK,cX]
  rfl
 | true =>
 rw[a3]at cX
 cases a4:((f.eqs.length:Int)==(nV f:Int))with
 | false =>
  simp -implicitDefEqProofs only[c37,aW,↓aP,makes,reduceLT,reduceEqDiff,reduceAdd,core_box,flat_f,core_build,core_mkf,zA,zC,fadr_ptr,zK,lA,l1,lenV_strs,hbu,s9,s1,g4,g5,g6,g3,h8,cM,cK,cX,lenV_eqs,a4]
  rfl
 | true =>
 cases a5:eqsOk f (nV f)with
 | false =>
  rw[a5]at hE
  simp -implicitDefEqProofs only[c37,aW,↓aP,makes,reduceLT,reduceEqDiff,reduceAdd,core_box,flat_f,core_build,core_mkf,zA,zC,fadr_ptr,zK,lA,l1,lenV_strs,hbu,s9,s1,g4,g5,g6,g3,h8,cM,cK,cX,lenV_eqs,a4,hC,hE]
  rfl
 | true =>
 rw[a5]at hE
 cases a6:within f.outs (nV f)with
 | false =>
  rw[a6]at hO
  simp -implicitDefEqProofs only[c37,aW,↓aP,makes,reduceLT,reduceEqDiff,reduceAdd,core_box,flat_f,core_build,core_mkf,zA,zC,fadr_ptr,zK,lA,l1,lenV_strs,hbu,s9,s1,g4,g5,g6,g3,g2,h8,cM,cK,cX,lenV_eqs,a4,hC,hE,hO]
  rfl
 | true =>
 rw[a6]at hO
 simp -implicitDefEqProofs only[c37,aW,↓aP,makes,reduceLT,reduceEqDiff,reduceAdd,core_box,flat_f,core_build,core_mkf,zA,zC,fadr_ptr,zK,lA,l1,lenV_strs,hbu,s9,s1,g4,g5,g6,g3,g2,g7,h8,cM,cK,cX,lenV_eqs,a4,hC,hE,hO,hA]
 rfl
theorem good_call(f:FlatV)(F:FitsF f)(H:List AO)(id:Nat):callV cw mds 37 [flatA f] H id=some (.val (litB (goodOk f)) none):=by
 obtain⟨H',h⟩:=good_tells f F
 exact callV_pureA rfl rfl h rfl
end
section
def rstepOk(f:FlatV)(n:Nat)(T:List Bool)(q:Eqn):Bool:=inN n q.var&&!(T.getD q.var.toNat false)&&decide (q.guard<n)&&within q.args n&&rightOk f q
def reqsF(f:FlatV)(n:Nat):List Bool→List Eqn→Option (List Bool)
 | T,[]=>some T
 | T,q::r=>bif rstepOk f n T q then reqsF f n (T.set q.var.toNat true) r else none
theorem rg_e{H:List AO}{f:FlatV}(h:H[0]?=some (.row f.cs 29)):Ai.load H none (.ptr 0 3)=some (eqsA f.eqs):=by rw[load_ptr h];rfl
theorem rg_f{H:List AO}{f:FlatV}(h:H[0]?=some (.row f.cs 29))(x:AO):Ai.load (H++[x]) (some 8) (.ptr 0 0)=some (.agg f.cs):=load_agg (get_app0 h x) rfl
theorem req_round(f:FlatV)(n i:Nat)(q:Eqn)(T:List Bool)(hF:Fits f)(hi:f.eqs[i]?=some q)(hlt:(i:Int)<n)(hn:i<4611686018427387904)(hl:q.args.length≤1000000)
  (H:List AO)(hH:H[0]?=some (.row f.cs 29))(h1:H[1]?=some (.row (cellsB T) 4))(hT:T.length=n) :
  codeW cw (lookM mtl) mds c25l0 [(1,.ptr 0 0),(3,litI .i64 n),(4,.own 1 0 n 1 (some n)),(5,litI .i64 i)] H =
   some (bif rstepOk f n T q then(.normal,[(1,.ptr 0 0),(3,litI .i64 n),(4,.own 1 0 n 1 (some n)),(5,litI .i64 ((i+1:Nat):Int))],setL (H++[.row q.cs 60]) 1 (.row (cellsB (T.set q.var.toNat true)) 4))
    else(.ret,[(2,litB false)],H++[.row q.cs 60])):=by
 have hR:=within_call q.args none n hl
 have hE:=right_call f q hF
 have hA:=load_ipA (H:=H) (show(Eqn.cs q).length=10 from rfl)
 have ce:=rg_e hH
 have cf:=rg_f hH (.row q.cs 60)
 by_cases b0:q.var<0
 ·rw[show rstepOk f n T q=false by simp only[rstepOk,show inN n q.var=false by simp[inN];omega,zP],cond_false]
  simp -implicitDefEqProofs only[c25l0,aW,↓aP,makes,reduceLT,reduceEqDiff,reduceAdd,iadr_eqs,hi,hlt,hA,ce,eq_st,eq_g0,fadr_ptr,b0]
 by_cases b1:q.var≥(n:Int)
 ·rw[show rstepOk f n T q=false by simp only[rstepOk,show inN n q.var=false by simp[inN];omega,zP],cond_false]
  simp -implicitDefEqProofs only[c25l0,aW,↓aP,makes,reduceLT,reduceEqDiff,reduceAdd,iadr_eqs,hi,hlt,hA,ce,eq_st,eq_g0,fadr_ptr,b0,b1]
 have a1:inN n q.var=true:=by simp[inN];omega
 obtain⟨v,hv,hvn⟩:∃v:Nat,q.var=v∧v<n:=⟨q.var.toNat,by omega,by omega⟩
 have ia:iadr 1 (.own 1 0 n 1 (some n)) (litI .i64 q.var)=some (.ptr 1 v):=by
  rw[hv,iadr_own,if_pos (by omega)];simp
 have ht:Ai.load (H++[.row q.cs 60]) none (.ptr 1 v)=some (litB (T.getD v false)):=by
  rw[load_ptr (getH_app h1),cellsB,xJ,zE (by omega),yR,zF,zE (by omega)];rfl
 have hst:storeAt (H++[.row q.cs 60]) 1 (.ptr 1 v) (litB true)=some (setL (H++[.row q.cs 60]) 1 (.row (cellsB (T.set v true)) 4)):=by
  rw[store_ptr (getH_app h1) (by simp[cellsB];omega) rfl rfl,cellsB,cellsB,uG]
 have hvt:q.var.toNat=v:=by omega
 cases a2:T.getD v false with
 | true =>
  rw[a2]at ht
  rw[show rstepOk f n T q=false by simp only[rstepOk,a1,hvt,a2,vK,yM,zP],cond_false]
  simp -implicitDefEqProofs only[c25l0,aW,↓aP,makes,reduceLT,reduceEqDiff,reduceAdd,iadr_eqs,hi,hlt,hA,ce,eq_st,eq_g0,fadr_ptr,b0,b1,ia,ht]
 | false =>
 rw[a2]at ht
 by_cases b3:q.guard≥(n:Int)
 ·rw[show rstepOk f n T q=false by simp only[rstepOk,show decide (q.guard<n)=false by simp;omega,yM,zP],cond_false]
  simp -implicitDefEqProofs only[c25l0,aW,↓aP,makes,reduceLT,reduceEqDiff,reduceAdd,iadr_eqs,hi,hlt,hA,ce,eq_st,eq_g0,eq_g9,fadr_ptr,b0,b1,ia,ht,b3]
 have a3:decide (q.guard<n)=true:=by simp;omega
 cases a4:within q.args n with
 | false =>
  rw[a4]at hR
  rw[show rstepOk f n T q=false by simp only[rstepOk,a4,yM,zP],cond_false]
  simp -implicitDefEqProofs only[c25l0,aW,↓aP,makes,reduceLT,reduceEqDiff,reduceAdd,iadr_eqs,hi,hlt,hA,ce,eq_st,eq_g0,eq_g2,eq_g9,fadr_ptr,b0,b1,ia,ht,b3,hR]
 | true =>
 rw[a4]at hR
 cases a5:rightOk f q with
 | false =>
  rw[a5]at hE
  rw[show rstepOk f n T q=false by simp only[rstepOk,a5,yM],cond_false]
  simp -implicitDefEqProofs only[c25l0,aW,↓aP,makes,reduceLT,reduceEqDiff,reduceAdd,iadr_eqs,hi,hlt,hA,ce,cf,eq_st,eq_g0,eq_g2,eq_g9,eq_gA,fadr_ptr,b0,b1,ia,ht,b3,hR,hE]
 | true =>
 rw[a5]at hE
 rw[show rstepOk f n T q=true by simp only[rstepOk,a1,hvt,a2,a3,a4,a5,vU,yX],cond_true,hvt]
 simp -implicitDefEqProofs only[c25l0,aW,↓aP,makes,reduceLT,reduceEqDiff,reduceAdd,iadr_eqs,hi,hlt,hA,ce,cf,eq_st,eq_g0,eq_g2,eq_g9,eq_gA,fadr_ptr,b0,b1,ia,ht,b3,hR,hE,hst,wrap1 hn]
end
section
theorem req_loop(f:FlatV)(n:Nat)(hF:Fits f)(hn1:n≤1000000)(hl:f.eqs.length=n)(ha:∀q∈f.eqs,q.args.length≤1000000):∀(m i:Nat)(T:List Bool)(H:List AO),m+i=n →
  H[0]?=some (.row f.cs 29)→H[1]?=some (.row (cellsB T) 4)→T.length=n →
  (∀T',reqsF f n T (f.eqs.drop i)=some T'→∃H',loopW (codeW cw (lookM mtl) mds c25l0) [1,3,4,5] [(1,.ptr 0 0),(3,litI .i64 n),(4,.own 1 0 n 1 (some n)),(5,litI .i64 i)] H =
   some (EX.exit 0,[(1,.ptr 0 0),(3,litI .i64 n),(4,.own 1 0 n 1 (some n)),(5,litI .i64 n),(25,litB false)],H')∧H'[0]?=some (.row f.cs 29)) ∧
  (reqsF f n T (f.eqs.drop i)=none→∃H',loopW (codeW cw (lookM mtl) mds c25l0) [1,3,4,5] [(1,.ptr 0 0),(3,litI .i64 n),(4,.own 1 0 n 1 (some n)),(5,litI .i64 i)] H=some (.ret,[(2,litB false)],H'))
 | 0,i,T,H,h,h0,h1,hT=>by
  have hn:i=n:=by omega
  subst hn
  rw[tF (by omega),reqsF]
  refine⟨fun T' e=>⟨H,?_,h0⟩,fun e=>by cases e⟩
  refine loopW_out ?_ (by simp)
  simp -implicitDefEqProofs only[c25l0,aW,↓aP,makes,reduceLT,reduceEqDiff,reduceAdd,zR]
 | m+1,i,T,H,h,h0,h1,hT=>by
  have hn:i<f.eqs.length:=by omega
  have hg:f.eqs[i]?=some f.eqs[i]:=zE hn
  have R:=req_round f n i f.eqs[i] T hF hg (by omega) (by omega) (ha _ (zV hn)) H h0 h1 hT
  rw[zS hn,reqsF]
  cases ho:rstepOk f n T f.eqs[i]with
  | true =>
   rw[ho,cond_true]at R
   rw[cond_true]
   have k0:(setL (H++[.row (Eqn.cs f.eqs[i]) 60]) 1 (.row (cellsB (T.set f.eqs[i].var.toNat true)) 4))[0]?=some (.row f.cs 29):=by
    rw[getH_set_ne (by omega)];exact getH_app h0
   have k1:(setL (H++[.row (Eqn.cs f.eqs[i]) 60]) 1 (.row (cellsB (T.set f.eqs[i].var.toNat true)) 4))[1]?=some (.row (cellsB (T.set f.eqs[i].var.toNat true)) 4):=by
    unfold setL
    have:=(zG.1 h1).1
    rw[yK (by simp;omega)]
   obtain⟨A,B⟩:=req_loop f n hF hn1 hl ha m (i+1) _ _ (by omega) k0 k1 (by simp[hT])
   refine⟨fun T' e=>?_,fun e=>?_⟩
   ·obtain⟨H',L,x⟩:=A T' e
    refine⟨H',loopW_round ?_ L,x⟩
    simp -implicitDefEqProofs only[aW,↓aP,makes,reduceLT,reduceEqDiff,reduceAdd,R]
   ·obtain⟨H',L⟩:=B e
    refine⟨H',loopW_round ?_ L⟩
    simp -implicitDefEqProofs only[aW,↓aP,makes,reduceLT,reduceEqDiff,reduceAdd,R]
  | false =>
   rw[ho,cond_false]at R
   rw[cond_false]
   refine⟨fun T' e=>(by cases e),fun e=>⟨H++[.row (Eqn.cs f.eqs[i]) 60],loopW_out ?_ (by simp)⟩⟩
   simp -implicitDefEqProofs only[aW,↓aP,makes,reduceLT,reduceEqDiff,reduceAdd,R]
theorem rm_st(H:List AO)(o:MemV):storeAt (H++[AO.row [litI .i64 0,litB false,.sl 0 [] (some 0),.sl 0 [] (some 0),litS (bs []),litI .i64 0,litI .i64 0,.sl 0 [] (some 0)] 87]) 8 (.ptr H.length 0) (.agg o.cs)=some (H++[.row o.cs 87]):=by
 rw[storeAt_agg (n:=8) (xs:=o.cs) (get_last H _) rfl rfl rfl,setL_last]
theorem rm_5(H:List AO)(o:MemV):Ai.load (H++[.row o.cs 87]) none (.ptr H.length 5)=some (litI .i64 o.next):=by rw[load_ptr (get_last H _)];rfl
theorem rm_6(H:List AO)(o:MemV):Ai.load (H++[.row o.cs 87]) none (.ptr H.length 6)=some (litI .i64 o.guard):=by rw[load_ptr (get_last H _)];rfl
theorem rm_7(H:List AO)(o:MemV):Ai.load (H++[.row o.cs 87]) none (.ptr H.length 7)=some (rowC o.resets none):=by rw[load_ptr (get_last H _)];rfl
theorem rg_m{H:List AO}{f:FlatV}(h:H[0]?=some (.row f.cs 29)):Ai.load H none (.ptr 0 4)=some (memsA f.mems):=by rw[load_ptr h];rfl
theorem rmem_round(f:FlatV)(n i:Nat)(q:MemV)(hi:f.mems[i]?=some q)(hlt:(i:Int)<f.mems.length)(hn:i<4611686018427387904)(hl:q.resets.length≤1000000)
  (H:List AO)(hH:H[0]?=some (.row f.cs 29)) :
  codeW cw (lookM mtl) mds c25l1 [(1,.ptr 0 0),(3,litI .i64 n),(7,litI .i64 i)] H =
   some (bif memOk n q then(.normal,[(1,.ptr 0 0),(3,litI .i64 n),(7,litI .i64 ((i+1:Nat):Int))],H++[.row q.cs 87])else(.ret,[(2,litB false)],H++[.row q.cs 87])):=by
 have hR:=within_call q.resets none n hl
 have hA:=load_ipA (H:=H) (show(MemV.cs q).length=8 from rfl)
 have cm:=rg_m hH
 by_cases b0:q.next<0
 ·rw[show memOk n q=false by simp only[memOk,show inN n q.next=false by simp[inN];omega,zP],cond_false]
  simp -implicitDefEqProofs only[c25l1,aW,↓aP,makes,reduceLT,reduceEqDiff,reduceAdd,iadr_mems,lenV_mems,hi,hlt,hA,cm,rm_st,rm_5,fadr_ptr,b0]
 by_cases b1:q.next≥(n:Int)
 ·rw[show memOk n q=false by simp only[memOk,show inN n q.next=false by simp[inN];omega,zP],cond_false]
  simp -implicitDefEqProofs only[c25l1,aW,↓aP,makes,reduceLT,reduceEqDiff,reduceAdd,iadr_mems,lenV_mems,hi,hlt,hA,cm,rm_st,rm_5,fadr_ptr,b0,b1]
 by_cases b2:q.guard≥(n:Int)
 ·rw[show memOk n q=false by simp only[memOk,show decide (q.guard<n)=false by simp;omega,yM,zP],cond_false]
  simp -implicitDefEqProofs only[c25l1,aW,↓aP,makes,reduceLT,reduceEqDiff,reduceAdd,iadr_mems,lenV_mems,hi,hlt,hA,cm,rm_st,rm_5,rm_6,fadr_ptr,b0,b1,b2]
 rw[show memOk n q=within q.resets n by simp only[memOk,show inN n q.next=true by simp[inN];omega,show decide (q.guard<n)=true by simp;omega,zQ]]
 cases a:within q.resets n with
 | false =>
  rw[a]at hR
  rw[cond_false]
  simp -implicitDefEqProofs only[c25l1,aW,↓aP,makes,reduceLT,reduceEqDiff,reduceAdd,iadr_mems,lenV_mems,hi,hlt,hA,cm,rm_st,rm_5,rm_6,rm_7,fadr_ptr,b0,b1,b2,hR]
 | true =>
  rw[a]at hR
  rw[cond_true]
  simp -implicitDefEqProofs only[c25l1,aW,↓aP,makes,reduceLT,reduceEqDiff,reduceAdd,iadr_mems,lenV_mems,hi,hlt,hA,cm,rm_st,rm_5,rm_6,rm_7,fadr_ptr,b0,b1,b2,hR,wrap1 hn]
theorem rmem_loop(f:FlatV)(n:Nat)(hm:f.mems.length≤1000000)(hl:∀q∈f.mems,q.resets.length≤1000000):∀(m i:Nat)(H:List AO),m+i=f.mems.length→H[0]?=some (.row f.cs 29) →
  ∃H',H'[0]?=some (.row f.cs 29)∧loopW (codeW cw (lookM mtl) mds c25l1) [1,3,7] [(1,.ptr 0 0),(3,litI .i64 n),(7,litI .i64 i)] H =
   some (bif(f.mems.drop i).all (memOk n)then(EX.exit 2,[(1,.ptr 0 0),(3,litI .i64 n),(7,litI .i64 f.mems.length),(76,litB false)],H')else(.ret,[(2,litB false)],H'))
 | 0,i,H,h,hH=>by
  have hn:i=f.mems.length:=by omega
  subst hn
  refine⟨H,hH,?_⟩
  rw[yB,xX,cond_true]
  refine loopW_out ?_ (by simp)
  simp -implicitDefEqProofs only[c25l1,aW,↓aP,makes,reduceLT,reduceEqDiff,reduceAdd,fadr_ptr,rg_m hH,lenV_mems,zR]
 | m+1,i,H,h,hH=>by
  have hn:i<f.mems.length:=by omega
  have hg:f.mems[i]?=some f.mems[i]:=zE hn
  have R:=rmem_round f n i f.mems[i] hg (by omega) (by omega) (hl _ (zV hn)) H hH
  rw[zS hn,xE]
  cases ho:memOk n f.mems[i]with
  | true =>
   rw[ho,cond_true]at R
   rw[zQ]
   obtain⟨H',x,L⟩:=rmem_loop f n hm hl m (i+1) _ (by omega) (get_app0 hH (.row (MemV.cs f.mems[i]) 87))
   refine⟨H',x,loopW_round ?_ L⟩
   simp -implicitDefEqProofs only[aW,↓aP,makes,reduceLT,reduceEqDiff,reduceAdd,R]
  | false =>
   rw[ho,cond_false]at R
   refine⟨H++[.row (MemV.cs f.mems[i]) 87],get_app0 hH _,?_⟩
   rw[zP,cond_false]
   refine loopW_out ?_ (by simp)
   simp -implicitDefEqProofs only[aW,↓aP,makes,reduceLT,reduceEqDiff,reduceAdd,R]
end
section
theorem sl_h0(s:SlopeV):(List.drop 0 s.cs).head?=some (litI .i64 s.guard):=rfl
theorem sl_h1(s:SlopeV):(List.drop 1 s.cs).head?=some (litI .i64 s.var):=rfl
theorem rk_8{H:List AO}{k:Nat}{x:ContV}(h:H[k]?=some (.row x.cs 90)):Ai.load H none (.ptr k 8)=some (slopesA x.slopes):=by rw[load_ptr h];rfl
theorem rslope_round(n i j k:Nat)(x:ContV)(s:SlopeV)(hi:x.slopes[j]?=some s)(hlt:(j:Int)<x.slopes.length)(hn:j<4611686018427387904)(H:List AO)(hk:H[k]?=some (.row x.cs 90)) :
  codeW cw (lookM mtl) mds c25l2 [(1,.ptr 0 0),(3,litI .i64 n),(9,litI .i64 i),(10,.ptr k 0),(11,litI .i64 j)] H =
   some (bif slopeOk n s then(.normal,[(1,.ptr 0 0),(3,litI .i64 n),(9,litI .i64 i),(10,.ptr k 0),(11,litI .i64 ((j+1:Nat):Int))],H)else(.ret,[(2,litB false)],H)):=by
 have c8:=rk_8 hk
 by_cases b2:s.guard≥(n:Int)
 ·rw[show slopeOk n s=false by simp only[slopeOk,show decide (s.guard<n)=false by simp;omega,yM],cond_false]
  simp -implicitDefEqProofs only[c25l2,aW,↓aP,makes,reduceLT,reduceEqDiff,reduceAdd,iadr_slopes,lenV_slopes,hi,hlt,c8,fadr_ptr,fadr_ip,sl_h0,sl_h1,b2]
 by_cases b0:s.var<0
 ·rw[show slopeOk n s=false by simp only[slopeOk,show inN n s.var=false by simp[inN];omega,zP],cond_false]
  simp -implicitDefEqProofs only[c25l2,aW,↓aP,makes,reduceLT,reduceEqDiff,reduceAdd,iadr_slopes,lenV_slopes,hi,hlt,c8,fadr_ptr,fadr_ip,sl_h0,sl_h1,b2,b0]
 by_cases b1:s.var≥(n:Int)
 ·rw[show slopeOk n s=false by simp only[slopeOk,show inN n s.var=false by simp[inN];omega,zP],cond_false]
  simp -implicitDefEqProofs only[c25l2,aW,↓aP,makes,reduceLT,reduceEqDiff,reduceAdd,iadr_slopes,lenV_slopes,hi,hlt,c8,fadr_ptr,fadr_ip,sl_h0,sl_h1,b2,b0,b1]
 rw[show slopeOk n s=true by simp only[slopeOk,show inN n s.var=true by simp[inN];omega,show decide (s.guard<n)=true by simp;omega,yX],cond_true]
 simp -implicitDefEqProofs only[c25l2,aW,↓aP,makes,reduceLT,reduceEqDiff,reduceAdd,iadr_slopes,lenV_slopes,hi,hlt,c8,fadr_ptr,fadr_ip,sl_h0,sl_h1,b2,b0,b1,wrap1 hn]
theorem rslope_loop(n i k:Nat)(x:ContV)(hs:x.slopes.length≤1000000)(H:List AO)(hk:H[k]?=some (.row x.cs 90)):∀(m j:Nat),m+j=x.slopes.length →
  loopW (codeW cw (lookM mtl) mds c25l2) [1,3,9,10,11] [(1,.ptr 0 0),(3,litI .i64 n),(9,litI .i64 i),(10,.ptr k 0),(11,litI .i64 j)] H =
   some (bif(x.slopes.drop j).all (slopeOk n)then(EX.exit 6,[(1,.ptr 0 0),(3,litI .i64 n),(9,litI .i64 i),(10,.ptr k 0),(11,litI .i64 x.slopes.length),(144,litB false)],H)else(.ret,[(2,litB false)],H))
 | 0,j,h=>by
  have hn:j=x.slopes.length:=by omega
  subst hn
  rw[yB,xX,cond_true]
  refine loopW_out ?_ (by simp)
  simp -implicitDefEqProofs only[c25l2,aW,↓aP,makes,reduceLT,reduceEqDiff,reduceAdd,fadr_ptr,rk_8 hk,lenV_slopes,zR]
 | m+1,j,h=>by
  have hn:j<x.slopes.length:=by omega
  have hg:x.slopes[j]?=some x.slopes[j]:=zE hn
  have R:=rslope_round n i j k x x.slopes[j] hg (by omega) (by omega) H hk
  rw[zS hn,xE]
  cases ho:slopeOk n x.slopes[j]with
  | true =>
   rw[ho,cond_true]at R
   rw[zQ]
   refine loopW_round ?_ (rslope_loop n i k x hs H hk m (j+1) (by omega))
   simp -implicitDefEqProofs only[aW,↓aP,makes,reduceLT,reduceEqDiff,reduceAdd,R]
  | false =>
   rw[ho,cond_false]at R
   rw[zP,cond_false]
   refine loopW_out ?_ (by simp)
   simp -implicitDefEqProofs only[aW,↓aP,makes,reduceLT,reduceEqDiff,reduceAdd,R]
theorem rk_st(H:List AO)(o:ContV):storeAt (H++[AO.row [litI .i64 0,litB false,.sl 0 [] (some 0),.sl 0 [] (some 0),litS (bs []),litI .i64 0,litI .i64 0,.sl 0 [] (some 0),.sl 0 [] (some 0)] 90]) 9 (.ptr H.length 0) (.agg o.cs)=some (H++[.row o.cs 90]):=by
 rw[storeAt_agg (n:=9) (xs:=o.cs) (get_last H _) rfl rfl rfl,setL_last]
theorem rk_5(H:List AO)(o:ContV):Ai.load (H++[.row o.cs 90]) none (.ptr H.length 5)=some (litI .i64 o.var):=by rw[load_ptr (get_last H _)];rfl
theorem rk_6(H:List AO)(o:ContV):Ai.load (H++[.row o.cs 90]) none (.ptr H.length 6)=some (litI .i64 o.guard):=by rw[load_ptr (get_last H _)];rfl
theorem rk_7(H:List AO)(o:ContV):Ai.load (H++[.row o.cs 90]) none (.ptr H.length 7)=some (rowC o.resets none):=by rw[load_ptr (get_last H _)];rfl
theorem rg_k{H:List AO}{f:FlatV}(h:H[0]?=some (.row f.cs 29)):Ai.load H none (.ptr 0 5)=some (contsA f.conts):=by rw[load_ptr h];rfl
theorem rcont_round(f:FlatV)(n i:Nat)(q:ContV)(hi:f.conts[i]?=some q)(hlt:(i:Int)<f.conts.length)(hn:i<4611686018427387904)(hl:q.resets.length≤1000000)(hs:q.slopes.length≤1000000)
  (H:List AO)(hH:H[0]?=some (.row f.cs 29)) :
  codeW cw (lookM mtl) mds c25l3 [(1,.ptr 0 0),(3,litI .i64 n),(9,litI .i64 i)] H =
   some (bif contOk n q then(.normal,[(1,.ptr 0 0),(3,litI .i64 n),(9,litI .i64 ((i+1:Nat):Int))],H++[.row q.cs 90])else(.ret,[(2,litB false)],H++[.row q.cs 90])):=by
 have hR:=within_call q.resets none n hl
 have hA:=load_ipA (H:=H) (show(ContV.cs q).length=9 from rfl)
 have cm:=rg_k hH
 have L:=rslope_loop n i H.length q hs (H++[.row q.cs 90]) (get_last H _) q.slopes.length 0 (by omega)
 rw[zJ,show((0:Nat):Int)=0 from rfl]at L
 by_cases b0:q.var<0
 ·rw[show contOk n q=false by simp only[contOk,show inN n q.var=false by simp[inN];omega,zP],cond_false]
  simp -implicitDefEqProofs only[c25l3,aW,↓aP,makes,reduceLT,reduceEqDiff,reduceAdd,iadr_conts,lenV_conts,hi,hlt,hA,cm,rk_st,rk_5,fadr_ptr,b0]
 by_cases b1:q.var≥(n:Int)
 ·rw[show contOk n q=false by simp only[contOk,show inN n q.var=false by simp[inN];omega,zP],cond_false]
  simp -implicitDefEqProofs only[c25l3,aW,↓aP,makes,reduceLT,reduceEqDiff,reduceAdd,iadr_conts,lenV_conts,hi,hlt,hA,cm,rk_st,rk_5,fadr_ptr,b0,b1]
 by_cases b2:q.guard≥(n:Int)
 ·rw[show contOk n q=false by simp only[contOk,show decide (q.guard<n)=false by simp;omega,yM,zP],cond_false]
  simp -implicitDefEqProofs only[c25l3,aW,↓aP,makes,reduceLT,reduceEqDiff,reduceAdd,iadr_conts,lenV_conts,hi,hlt,hA,cm,rk_st,rk_5,rk_6,fadr_ptr,b0,b1,b2]
 rw[show contOk n q=(within q.resets n&&q.slopes.all (slopeOk n)) by simp only[contOk,show inN n q.var=true by simp[inN];omega,show decide (q.guard<n)=true by simp;omega,zQ]]
 cases a:within q.resets n with
 | false =>
  rw[a]at hR
  rw[zP,cond_false]
  simp -implicitDefEqProofs only[c25l3,aW,↓aP,makes,reduceLT,reduceEqDiff,reduceAdd,iadr_conts,lenV_conts,hi,hlt,hA,cm,rk_st,rk_5,rk_6,rk_7,fadr_ptr,b0,b1,b2,hR]
 | true =>
  rw[a]at hR
  rw[zQ]
  cases b:q.slopes.all (slopeOk n)with
  | false =>
   rw[b,cond_false]at L
   rw[cond_false]
   simp -implicitDefEqProofs only[c25l3,aW,↓aP,makes,reduceLT,reduceEqDiff,reduceAdd,iadr_conts,lenV_conts,hi,hlt,hA,cm,rk_st,rk_5,rk_6,rk_7,fadr_ptr,b0,b1,b2,hR,L]
  | true =>
   rw[b,cond_true]at L
   rw[cond_true]
   simp -implicitDefEqProofs only[c25l3,aW,↓aP,makes,reduceLT,reduceEqDiff,reduceAdd,iadr_conts,lenV_conts,hi,hlt,hA,cm,rk_st,rk_5,rk_6,rk_7,fadr_ptr,b0,b1,b2,hR,L,wrap1 hn]
theorem rcont_loop(f:FlatV)(n:Nat)(hm:f.conts.length≤1000000)(hl:∀q∈f.conts,q.resets.length≤1000000)(hs:∀q∈f.conts,q.slopes.length≤1000000):∀(m i:Nat)(H:List AO),m+i=f.conts.length→H[0]?=some (.row f.cs 29) →
  ∃H',H'[0]?=some (.row f.cs 29)∧loopW (codeW cw (lookM mtl) mds c25l3) [1,3,9] [(1,.ptr 0 0),(3,litI .i64 n),(9,litI .i64 i)] H =
   some (bif(f.conts.drop i).all (contOk n)then(EX.exit 4,[(1,.ptr 0 0),(3,litI .i64 n),(9,litI .i64 f.conts.length),(110,litB false)],H')else(.ret,[(2,litB false)],H'))
 | 0,i,H,h,hH=>by
  have hn:i=f.conts.length:=by omega
  subst hn
  refine⟨H,hH,?_⟩
  rw[yB,xX,cond_true]
  refine loopW_out ?_ (by simp)
  simp -implicitDefEqProofs only[c25l3,aW,↓aP,makes,reduceLT,reduceEqDiff,reduceAdd,fadr_ptr,rg_k hH,lenV_conts,zR]
 | m+1,i,H,h,hH=>by
  have hn:i<f.conts.length:=by omega
  have hg:f.conts[i]?=some f.conts[i]:=zE hn
  have R:=rcont_round f n i f.conts[i] hg (by omega) (by omega) (hl _ (zV hn)) (hs _ (zV hn)) H hH
  rw[zS hn,xE]
  cases ho:contOk n f.conts[i]with
  | true =>
   rw[ho,cond_true]at R
   rw[zQ]
   obtain⟨H',x,L⟩:=rcont_loop f n hm hl hs m (i+1) _ (by omega) (get_app0 hH (.row (ContV.cs f.conts[i]) 90))
   refine⟨H',x,loopW_round ?_ L⟩
   simp -implicitDefEqProofs only[aW,↓aP,makes,reduceLT,reduceEqDiff,reduceAdd,R]
  | false =>
   rw[ho,cond_false]at R
   refine⟨H++[.row (ContV.cs f.conts[i]) 90],get_app0 hH _,?_⟩
   rw[zP,cond_false]
   refine loopW_out ?_ (by simp)
   simp -implicitDefEqProofs only[aW,↓aP,makes,reduceLT,reduceEqDiff,reduceAdd,R]
end
section
theorem cr_h0(s:CrossV):(List.drop 0 s.cs).head?=some (litI .i64 s.guard):=rfl
theorem cr_h1(s:CrossV):(List.drop 1 s.cs).head?=some (copsA s.ops):=rfl
theorem rg_x{H:List AO}{f:FlatV}(h:H[0]?=some (.row f.cs 29)):Ai.load H none (.ptr 0 6)=some (crossA f.cross):=by rw[load_ptr h];rfl
theorem rg_F{H:List AO}{f:FlatV}(h:H[0]?=some (.row f.cs 29)):Ai.load H (some 8) (.ptr 0 0)=some (.agg f.cs):=load_agg h rfl
theorem rcross_round(f:FlatV)(n i:Nat)(q:CrossV)(hi:f.cross[i]?=some q)(hlt:(i:Int)<f.cross.length)(hn:i<4611686018427387904)(hl:q.ops.length≤1000000)
  (H:List AO)(hH:H[0]?=some (.row f.cs 29)) :
  codeW cw (lookM mtl) mds c25l4 [(1,.ptr 0 0),(3,litI .i64 n),(12,litI .i64 i)] H =
   some (bif crossOk f n q then(.normal,[(1,.ptr 0 0),(3,litI .i64 n),(12,litI .i64 ((i+1:Nat):Int))],H)else(.ret,[(2,litB false)],H)):=by
 have hO:=asks_call f n q.ops hl
 have cx:=rg_x hH
 have cF:=rg_F hH
 by_cases b2:q.guard≥(n:Int)
 ·rw[show crossOk f n q=false by simp only[crossOk,show decide (q.guard<n)=false by simp;omega,zP],cond_false]
  simp -implicitDefEqProofs only[c25l4,aW,↓aP,makes,reduceLT,reduceEqDiff,reduceAdd,iadr_cross,lenV_cross,hi,hlt,cx,cF,fadr_ptr,fadr_ip,cr_h0,cr_h1,b2]
 rw[show crossOk f n q=opsOk f n q.ops by simp only[crossOk,show decide (q.guard<n)=true by simp;omega,zQ]]
 cases a:opsOk f n q.ops with
 | false =>
  rw[a]at hO
  rw[cond_false]
  simp -implicitDefEqProofs only[c25l4,aW,↓aP,makes,reduceLT,reduceEqDiff,reduceAdd,iadr_cross,lenV_cross,hi,hlt,cx,cF,fadr_ptr,fadr_ip,cr_h0,cr_h1,b2,hO]
 | true =>
  rw[a]at hO
  rw[cond_true]
  simp -implicitDefEqProofs only[c25l4,aW,↓aP,makes,reduceLT,reduceEqDiff,reduceAdd,iadr_cross,lenV_cross,hi,hlt,cx,cF,fadr_ptr,fadr_ip,cr_h0,cr_h1,b2,hO,wrap1 hn]
theorem rcross_loop(f:FlatV)(n:Nat)(hm:f.cross.length≤1000000)(hl:∀q∈f.cross,q.ops.length≤1000000)(H:List AO)(hH:H[0]?=some (.row f.cs 29)):∀(m i:Nat),m+i=f.cross.length →
  loopW (codeW cw (lookM mtl) mds c25l4) [1,3,12] [(1,.ptr 0 0),(3,litI .i64 n),(12,litI .i64 i)] H =
   some (bif(f.cross.drop i).all (crossOk f n)then(EX.exit 8,[(1,.ptr 0 0),(3,litI .i64 n),(12,litI .i64 f.cross.length),(178,litB false)],H)else(.ret,[(2,litB false)],H))
 | 0,i,h=>by
  have hn:i=f.cross.length:=by omega
  subst hn
  rw[yB,xX,cond_true]
  refine loopW_out ?_ (by simp)
  simp -implicitDefEqProofs only[c25l4,aW,↓aP,makes,reduceLT,reduceEqDiff,reduceAdd,fadr_ptr,rg_x hH,lenV_cross,zR]
 | m+1,i,h=>by
  have hn:i<f.cross.length:=by omega
  have hg:f.cross[i]?=some f.cross[i]:=zE hn
  have R:=rcross_round f n i f.cross[i] hg (by omega) (by omega) (hl _ (zV hn)) H hH
  rw[zS hn,xE]
  cases ho:crossOk f n f.cross[i]with
  | true =>
   rw[ho,cond_true]at R
   rw[zQ]
   refine loopW_round ?_ (rcross_loop f n hm hl H hH m (i+1) (by omega))
   simp -implicitDefEqProofs only[aW,↓aP,makes,reduceLT,reduceEqDiff,reduceAdd,R]
  | false =>
   rw[ho,cond_false]at R
   rw[zP,cond_false]
   refine loopW_out ?_ (by simp)
   simp -implicitDefEqProofs only[aW,↓aP,makes,reduceLT,reduceEqDiff,reduceAdd,R]
theorem rg_o{H:List AO}{f:FlatV}(h:H[0]?=some (.row f.cs 29)):Ai.load H none (.ptr 0 2)=some (rowC f.outs none):=by rw[load_ptr h];rfl
theorem rg_a{H:List AO}{f:FlatV}(h:H[0]?=some (.row f.cs 29)):Ai.load H none (.ptr 0 7)=some (rowC f.again none):=by rw[load_ptr h];rfl
def goodR(f:FlatV):Bool:=((f.eqs.length:Int)==(nV f:Int))&&(reqsF f (nV f) (List.replicate (nV f) false) f.eqs).isSome&&f.mems.all (memOk (nV f))&&f.conts.all (contOk (nV f))&&f.cross.all (crossOk f (nV f))&&within f.outs (nV f)&&within f.again (nV f)
theorem rgood_tells(f:FlatV)(F:FitsF f):∃H',cw 25 [flatA f] []=some (.ret (litB (goodR f)),H'):=by
 have l1:Ai.load [.row f.cs 29] none (.ptr 0 1)=some (strs f.names):=rfl
 have ln:lenV (strs f.names)=some (litI .i64 (nV f)):=lenV_strs f.names
 have hm:∀id,mksV id 1 1 [litB false] 4 (litI .i64 (nV f)) (litI .i64 (nV f))=some (.val (.own id 0 (nV f) 1 (some (nV f))) (some (.row (cellsB (List.replicate (nV f) false)) 4))):=fun id=>by
  have:=F.names
  rw[mksV_ok (by unfold nV;omega) (by unfold nV;omega),reps_one,cellsB,List.map_replicate]
 have l3:Ai.load [.row f.cs 29,.row (cellsB (List.replicate (nV f) false)) 4] none (.ptr 0 3)=some (eqsA f.eqs):=rfl
 unfold goodR
 cases a0:((f.eqs.length:Int)==(nV f:Int))with
 | false =>
  have a0':((f.eqs.length:Int) != (nV f:Int))=true:=by unfold bne;rw[a0];rfl
  refine⟨_,cw_of fn25 (c:=c25) (H:=[]) (r:=(.ret (litB false),[.row f.cs 29,.row (cellsB (List.replicate (nV f) false)) 4])) rfl rfl rfl rfl ?_⟩
  simp -implicitDefEqProofs only[c25,aW,↓aP,makes,reduceLT,reduceEqDiff,reduceAdd,core_box,flat_f,zA,zC,fadr_ptr,l1,ln,hm,l3,lenV_eqs,a0']
  rfl
 | true =>
 have a0':((f.eqs.length:Int) != (nV f:Int))=false:=by unfold bne;rw[a0];rfl
 have he:f.eqs.length=nV f:=by have:=eq_of_beq a0;omega
 have hFit:Fits f:=⟨F.mres,F.cres⟩
 obtain⟨A,B⟩:=req_loop f (nV f) hFit F.names he F.args (nV f) 0 (List.replicate (nV f) false) [.row f.cs 29,.row (cellsB (List.replicate (nV f) false)) 4] (by omega) rfl rfl (by simp)
 rw[zJ,show((0:Nat):Int)=0 from rfl]at A B
 cases e:reqsF f (nV f) (List.replicate (nV f) false) f.eqs with
 | none =>
  obtain⟨H',L⟩:=B e
  refine⟨H',cw_of fn25 (c:=c25) rfl rfl rfl rfl ?_⟩
  simp -implicitDefEqProofs only[c25,aW,↓aP,makes,reduceLT,reduceEqDiff,reduceAdd,core_box,flat_f,zA,zC,fadr_ptr,l1,ln,hm,l3,lenV_eqs,a0',L]
  rfl
 | some T =>
 obtain⟨H1,L,x1⟩:=A T e
 obtain⟨H2,x2,L2⟩:=rmem_loop f (nV f) F.mems F.mres f.mems.length 0 H1 (by omega) x1
 rw[zJ,show((0:Nat):Int)=0 from rfl]at L2
 cases a2:f.mems.all (memOk (nV f))with
 | false =>
  rw[a2,cond_false]at L2
  refine⟨H2,cw_of fn25 (c:=c25) rfl rfl rfl rfl ?_⟩
  simp -implicitDefEqProofs only[c25,aW,↓aP,makes,reduceLT,reduceEqDiff,reduceAdd,core_box,flat_f,zA,zC,fadr_ptr,l1,ln,hm,l3,lenV_eqs,a0',L,L2]
  rfl
 | true =>
 rw[a2,cond_true]at L2
 obtain⟨H3,x3,L3⟩:=rcont_loop f (nV f) F.conts F.cres F.slopes f.conts.length 0 H2 (by omega) x2
 rw[zJ,show((0:Nat):Int)=0 from rfl]at L3
 cases a3:f.conts.all (contOk (nV f))with
 | false =>
  rw[a3,cond_false]at L3
  refine⟨H3,cw_of fn25 (c:=c25) rfl rfl rfl rfl ?_⟩
  simp -implicitDefEqProofs only[c25,aW,↓aP,makes,reduceLT,reduceEqDiff,reduceAdd,core_box,flat_f,zA,zC,fadr_ptr,l1,ln,hm,l3,lenV_eqs,a0',L,L2,L3]
  rfl
 | true =>
 rw[a3,cond_true]at L3
 have L4:=rcross_loop f (nV f) F.cross F.ops H3 x3 f.cross.length 0 (by omega)
 rw[zJ,show((0:Nat):Int)=0 from rfl]at L4
 cases a4:f.cross.all (crossOk f (nV f))with
 | false =>
  rw[a4,cond_false]at L4
  refine⟨H3,cw_of fn25 (c:=c25) rfl rfl rfl rfl ?_⟩
  simp -implicitDefEqProofs only[c25,aW,↓aP,makes,reduceLT,reduceEqDiff,reduceAdd,core_box,flat_f,zA,zC,fadr_ptr,l1,ln,hm,l3,lenV_eqs,a0',L,L2,L3,L4]
  rfl
 | true =>
 rw[a4,cond_true]at L4
 have hO:=within_call f.outs none (nV f) F.outs
 have hA:=within_call f.again none (nV f) F.again
 have go:=rg_o x3
 have ga:=rg_a x3
 refine⟨H3,cw_of fn25 (c:=c25) rfl rfl rfl rfl ?_⟩
 cases a5:within f.outs (nV f)with
 | false =>
  rw[a5]at hO
  simp -implicitDefEqProofs only[c25,aW,↓aP,makes,reduceLT,reduceEqDiff,reduceAdd,core_box,flat_f,zA,zC,fadr_ptr,l1,ln,hm,l3,lenV_eqs,a0',L,L2,L3,L4,go,hO]
  rfl
 | true =>
  rw[a5]at hO
  simp -implicitDefEqProofs only[c25,aW,↓aP,makes,reduceLT,reduceEqDiff,reduceAdd,core_box,flat_f,zA,zC,fadr_ptr,l1,ln,hm,l3,lenV_eqs,a0',L,L2,L3,L4,go,hO,ga,hA]
  rfl
theorem rgood_call(f:FlatV)(F:FitsF f)(H:List AO)(id:Nat):callV cw mds 25 [flatA f] H id=some (.val (litB (goodR f)) none):=by
 obtain⟨H',h⟩:=rgood_tells f F
 exact callV_pureA rfl rfl h rfl
end
section
theorem eq_right(f:FlatV)(hm:f.mems.all (memOk (nV f))=true)(hc:f.conts.all (contOk (nV f))=true)(q:Eqn):eqOk f q=rightOk f q:=by
 have m:(inN f.mems.length q.k=true)→within (resM f q.k) f.names.length=true:=by
  intro h
  simp only[inN,zL,decide_eq_true_eq]at h
  have hlt:q.k.toNat<f.mems.length:=by omega
  rw[yD]at hm
  have:=hm _ (zV hlt)
  simp only[memOk,zL]at this
  rw[show resM f q.k=f.mems[q.k.toNat].resets by simp[resM,zE hlt]]
  exact this.2
 have k:(inN f.conts.length q.k=true)→within (resK f q.k) f.names.length=true:=by
  intro h
  simp only[inN,zL,decide_eq_true_eq]at h
  have hlt:q.k.toNat<f.conts.length:=by omega
  rw[yD]at hc
  have:=hc _ (zV hlt)
  simp only[contOk,zL]at this
  rw[show resK f q.k=f.conts[q.k.toNat].resets by simp[resK,zE hlt]]
  exact this.1.2
 have e1:(len0 q&&inN f.mems.length q.k&&within (resM f q.k) f.names.length)=(len0 q&&inN f.mems.length q.k):=by
  cases h:inN f.mems.length q.k with
  | false=>simp
  | true=>rw[m h,xY]
 have e2:(len0 q&&inN f.conts.length q.k&&within (resK f q.k) f.names.length)=(len0 q&&inN f.conts.length q.k):=by
  cases h:inN f.conts.length q.k with
  | false=>simp
  | true=>rw[k h,xY]
 unfold eqOk rightOk
 rw[e1,e2]
theorem eqs_req(f:FlatV)(n:Nat)(h:∀q,eqOk f q=rightOk f q):∀(l:List Eqn)(T:List Bool),eqsF f n T l=reqsF f n T l
 | [],T=>rfl
 | q::l,T=>by
  rw[eqsF,reqsF,show stepOk f n T q=rstepOk f n T q by unfold stepOk rstepOk;rw[h q],eqs_req f n h l]
theorem eqs_count(f:FlatV)(n:Nat):∀(l:List Eqn)(T T':List Bool),T.length=n→eqsF f n T l=some T'→T'.count false+l.length=T.count false
 | [],T,T',hT,h=>by simp only[eqsF,sI]at h;subst h;simp
 | q::l,T,T',hT,h=>by
  rw[eqsF]at h
  cases hs:stepOk f n T q with
  | false=>rw[hs]at h;cases h
  | true =>
   rw[hs,cond_true]at h
   have ih:=eqs_count f n l _ T' (by simp[hT]) h
   simp only[stepOk,inN,zL,decide_eq_true_eq,yY]at hs
   obtain⟨⟨⟨⟨⟨v0,v1⟩,v2⟩,_⟩,_⟩,_⟩:=hs
   have hlt:q.var.toNat<T.length:=by omega
   have hg:T[q.var.toNat]?=some false:=by
    rw[zF,zE hlt]at v2
    rw[zE hlt]
    simpa using v2
   have:=count_set hg
   rw[zC]
   omega
theorem good_eq(f:FlatV):goodOk f=goodR f:=by
 unfold goodOk goodR
 cases hm:f.mems.all (memOk (nV f))with
 | false=>simp
 | true =>
 cases hc:f.conts.all (contOk (nV f))with
 | false=>simp
 | true =>
 cases he:((f.eqs.length:Int)==(nV f:Int))with
 | false=>simp
 | true =>
 have hl:f.eqs.length=nV f:=by have:=eq_of_beq he;omega
 have:eqsOk f (nV f)=(reqsF f (nV f) (List.replicate (nV f) false) f.eqs).isSome:=by
  unfold eqsOk
  rw[←eqs_req f (nV f) (eq_right f hm hc)]
  cases e:eqsF f (nV f) (List.replicate (nV f) false) f.eqs with
  | none=>rfl
  | some T =>
   have c:=eqs_count f (nV f) f.eqs _ T (by simp) e
   rw[List.count_replicate_self]at c
   have c0:T.count false=0:=by omega
   rw[List.count_eq_zero]at c0
   have:(T.any fun b=>false==b)=false:=by
    rw[vP]
    intro b hb
    cases b with
    | false=>exact absurd hb c0
    | true=>decide
   simp only[this]
   rfl
 rw[this]
 cases (reqsF f (nV f) (List.replicate (nV f) false) f.eqs).isSome<;>cases f.cross.all (crossOk f (nV f))<;>simp
end
section
theorem list_sh{α:Type}(g:α→List AV):∀(xs:List (List AV)),(∀x∈xs,∃y,x=g y)→∃ys:List α,xs=ys.map g
 | [],_=>⟨[],rfl⟩
 | x::xs,h=>by
  obtain⟨y,e⟩:=h x (zM ..)
  obtain⟨ys,es⟩:=list_sh g xs fun z hz=>h z (zI _ hz)
  exact⟨y::ys,by rw[e,es];rfl⟩
theorem sl_sh{α:Type} {τ:Ty}(g:α→List AV)(h:∀x,τ.Sh x→∃y,x=g y){zs:List AV}(hs:(Ty.sl τ).Sh zs):∃ys:List α,zs=[.sl τ.n (ys.map g) none]:=by
 obtain⟨xs,e,hx⟩:=hs
 obtain⟨ys,es⟩:=list_sh g xs fun x hm=>h x (hx x hm)
 exact⟨ys,by rw[e,es]⟩
theorem int_sh{k:IntKind}{x:List AV}(h:(Ty.int k).Sh x):∃n:Int,x=[litI k n]:=by
 obtain⟨n,e,_⟩:=h;exact⟨n,e⟩
theorem str_sh{x:List AV}(h:Ty.str.Sh x):∃s:ByteArray,x=[litS s]:=by
 obtain⟨n,e,_⟩:=h;exact⟨n,e⟩
theorem bool_sh{x:List AV}(h:Ty.bool.Sh x):∃b:Bool,x=[litB b]:=h
def tI:Ty:=.int .i64
def tLimbs:Ty:=.sl (.int .u32)
def tLit:Ty:=.cons tI (.cons (.cons (.cons .bool (.cons tLimbs .unit)) (.cons tLimbs .unit)) (.cons .str .unit))
def tEqn:Ty:=.cons tI (.cons .str (.cons (.sl tI) (.cons tI (.cons tLit (.cons tI .unit)))))
def tMem:Ty:=.cons tLit (.cons tI (.cons tI (.cons (.sl tI) .unit)))
def tSlope:Ty:=.cons tI (.cons tI .unit)
def tCont:Ty:=.cons tLit (.cons tI (.cons tI (.cons (.sl tI) (.cons (.sl tSlope) .unit))))
def tCOp:Ty:=.cons .str (.cons (.sl tI) .unit)
def tCross:Ty:=.cons tI (.cons (.sl tCOp) .unit)
def tFlat:Ty:=.cons (.sl .str) (.cons (.sl .str) (.cons (.sl tI) (.cons (.sl tEqn) (.cons (.sl tMem) (.cons (.sl tCont) (.cons (.sl tCross) (.cons (.sl tI) .unit)))))))
theorem ints_sh{x:List AV}(h:(Ty.sl tI).Sh x):∃r:List Int,x=[rowC r none]:=by
 obtain⟨r,e⟩:=sl_sh (fun i:Int=>[litI .i64 i]) (fun x hx=>int_sh hx) h
 exact⟨r,e⟩
theorem limbs_sh{x:List AV}(h:tLimbs.Sh x):∃r:List Int,x=[limbs r]:=by
 obtain⟨r,e⟩:=sl_sh (fun i:Int=>[litI .u32 i]) (fun x hx=>int_sh hx) h
 exact⟨r,e⟩
theorem strs_sh{x:List AV}(h:(Ty.sl .str).Sh x):∃r:List ByteArray,x=[strs r]:=by
 obtain⟨r,e⟩:=sl_sh (fun i:ByteArray=>[litS i]) (fun x hx=>str_sh hx) h
 exact⟨r,e⟩
theorem lit_sh{x:List AV}(h:tLit.Sh x):∃l:LitV,x=l.cs []:=by
 obtain⟨x1,y1,e1,h1,x2,y2,e2,⟨x3,y3,e3,⟨x4,y4,e4,h4,x5,y5,e5,h5,e6⟩,x7,y7,e7,h7,e8⟩,x9,y9,e9,h9,e10⟩:=h
 obtain⟨kind,rfl⟩:=int_sh h1
 obtain⟨neg,rfl⟩:=bool_sh h4
 obtain⟨mag,rfl⟩:=limbs_sh h5
 obtain⟨den,rfl⟩:=limbs_sh h7
 obtain⟨name,rfl⟩:=str_sh h9
 subst e6 e8 e10 e5 e7 e9 e4 e3 e2 e1
 exact⟨⟨kind,neg,mag,den,name⟩,rfl⟩
theorem eqn_sh{x:List AV}(h:tEqn.Sh x):∃q:Eqn,x=q.cs:=by
 obtain⟨x1,y1,e1,h1,x2,y2,e2,h2,x3,y3,e3,h3,x4,y4,e4,h4,x5,y5,e5,h5,x6,y6,e6,h6,e7⟩:=h
 obtain⟨var,rfl⟩:=int_sh h1
 obtain⟨op,rfl⟩:=str_sh h2
 obtain⟨args,rfl⟩:=ints_sh h3
 obtain⟨k,rfl⟩:=int_sh h4
 obtain⟨lit,rfl⟩:=lit_sh h5
 obtain⟨guard,rfl⟩:=int_sh h6
 subst e7 e6 e5 e4 e3 e2 e1
 exact⟨⟨var,op,args,k,lit,guard⟩,rfl⟩
theorem mem_sh{x:List AV}(h:tMem.Sh x):∃q:MemV,x=q.cs:=by
 obtain⟨x1,y1,e1,h1,x2,y2,e2,h2,x3,y3,e3,h3,x4,y4,e4,h4,e5⟩:=h
 obtain⟨init,rfl⟩:=lit_sh h1
 obtain⟨next,rfl⟩:=int_sh h2
 obtain⟨guard,rfl⟩:=int_sh h3
 obtain⟨res,rfl⟩:=ints_sh h4
 subst e5 e4 e3 e2 e1
 exact⟨⟨init,next,guard,res⟩,rfl⟩
theorem slope_sh{x:List AV}(h:tSlope.Sh x):∃q:SlopeV,x=q.cs:=by
 obtain⟨x1,y1,e1,h1,x2,y2,e2,h2,e3⟩:=h
 obtain⟨guard,rfl⟩:=int_sh h1
 obtain⟨var,rfl⟩:=int_sh h2
 subst e3 e2 e1
 exact⟨⟨guard,var⟩,rfl⟩
theorem cont_sh{x:List AV}(h:tCont.Sh x):∃q:ContV,x=q.cs:=by
 obtain⟨x1,y1,e1,h1,x2,y2,e2,h2,x3,y3,e3,h3,x4,y4,e4,h4,x5,y5,e5,h5,e6⟩:=h
 obtain⟨init,rfl⟩:=lit_sh h1
 obtain⟨var,rfl⟩:=int_sh h2
 obtain⟨guard,rfl⟩:=int_sh h3
 obtain⟨res,rfl⟩:=ints_sh h4
 obtain⟨slopes,rfl⟩:=sl_sh SlopeV.cs (fun x hx=>slope_sh hx) h5
 subst e6 e5 e4 e3 e2 e1
 exact⟨⟨init,var,guard,res,slopes⟩,rfl⟩
theorem cop_sh{x:List AV}(h:tCOp.Sh x):∃q:COpV,x=q.cs:=by
 obtain⟨x1,y1,e1,h1,x2,y2,e2,h2,e3⟩:=h
 obtain⟨op,rfl⟩:=str_sh h1
 obtain⟨args,rfl⟩:=ints_sh h2
 subst e3 e2 e1
 exact⟨⟨op,args⟩,rfl⟩
theorem cross_sh{x:List AV}(h:tCross.Sh x):∃q:CrossV,x=q.cs:=by
 obtain⟨x1,y1,e1,h1,x2,y2,e2,h2,e3⟩:=h
 obtain⟨guard,rfl⟩:=int_sh h1
 obtain⟨ops,rfl⟩:=sl_sh COpV.cs (fun x hx=>cop_sh hx) h2
 subst e3 e2 e1
 exact⟨⟨guard,ops⟩,rfl⟩
theorem flat_sh{x:List AV}(h:tFlat.Sh x):∃f:FlatV,x=f.cs:=by
 obtain⟨x1,y1,e1,h1,x2,y2,e2,h2,x3,y3,e3,h3,x4,y4,e4,h4,x5,y5,e5,h5,x6,y6,e6,h6,x7,y7,e7,h7,x8,y8,e8,h8,e9⟩:=h
 obtain⟨ins,rfl⟩:=strs_sh h1
 obtain⟨names,rfl⟩:=strs_sh h2
 obtain⟨outs,rfl⟩:=ints_sh h3
 obtain⟨eqs,rfl⟩:=sl_sh Eqn.cs (fun x hx=>eqn_sh hx) h4
 obtain⟨mems,rfl⟩:=sl_sh MemV.cs (fun x hx=>mem_sh hx) h5
 obtain⟨conts,rfl⟩:=sl_sh ContV.cs (fun x hx=>cont_sh hx) h6
 obtain⟨cross,rfl⟩:=sl_sh CrossV.cs (fun x hx=>cross_sh hx) h7
 obtain⟨again,rfl⟩:=ints_sh h8
 subst e9 e8 e7 e6 e5 e4 e3 e2 e1
 exact⟨⟨ins,names,outs,eqs,mems,conts,cross,again⟩,rfl⟩
end
section
def longL(l:LitV):Bool:=decide (IntKind.wrap .i64 ((l.mag.length:Int)+l.den.length) > 4)
theorem lenS_lit(s:ByteArray):lenS (litS s)=some (litI .i64 s.size):=rfl
theorem long_tells(l:LitV):cw 42 [.agg [litB l.neg,limbs l.mag,limbs l.den]] []=some (.ret (litB (longL l)),[.row [litB l.neg,limbs l.mag,limbs l.den] 50]):=by
 refine cw_of fn42 (c:=c42) rfl rfl rfl rfl ?_
 have hb:∀id t,boxV id 3 (.agg [litB l.neg,limbs l.mag,limbs l.den]) t=some (.val (.ptr id 0) (some (.row [litB l.neg,limbs l.mag,limbs l.den] t))):=fun _ _=>boxV_agg rfl rfl
 have l1:Ai.load [.row [litB l.neg,limbs l.mag,limbs l.den] 50] none (.ptr 0 1)=some (limbs l.mag):=rfl
 have l2:Ai.load [.row [litB l.neg,limbs l.mag,limbs l.den] 50] none (.ptr 0 2)=some (limbs l.den):=rfl
 unfold longL
 simp -implicitDefEqProofs only[c42,aW,↓aP,makes,reduceLT,reduceEqDiff,reduceAdd,core_box,hb,zA,fadr_ptr,zK,l1,l2,lenV_limbs]
 rfl
theorem long_call(l:LitV)(H:List AO)(id:Nat):callV cw mds 42 [.agg [litB l.neg,limbs l.mag,limbs l.den]] H id=some (.val (litB (longL l)) none):=callV_pureA rfl rfl (long_tells l) rfl
theorem eq_h1(q:Eqn):(List.drop 1 q.cs).head?=some (litS q.op):=rfl
theorem eq_h2(q:Eqn):(List.drop 2 q.cs).head?=some (rowC q.args none):=rfl
theorem eq_hl(q:Eqn)(H:List AO):Ai.load H (some 3) (.ip (List.drop 1 (List.drop 4 q.cs)))=some (.agg [litB q.lit.neg,limbs q.lit.mag,limbs q.lit.den]):=rfl
theorem eq_hn(q:Eqn):(List.drop 4 (List.drop 4 q.cs)).head?=some (litS q.lit.name):=rfl
def eqnBig(q:Eqn):Bool:=decide ((q.args.length:Int) > 30)||decide ((q.op.size:Int) > 20)||longL q.lit||decide ((q.lit.name.size:Int) > 100)
theorem sm0_round(f:FlatV)(i:Nat)(q:Eqn)(hi:f.eqs[i]?=some q)(hlt:(i:Int)<f.eqs.length)(hn:i<4611686018427387904)(H:List AO)(hH:H[0]?=some (.row f.cs 29)) :
  codeW cw (lookM mtl) mds c24l0 [(1,.ptr 0 0),(3,litI .i64 i)] H =
   some (bif eqnBig q then(.ret,[(2,litB false)],H)else(.normal,[(1,.ptr 0 0),(3,litI .i64 ((i+1:Nat):Int))],H)):=by
 have ce:=rg_e hH
 have hL:=long_call q.lit
 unfold eqnBig
 cases a1:decide ((q.args.length:Int) > 30)with
 | true =>
  simp -implicitDefEqProofs only[c24l0,aW,↓aP,makes,reduceLT,reduceEqDiff,reduceAdd,iadr_eqs,lenV_eqs,hi,hlt,ce,fadr_ptr,fadr_ip,eq_h1,eq_h2,lenV_row,a1]
 | false =>
 cases a2:decide ((q.op.size:Int) > 20)with
 | true =>
  simp -implicitDefEqProofs only[c24l0,aW,↓aP,makes,reduceLT,reduceEqDiff,reduceAdd,iadr_eqs,lenV_eqs,hi,hlt,ce,fadr_ptr,fadr_ip,eq_h1,eq_h2,lenV_row,a1,lenS_lit,a2]
 | false =>
 cases a3:longL q.lit with
 | true =>
  rw[a3]at hL
  simp -implicitDefEqProofs only[c24l0,aW,↓aP,makes,reduceLT,reduceEqDiff,reduceAdd,iadr_eqs,lenV_eqs,hi,hlt,ce,fadr_ptr,fadr_ip,eq_h1,eq_h2,lenV_row,a1,lenS_lit,a2,eq_hl,hL]
 | false =>
 rw[a3]at hL
 cases a4:decide ((q.lit.name.size:Int) > 100)with
 | true =>
  simp -implicitDefEqProofs only[c24l0,aW,↓aP,makes,reduceLT,reduceEqDiff,reduceAdd,iadr_eqs,lenV_eqs,hi,hlt,ce,fadr_ptr,fadr_ip,eq_h1,eq_h2,lenV_row,a1,lenS_lit,a2,eq_hl,hL,eq_hn,a4]
 | false =>
  simp -implicitDefEqProofs only[c24l0,aW,↓aP,makes,reduceLT,reduceEqDiff,reduceAdd,iadr_eqs,lenV_eqs,hi,hlt,ce,fadr_ptr,fadr_ip,eq_h1,eq_h2,lenV_row,a1,lenS_lit,a2,eq_hl,hL,eq_hn,a4,wrap1 hn]
end
section
theorem sm0_loop(f:FlatV)(hm:f.eqs.length≤1000000)(H:List AO)(hH:H[0]?=some (.row f.cs 29)):∀(m i:Nat),m+i=f.eqs.length →
  loopW (codeW cw (lookM mtl) mds c24l0) [1,3] [(1,.ptr 0 0),(3,litI .i64 i)] H =
   some (bif(f.eqs.drop i).any eqnBig then(.ret,[(2,litB false)],H)else(EX.exit 0,[(1,.ptr 0 0),(3,litI .i64 f.eqs.length),(58,litB false)],H))
 | 0,i,h=>by
  have hn:i=f.eqs.length:=by omega
  subst hn
  rw[yB,List.any_nil,cond_false]
  refine loopW_out ?_ (by simp)
  simp -implicitDefEqProofs only[c24l0,aW,↓aP,makes,reduceLT,reduceEqDiff,reduceAdd,fadr_ptr,rg_e hH,lenV_eqs,zR]
 | m+1,i,h=>by
  have hn:i<f.eqs.length:=by omega
  have hg:f.eqs[i]?=some f.eqs[i]:=zE hn
  have R:=sm0_round f i f.eqs[i] hg (by omega) (by omega) H hH
  rw[zS hn,vT]
  cases ho:eqnBig f.eqs[i]with
  | false =>
   rw[ho,cond_false]at R
   rw[yP]
   refine loopW_round ?_ (sm0_loop f hm H hH m (i+1) (by omega))
   simp -implicitDefEqProofs only[aW,↓aP,makes,reduceLT,reduceEqDiff,reduceAdd,R]
  | true =>
   rw[ho,cond_true]at R
   rw[xI,cond_true]
   refine loopW_out ?_ (by simp)
   simp -implicitDefEqProofs only[aW,↓aP,makes,reduceLT,reduceEqDiff,reduceAdd,R]
theorem me_hl(q:MemV)(H:List AO):Ai.load H (some 3) (.ip (List.drop 1 (List.drop 0 q.cs)))=some (.agg [litB q.init.neg,limbs q.init.mag,limbs q.init.den]):=rfl
def memBig(q:MemV):Bool:=decide ((q.resets.length:Int) > 20)||longL q.init
theorem sm1_round(f:FlatV)(i:Nat)(q:MemV)(hi:f.mems[i]?=some q)(hlt:(i:Int)<f.mems.length)(hn:i<4611686018427387904)(H:List AO)(hH:H[0]?=some (.row f.cs 29)) :
  codeW cw (lookM mtl) mds c24l1 [(1,.ptr 0 0),(4,litI .i64 i)] H =
   some (bif memBig q then(.ret,[(2,litB false)],H)else(.normal,[(1,.ptr 0 0),(4,litI .i64 ((i+1:Nat):Int))],H)):=by
 have ce:=rg_m hH
 have hL:=long_call q.init
 unfold memBig
 cases a1:decide ((q.resets.length:Int) > 20)with
 | true =>
  simp -implicitDefEqProofs only[c24l1,aW,↓aP,makes,reduceLT,reduceEqDiff,reduceAdd,iadr_mems,lenV_mems,hi,hlt,ce,fadr_ptr,fadr_ip,mem_h7,lenV_row,a1]
 | false =>
 cases a3:longL q.init with
 | true =>
  rw[a3]at hL
  simp -implicitDefEqProofs only[c24l1,aW,↓aP,makes,reduceLT,reduceEqDiff,reduceAdd,iadr_mems,lenV_mems,hi,hlt,ce,fadr_ptr,fadr_ip,mem_h7,lenV_row,a1,me_hl,hL]
 | false =>
  rw[a3]at hL
  simp -implicitDefEqProofs only[c24l1,aW,↓aP,makes,reduceLT,reduceEqDiff,reduceAdd,iadr_mems,lenV_mems,hi,hlt,ce,fadr_ptr,fadr_ip,mem_h7,lenV_row,a1,me_hl,hL,wrap1 hn]
theorem sm1_loop(f:FlatV)(hm:f.mems.length≤1000000)(H:List AO)(hH:H[0]?=some (.row f.cs 29)):∀(m i:Nat),m+i=f.mems.length →
  loopW (codeW cw (lookM mtl) mds c24l1) [1,4] [(1,.ptr 0 0),(4,litI .i64 i)] H =
   some (bif(f.mems.drop i).any memBig then(.ret,[(2,litB false)],H)else(EX.exit 2,[(1,.ptr 0 0),(4,litI .i64 f.mems.length),(104,litB false)],H))
 | 0,i,h=>by
  have hn:i=f.mems.length:=by omega
  subst hn
  rw[yB,List.any_nil,cond_false]
  refine loopW_out ?_ (by simp)
  simp -implicitDefEqProofs only[c24l1,aW,↓aP,makes,reduceLT,reduceEqDiff,reduceAdd,fadr_ptr,rg_m hH,lenV_mems,zR]
 | m+1,i,h=>by
  have hn:i<f.mems.length:=by omega
  have hg:f.mems[i]?=some f.mems[i]:=zE hn
  have R:=sm1_round f i f.mems[i] hg (by omega) (by omega) H hH
  rw[zS hn,vT]
  cases ho:memBig f.mems[i]with
  | false =>
   rw[ho,cond_false]at R
   rw[yP]
   refine loopW_round ?_ (sm1_loop f hm H hH m (i+1) (by omega))
   simp -implicitDefEqProofs only[aW,↓aP,makes,reduceLT,reduceEqDiff,reduceAdd,R]
  | true =>
   rw[ho,cond_true]at R
   rw[xI,cond_true]
   refine loopW_out ?_ (by simp)
   simp -implicitDefEqProofs only[aW,↓aP,makes,reduceLT,reduceEqDiff,reduceAdd,R]
end
end Go.Proofs.Ytcgbdndkfonphaa.Ai
