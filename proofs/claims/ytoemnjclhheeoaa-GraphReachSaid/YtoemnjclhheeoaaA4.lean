/- The abstract interpreter: how loaded code is made into its code. No condition. -/
import Derived.Test.YtoemnjclhheeoaaA3
namespace Go.Ai
set_option linter.unusedVariables false

section
variable (P : Program)

def tsize (t : TypeId) : Option Nat := (P.info? t).map (·.size)
def isAggT (t : TypeId) : Option Bool := (P.underlying t).map fun | .struct _ | .array _ _ => true | _ => false
/-- none: no such type; some none: one cell's value; some (some n): a value of n cells. -/
def nOf (t : TypeId) : Option (Option Nat) := (isAggT P t).bind fun b => (tsize P t).bind fun n => some (if b then some n else none)
def zeros (t : TypeId) : Option (List AV) := (P.info? t).bind fun i => i.zero.bind fun z =>
  if (z.cells.toList.map (ofV 4)).all cellA && z.cells.size == i.size then some (z.cells.toList.map (ofV 4)) else none
def zeroV (t : TypeId) : Option AV := (P.info? t).bind fun i => i.zero.bind fun z => some (ofV 4 z)

def cx : Operand → X
  | .tmp t => .s t
  | .const v => .k (ofV 8 v)
  | .global g => .k (.lit (.pointer (some ⟨g, 0, none⟩)))
  | .func f => .k (.fn (.func f) [] [])

def compCall (c : Call) : Option I :=
  match c.callee with
  | .value f => some (.call (cx f) (c.args.toList.map cx))
  | .invoke r name => some (.inv (cx r) name (c.args.toList.map cx))
  | .builtin .len => match c.argTypes.toList, c.args.toList with
    | [t], [x] => match P.underlying t with
      | some .string => some (.lenS (cx x))
      | some (.slice _) => some (.len (cx x))
      | _ => none
    | _, _ => none
  | .builtin .append => match c.argTypes.toList, c.args.toList with
    | [t, u], [x, y] => match P.underlying t, P.underlying u with
      | some (.slice e), some .string => (P.info? e).bind fun i => (zeros P e).bind fun _ => if 0 < i.size ∧ 0 < i.bytes then some (.app i.size i.bytes e (cx x) (cx y)) else none
      | some (.slice e), some (.slice _) => (P.info? e).bind fun i => (zeros P e).bind fun _ => if 0 < i.size ∧ 0 < i.bytes then some (.app i.size i.bytes e (cx x) (cx y)) else none
      | _, _ => none
    | _, _ => none
  | .builtin .clear => match c.argTypes.toList, c.args.toList with
    | [t], [x] => match P.underlying t with
      | some (.slice e) => (zeros P e).bind fun z => some (.clr z.length z (cx x))
      | _ => none
    | _, _ => none
  | .builtin .max => some (.maxi (c.args.toList.map cx))
  | .builtin .min => some (.mini (c.args.toList.map cx))
  | _ => none

def compI (ow : List Nat) (o : Oper) : Option I :=
  match o.op with
  | .move x | .assign x => some (.mv (cx x))
  | .pick c a b => some (.pick (cx c) (cx a) (cx b))
  | .alloc t => (zeros P t).bind fun z => some (.alloc z t)
  | .box t x => (tsize P t).bind fun n => some (.box n (cx x) t)
  | .build t parts => (zeros P t).bind fun z => match P.underlying t with
    | some (.struct fs) => if fs.all (fun f => (tsize P f.type).isSome) then
        (parts.toList.mapM fun p => (fs[p.1]?).bind fun f => (tsize P f.type).bind fun n => some (f.offset, n, cx p.2)).bind fun ps => some (.build z ps) else none
    | some (.array _ e) => (tsize P e).bind fun n => some (.build z (parts.toList.map fun p => (p.1 * n, n, cx p.2)))
    | _ => none
  | .buildSlice t len parts => match P.underlying t with
    | some (.slice e) => (tsize P e).bind fun n => (zeros P e).bind fun z => if len * n ≤ 16777216 && 0 < n then
        some (.bslice (match o.dst with | some d => ow.contains d | none => false) n len z (parts.toList.map fun p => (p.1, cx p.2)) e) else none
    | _ => none
  | .load t a => (nOf P t).bind fun n => some (.load n (cx a))
  | .store t a x => (tsize P t).bind fun n => some (.store n (cx a) (cx x))
  | .nilCheck x => some (.nilck (cx x))
  | .binOp op xt x y _ => match P.underlying xt with
    | some (.int _) => some (.bin op (cx x) (cx y))
    | some .string => some (.bin op (cx x) (cx y))
    | some .bool => some (.binb op (cx x) (cx y))
    | _ => none
  | .unOp op _ x => some (.un op (cx x))
  | .convert src dst x => match P.underlying src, P.underlying dst with
    | some (.int _), some (.int k) => some (.conv (.int k) (cx x))
    | some .string, some .string => some (.conv .same (cx x))
    | some .string, some (.slice e) => match P.underlying e with
      | some (.int .u8) => some (.conv .toBytes (cx x))
      | _ => none
    | some (.slice e), some .string => match P.underlying e with
      | some (.int .u8) => some (.conv .ofBytes (cx x))
      | _ => none
    | _, _ => none
  | .fieldAddr s x f => match P.underlying s with
    | some (.struct fs) => (fs[f]?).bind fun fd => (tsize P fd.type).bind fun n => if n = 0 then none else some (.fadr fd.offset (cx x))
    | _ => none
  | .field s x f => match P.underlying s with
    | some (.struct fs) => (fs[f]?).bind fun fd => (nOf P fd.type).bind fun n => some (.fld fd.offset n (cx x))
    | _ => none
  | .indexAddr t x i => match P.underlying t with
    | some (.slice e) => (tsize P e).bind fun n => some (.iadr n (cx x) (cx i))
    | some (.array l e) => (tsize P e).bind fun n => some (.iadrA n l (cx x) (cx i))
    | _ => none
  | .index t x i => match P.underlying t with
    | some .string => some (.idxS (cx x) (cx i))
    | some (.array l e) => (tsize P e).bind fun n => (nOf P e).bind fun m => some (.idxA n l m (cx x) (cx i))
    | _ => none
  | .slice t x lo hi mx => match P.underlying t with
    | some .string => match mx with
      | none => some (.slS (cx x) (lo.map cx) (hi.map cx))
      | _ => none
    | some (.slice e) => (tsize P e).bind fun n => some (.sli n (cx x) (lo.map cx) (hi.map cx) (mx.map cx))
    | _ => none
  | .extract t i => some (.ext (cx t) i)
  | .call c => compCall P c
  | .makeSlice t l c => match P.underlying t with
    | some (.slice e) => (P.info? e).bind fun i => (zeros P e).bind fun z => some (.mks i.size i.bytes z e (cx l) (cx c))
    | _ => none
  | .makeInterface t x => match P.underlying t with
    | some (.interface _) => none
    | some _ => some (.mki t (cx x))
    | none => none
  | .typeAssert x _ asserted ok => match P.underlying asserted with
    | some (.interface _) => none
    | some _ => (zeroV P asserted).bind fun z => some (.tas asserted ok z (cx x))
    | none => none
  | .makeFunc fn first cap => some (.mkf fn (first.toList.map cx) (cap.toList.map cx))
  | .panic x => some (.pan (cx x))
  | _ => none

def dstOk (nt : Nat) : Option Nat → Bool
  | some d => Nat.blt d nt
  | none => true

def compO (ow : List Nat) (nt : Nat) (ops : Array Oper) (o : Oper) : Option O :=
  (compI P ow o).bind fun i =>
    if dstOk nt o.dst = true then
      match o.guard with
      | none => some ⟨o.dst, i, none⟩
      | some (j, b) => ((ops[j]?).bind (·.dst)).bind fun d => some ⟨o.dst, i, some (d, b)⟩
    else none
end

/-! ### What may be drawn in any order -/
def tmpsOf (xs : List Operand) : List Nat := xs.filterMap fun | .tmp t => some t | _ => none
/-- The slots that an operation looks at. -/
def looks (ops : Array Oper) (o : Oper) : List Nat :=
  tmpsOf o.op.operands.toList ++ (match o.guard with | some (g, _) => ((ops[g]?).bind (·.dst)).toList | none => [])
/-- What surely stands ahead of each, directly. -/
def preds (o : Oper) : List Nat := (o.after.toList.filter (Region.binds .any)).map (·.on)
/-- .. and by way of others. -/
def anc (ops : List Oper) : List (List Nat) :=
  ops.foldl (fun acc o => acc ++ [(preds o).foldl (fun l p => p :: (acc.getD p []) ++ l) []]) []

/-- Does it neither ask the heap nor make anything? -/
def isN (P : Program) : Op → Bool
  | .move _ | .assign _ | .pick .. | .build .. | .nilCheck _ | .binOp .. | .unOp .. | .fieldAddr .. | .field .. | .indexAddr .. | .index .. | .slice .. | .extract .. | .makeInterface .. | .typeAssert .. | .makeFunc .. => true
  | .call { callee := .builtin .len, .. } | .call { callee := .builtin .max, .. } | .call { callee := .builtin .min, .. } => true
  | _ => false

def selfOk (ops : Array Oper) (A : List (List Nat)) (i : Nat) (o : Oper) : Bool :=
  ((preds o).all fun p => decide (p < i)) &&
  (ops.toList.zipIdx.all fun p => p.2 == i || match p.1.dst with
    | none => true
    | some d => !(o.dst == some d) && (!(looks ops o).contains d || (decide (p.2 < i) && (A.getD i []).contains p.2) || (decide (i < p.2) && (A.getD p.2 []).contains i)))

/-- The first h may be drawn in whatever order; each of the others comes behind all ahead of it, unless one of the two asks no heap. -/
def drawOk (P : Program) (ops : Array Oper) (h : Nat) : Bool :=
  let A := anc ops.toList
  Nat.ble h ops.size && (ops.toList.zipIdx.all fun p => selfOk ops A p.2 p.1) &&
  (ops.toList.zipIdx.all fun p => decide (p.2 < h) || isN P p.1.op || ops.toList.zipIdx.all fun q => decide (p.2 ≤ q.2) || isN P q.1.op || (A.getD p.2 []).contains q.2)

/-- A head that serves, if one does. -/
def headN (P : Program) (ops : Array Oper) : Nat :=
  let A := anc ops.toList
  ops.toList.zipIdx.foldl (fun n p => if isN P p.1.op || ops.toList.zipIdx.all (fun q => decide (p.2 ≤ q.2) || isN P q.1.op || (A.getD p.2 []).contains q.2) then n else p.2 + 1) 0

structure Ann where
  keepR : Nat → List Nat
  keepL : Nat → List Nat
  ow : List Nat
  head : Nat → Nat

def comp (P : Program) (A : Ann) (nt : Nat) : Nat → Code → Option C
  | _, .skip => some .skip
  | _, .label _ => none
  | _, .region id ops draw =>
    (ops.toList.mapM (compO P A.ow nt ops)).bind fun l =>
      match draw with
      | false => some (.reg l (A.keepR id))
      | true => if drawOk P ops (A.head id) then some (.draw (l.take (A.head id)) (l.drop (A.head id)) (A.keepR id)) else none
  | b, .seq x y => (comp P A nt b x).bind fun x => (comp P A nt b y).bind fun y => some (.seq x y)
  | b, .cond c x y => (comp P A nt b x).bind fun x => (comp P A nt b y).bind fun y => some (.cond (cx c) x y)
  | _, .block id c => (comp P A nt id c).bind fun c => some (.block id c)
  | b, .loop c => (comp P A nt b c).bind fun c => some (.loop (A.keepL b) c)
  | _, .exit id => some (.exit id)
  | _, .ret => some .ret
  | _, _ => none

def compRV (P : Program) : ResultVar → Option RV
  | .tmp t => some (.t t)
  | .cell _ _ => none

def compF (P : Program) (A : Ann) (fn : Func) : Option F :=
  fn.body.bind fun c => (comp P A fn.ntmps 0 c).bind fun c => (fn.results.toList.mapM (compRV P)).bind fun rs =>
    if fn.params.size + fn.nfree ≤ fn.ntmps ∧ (fn.name == "runtime.NumGoroutine") = false then some ⟨fn.params.size + fn.nfree, fn.ntmps, rs, c⟩ else none

end Go.Ai
