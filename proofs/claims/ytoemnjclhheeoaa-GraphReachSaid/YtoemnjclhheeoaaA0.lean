/- The abstract interpreter: values, heap, code, evaluation. No condition. -/
import Derived.Orders
import Derived.Laws.Sem
import Derived.Tactics
namespace Go.Ai
set_option linter.unusedVariables false

/-- Abstract values. 'sl': a slice whose memory is written no more, told whole (an element is the list of its cells); 'cap': its capacity, where known.
'own': a slice of object r, from cell 'off', n elements of e cells. 'ptr': a pointer into object r. 'ip': a pointer to cells that are written no more. -/
inductive AV where
  | any
  | lit (v : Value)
  | agg (xs : List AV)
  | tup (xs : List AV)
  | iface (t : TypeId) (x : AV)
  | fn (f : Fn) (first cap : List AV)
  | ptr (r off : Nat)
  | ip (xs : List AV)
  | own (r off n e : Nat) (cap : Option Nat)
  | sl (e : Nat) (xs : List (List AV)) (cap : Option Nat)
  deriving Inhabited

inductive AO where
  | dead
  | row (cells : List AV) (t : TypeId)
  deriving Inhabited

abbrev Fr := List (Nat × AV)

def get : Fr → Nat → AV
  | [], _ => .any
  | (k, a) :: r, t => bif k == t then a else get r t

def put : Fr → Nat → AV → Fr
  | [], t, a => [(t, a)]
  | (k, b) :: r, t, a => bif Nat.blt t k then (t, a) :: (k, b) :: r else bif k == t then (t, a) :: r else (k, b) :: put r t a

/-- Only what is on the list is kept. -/
def keep (l : List Nat) (fr : Fr) : Fr := fr.filter fun p => l.contains p.1

def ofV : Nat → Value → AV
  | 0, _ => .any
  | k + 1, .agg cs => .agg (cs.toList.map (ofV k))
  | k + 1, .tuple cs => .tup (cs.toList.map (ofV k))
  | k + 1, .iface t v => .iface t (ofV k v)
  | k + 1, .func f a b => .fn f (a.toList.map (ofV k)) (b.toList.map (ofV k))
  | _ + 1, .slice none 0 0 => .sl 0 [] (some 0)
  | _ + 1, v => .lit v

inductive X where
  | s (t : Nat)
  | k (a : AV)
  deriving Inhabited

def ev (fr : Fr) : X → AV
  | .s t => get fr t
  | .k a => a

/-- A value's cells. -/
def cellsOf : AV → List AV
  | .agg xs => xs
  | a => [a]

inductive CK where
  | int (k : IntKind)
  | same
  | toBytes
  | ofBytes
  deriving Inhabited

/-- What becomes of a call. 'pure': its arguments are handed on as they stand, told whole; 'ref': with the heap; 'own': as 'pure', but a slice that the call has made stays an object. -/
inductive Md where
  | pure | ref | own
  deriving Inhabited

inductive I where
  | mv (x : X)
  | pick (c a b : X)
  | alloc (zero : List AV) (t : TypeId)
  | box (n : Nat) (x : X) (t : TypeId)
  | build (zero : List AV) (parts : List (Nat × Nat × X))
  | bslice (own : Bool) (e n : Nat) (zero : List AV) (parts : List (Nat × X)) (t : TypeId)
  | load (n : Option Nat) (a : X)
  | store (n : Nat) (a x : X)
  | clr (e : Nat) (z : List AV) (x : X)
  | nilck (x : X)
  | bin (op : BinOp) (x y : X)
  | binb (op : BinOp) (x y : X)
  | un (op : UnOp) (x : X)
  | conv (c : CK) (x : X)
  | fadr (off : Nat) (x : X)
  | fld (off : Nat) (n : Option Nat) (x : X)
  | iadr (e : Nat) (x i : X)
  | iadrA (e n : Nat) (x i : X)
  | idxS (x i : X)
  | idxA (e len : Nat) (n : Option Nat) (x i : X)
  | slS (x : X) (lo hi : Option X)
  | sli (e : Nat) (x : X) (lo hi mx : Option X)
  | ext (x : X) (i : Nat)
  | len (x : X)
  | lenS (x : X)
  | app (e bytes : Nat) (t : TypeId) (x y : X)
  | mks (e bytes : Nat) (zero : List AV) (t : TypeId) (l c : X)
  | maxi (xs : List X)
  | mini (xs : List X)
  | mki (t : TypeId) (x : X)
  | tas (t : TypeId) (ok : Bool) (zero : AV) (x : X)
  | mkf (f : Fn) (first cap : List X)
  | call (f : X) (args : List X)
  | inv (recv : X) (name : String) (args : List X)
  | pan (x : X)
  | bad
  deriving Inhabited

/-- An operation: where its result goes, what it does, its guard: which slot must be which truth. -/
structure O where
  dst : Option Nat
  i : I
  guard : Option (Nat × Bool) := none
  deriving Inhabited

inductive C where
  | skip
  | reg (ops : List O) (keep : List Nat)
  | draw (ops tail : List O) (keep : List Nat)
  | seq (a b : C)
  | cond (x : X) (a b : C)
  | block (id : Nat) (c : C)
  | loop (keep : List Nat) (c : C)
  | exit (id : Nat)
  | ret
  | bad
  deriving Inhabited

inductive RV where
  | t (t : Nat)
  | c (t : Nat) (n : Option Nat)
  deriving Inhabited

structure F where
  np : Nat
  nt : Nat
  res : List RV
  body : C
  deriving Inhabited

inductive R where
  | ret (a : AV)
  | pan (a : AV)
  deriving Inhabited

inductive EX where
  | normal
  | exit (id : Nat)
  | ret
  | pan (a : AV)
  deriving Inhabited

inductive Out where
  | val (a : AV) (o : Option AO)
  | wr (a : AV) (H : List AO)
  | fz (a : AV) (ids : List Nat)
  | pan (a : AV) (H : List AO)
  deriving Inhabited

/-! ### Freezing -/
def mapL (f : AV → Option (AV × List Nat)) : List AV → Option (List AV × List Nat)
  | [] => some ([], [])
  | x :: r => (f x).bind fun p => (mapL f r).bind fun q => some (p.1 :: q.1, p.2 ++ q.2)

def mapR (f : AV → Option (AV × List Nat)) (e : Nat) : Nat → List AV → Option (List (List AV) × List Nat)
  | 0, _ => some ([], [])
  | n + 1, cs => (mapL f (cs.take e)).bind fun p => (mapR f e n (cs.drop e)).bind fun q => some (p.1 :: q.1, p.2 ++ q.2)

/-- A value told whole, and the objects that this reads. -/
def frz (H : List AO) : Nat → AV → Option (AV × List Nat)
  | 0, _ => none
  | k + 1, a => match a with
    | .any => some (.any, [])
    | .lit v => some (.lit v, [])
    | .agg xs => (mapL (frz H k) xs).bind fun p => some (.agg p.1, p.2)
    | .tup xs => (mapL (frz H k) xs).bind fun p => some (.tup p.1, p.2)
    | .iface t x => (frz H k x).bind fun p => some (.iface t p.1, p.2)
    | .fn f a b => (mapL (frz H k) a).bind fun p => (mapL (frz H k) b).bind fun q => some (.fn f p.1 q.1, p.2 ++ q.2)
    | .ptr _ _ => none
    | .ip xs => some (.ip xs, [])
    | .own r off n e cap => match H[r]? with
      | some (.row cells _) => bif Nat.ble (off + n * e) cells.length then (mapR (frz H k) e n (cells.drop off)).bind fun p => some (.sl e p.1 cap, r :: p.2) else none
      | _ => none
    | .sl e xs cap => some (.sl e xs cap, [])

def frzF : Nat := 16

/-- Values that lead to no memory. -/
def flat : Nat → AV → Bool
  | 0, _ => false
  | k + 1, a => match a with
    | .any => true
    | .lit _ => true
    | .agg xs => xs.all (flat k)
    | .tup xs => xs.all (flat k)
    | .iface _ x => flat k x
    | .fn _ a b => a.all (flat k) && b.all (flat k)
    | .sl _ [] _ => true
    | _ => false

/-- No object from n on is named. -/
def below (n : Nat) : Nat → AV → Bool
  | 0, _ => false
  | k + 1, a => match a with
    | .any => true
    | .lit _ => true
    | .agg xs => xs.all (below n k)
    | .tup xs => xs.all (below n k)
    | .iface _ x => below n k x
    | .fn _ a b => a.all (below n k) && b.all (below n k)
    | .ptr r _ => Nat.blt r n
    | .own r _ _ _ _ => Nat.blt r n
    | .ip _ => true
    | .sl _ _ _ => true

def belowO (n : Nat) : AO → Bool
  | .dead => true
  | .row cs _ => cs.all (below n frzF)

/-! ### Operations on values -/
def asInt : AV → Option (IntKind × Int)
  | .lit (.int k n) => some (k, n)
  | _ => none
def asBool : AV → Option Bool
  | .lit (.bool b) => some b
  | _ => none
def asStr : AV → Option ByteArray
  | .lit (.string s) => some s
  | _ => none

def litI (k : IntKind) (n : Int) : AV := .lit (.int k n)
def litB (b : Bool) : AV := .lit (.bool b)
def litS (s : ByteArray) : AV := .lit (.string s)

def bitsI (op : BinOp) (k : IntKind) (x y : Int) : Option AV :=
  let a := BitVec.ofInt k.bits x
  let b := BitVec.ofInt k.bits y
  match op with
  | .and => some (litI k (k.wrap (a &&& b).toNat))
  | .or => some (litI k (k.wrap (a ||| b).toNat))
  | .xor => some (litI k (k.wrap (a ^^^ b).toNat))
  | .andNot => some (litI k (k.wrap (a &&& ~~~b).toNat))
  | _ => none

def binI (op : BinOp) (k : IntKind) (a b : Int) : Option AV :=
  match op with
  | .add => some (litI k (k.wrap (a + b)))
  | .sub => some (litI k (k.wrap (a - b)))
  | .mul => some (litI k (k.wrap (a * b)))
  | .quo => bif decide (b = 0) then none else some (litI k (k.wrap (a.tdiv b)))
  | .rem => bif decide (b = 0) then none else some (litI k (a.tmod b))
  | .eql => some (litB (a == b))
  | .neq => some (litB (a != b))
  | .lss => some (litB (decide (a < b)))
  | .leq => some (litB (decide (a ≤ b)))
  | .gtr => some (litB (decide (a > b)))
  | .geq => some (litB (decide (a ≥ b)))
  | op => bitsI op k a b

def shiftI (op : BinOp) (k : IntKind) (x y : Int) : Option AV :=
  bif decide (y < 0) then none else
  match op with
  | .shl => some (litI k (k.wrap (x * 2 ^ (min y.toNat k.bits))))
  | .shr => some (litI k (x.fdiv (2 ^ (min y.toNat k.bits))))
  | _ => none

def binS (op : BinOp) (x y : ByteArray) : Option AV :=
  match op with
  | .add => bif decide (((x.size + y.size : Nat) : Int) > IntKind.i64.max) then none else some (litS (x ++ y))
  | .eql => some (litB (x.data.toList == y.data.toList))
  | .neq => some (litB (!(x.data.toList == y.data.toList)))
  | .lss => some (litB (Op.bytesLess x.data.toList y.data.toList))
  | .leq => some (litB (Op.bytesLess x.data.toList y.data.toList || x.data.toList == y.data.toList))
  | .gtr => some (litB (!(Op.bytesLess x.data.toList y.data.toList || x.data.toList == y.data.toList)))
  | .geq => some (litB (!Op.bytesLess x.data.toList y.data.toList))
  | _ => none

def binB (op : BinOp) (x y : Bool) : Option AV :=
  match op with
  | .eql => some (litB (x == y))
  | .neq => some (litB (!(x == y)))
  | _ => none

def bin (op : BinOp) (x y : AV) : Option AV :=
  match x, y with
  | .lit (.int k a), .lit (.int k' b) =>
    match op with
    | .shl => shiftI .shl k a b
    | .shr => shiftI .shr k a b
    | op => bif decide (k = k') then binI op k a b else none
  | .lit (.string a), .lit (.string b) => binS op a b
  | _, _ => none

def binb (op : BinOp) (x y : AV) : Option AV :=
  match x, y with
  | .lit (.bool a), .lit (.bool b) => binB op a b
  | _, _ => none

def unop (op : UnOp) (x : AV) : Option AV :=
  match op, x with
  | .neg, .lit (.int k n) => some (litI k (k.wrap (0 - n)))
  | .xor, .lit (.int k n) => bitsI .xor k (if k.signed then -1 else k.max) n
  | .not, .lit (.bool b) => some (litB !b)
  | _, _ => none

/-- A truth picks one of two: of two truths a truth is made. -/
def pickV (c : Bool) (a b : AV) : AV :=
  match a, b with
  | .lit (.bool p), .lit (.bool q) => litB (bif c then p else q)
  | a, b => bif c then a else b

/-- n cells at the beginning, as one value (none: the one cell's own). -/
def part : Option Nat → List AV → Option AV
  | none, cs => cs.head?
  | some n, cs => bif Nat.ble n cs.length then some (.agg (cs.take n)) else none

def rowAt (H : List AO) (r : Nat) : Option (List AV × TypeId) :=
  match H[r]? with
  | some (.row cs t) => some (cs, t)
  | _ => none

def load (H : List AO) (n : Option Nat) : AV → Option AV
  | .ptr r off => (rowAt H r).bind fun p => part n (p.1.drop off)
  | .ip xs => part n xs
  | _ => none

/-- An int as an index below n. -/
def idx (i : AV) (n : Nat) : Option Nat :=
  match i with
  | .lit (.int _ z) => bif (decide (0 ≤ z) && decide (z < (n : Int))) then some z.toNat else none
  | _ => none

def bound (i : AV) (n : Nat) : Option Nat :=
  match i with
  | .lit (.int _ z) => bif (decide (0 ≤ z) && decide (z ≤ (n : Int))) then some z.toNat else none
  | _ => none

def iadr (e : Nat) (x i : AV) : Option AV :=
  match x with
  | .sl e' xs _ => (idx i xs.length).bind fun j => bif e == e' then (xs[j]?).bind fun c => some (.ip c) else none
  | .own r off n e' _ => bif e == e' then (idx i n).bind fun j => some (.ptr r (off + j * e)) else none
  | _ => none

def fadr (off : Nat) : AV → Option AV
  | .ptr r o => some (.ptr r (o + off))
  | .ip xs => some (.ip (xs.drop off))
  | _ => none

/-- Where a cut begins and ends, and where its room ends, where that is known: n places told, room for cap. -/
def cuts (n : Nat) (cap : Option Nat) (lo hi mx : Option AV) : Option (Nat × Nat × Option Nat) :=
  match mx with
  | some m => (bound m n).bind fun m => match hi with
    | some h => (bound h m).bind fun h => match lo with
      | some l => (bound l h).bind fun l => some (l, h, some (m - l))
      | none => some (0, h, some m)
    | none => none
  | none =>
    match hi with
    | some h => (bound h n).bind fun h => match lo with
      | some l => (bound l h).bind fun l => some (l, h, cap.bind fun c => some (c - l))
      | none => some (0, h, cap)
    | none => match lo with
      | some l => (bound l n).bind fun l => some (l, n, cap.bind fun c => some (c - l))
      | none => some (0, n, cap)

def slice (e : Nat) (x : AV) (lo hi mx : Option AV) : Option AV :=
  match x with
  | .sl e' xs cap => bif (e == e' || xs.isEmpty) then (cuts xs.length cap lo hi mx).bind fun p => some (.sl e ((xs.drop p.1).take (p.2.1 - p.1)) p.2.2) else none
  | .own r off n e' cap => bif e == e' then (cuts n cap lo hi mx).bind fun p => some (.own r (off + p.1 * e) (p.2.1 - p.1) e p.2.2) else none
  | _ => none

def sliceS (x : AV) (lo hi : Option AV) : Option AV :=
  match x with
  | .lit (.string s) => (cuts s.size none lo hi none).bind fun p => some (litS (s.extract p.1 p.2.1))
  | _ => none

def lenV : AV → Option AV
  | .sl _ xs _ => some (litI .i64 xs.length)
  | .own _ _ n _ _ => some (litI .i64 n)
  | _ => none

def lenS : AV → Option AV
  | .lit (.string s) => some (litI .i64 s.size)
  | _ => none

def idxS (x i : AV) : Option AV :=
  match x with
  | .lit (.string s) => (idx i s.size).bind fun j => (s.data[j]?).bind fun b => some (litI .u8 b.toNat)
  | _ => none

def nilck : AV → Option AV
  | .ptr r o => some (.ptr r o)
  | .ip xs => some (.ip xs)
  | _ => none

/-- A row's elements, each by its cells. -/
def chunks (e : Nat) : Nat → List AV → List (List AV)
  | 0, _ => []
  | n + 1, cs => cs.take e :: chunks e n (cs.drop e)

/-- The cells of what is appended. -/
def elems (H : List AO) (e : Nat) : AV → Option (Nat × List AV)
  | .sl e' xs _ => bif (e == e' || xs.isEmpty) then some (xs.length, xs.flatten) else none
  | .own r off n e' _ => bif e == e' then (rowAt H r).bind fun p => bif Nat.ble (off + n * e) p.1.length then some (n, (p.1.drop off).take (n * e)) else none else none
  | .lit (.string s) => bif e == 1 then some (s.size, s.data.toList.map fun b => litI .u8 b.toNat) else none
  | _ => none

def setL (H : List AO) (r : Nat) (o : AO) : List AO := H.set r o

def append (H : List AO) (id : Nat) (e bytes : Nat) (t : TypeId) (x y : AV) : Option Out :=
  (elems H e y).bind fun p =>
  bif p.1 == 0 then
    match x with
    | .sl e' xs cap => some (.val (.sl e' xs cap) none)
    | .own r off n e' cap => some (.val (.own r off n e' cap) none)
    | _ => none
  else match x with
    | .sl e' xs (some c) =>
      bif (c == xs.length && (e == e' || xs.isEmpty) && Nat.ble ((xs.length + p.1) * bytes) 140737488355328) then
        some (.val (.own id 0 (xs.length + p.1) e none) (some (.row (xs.flatten ++ p.2) t)))
      else none
    | .own r off n e' cap => (rowAt H r).bind fun q =>
      bif (off == 0 && e == e' && q.2 == t && Nat.ble (n * e) q.1.length && Nat.ble ((n + p.1) * bytes) 140737488355328) then
        some (.wr (.own H.length 0 (n + p.1) e none) (setL H r .dead ++ [.row (q.1.take (n * e) ++ p.2) t]))
      else none
    | _ => none

/-- Is it surely one cell's value? -/
def cellA : AV → Bool
  | .any | .agg _ | .tup _ => false
  | .lit v => v.oneCell'
  | _ => true

/-- Parts into their places. -/
def fill : List AV → List (Nat × Nat × AV) → Option (List AV)
  | zs, [] => some zs
  | zs, (off, n, a) :: r => bif ((cellsOf a).length == n && (cellsOf a).all cellA && Nat.ble (off + n) zs.length) then fill (zs.take off ++ cellsOf a ++ zs.drop (off + n)) r else none

def storeAt (H : List AO) (n : Nat) (a x : AV) : Option (List AO) :=
  match a with
  | .ptr r off => (rowAt H r).bind fun p =>
    bif ((cellsOf x).length == n && (cellsOf x).all cellA && Nat.ble (off + n) p.1.length) then some (setL H r (.row (p.1.take off ++ cellsOf x ++ p.1.drop (off + n)) p.2)) else none
  | _ => none

def reps : Nat → List AV → List AV
  | 0, _ => []
  | n + 1, z => z ++ reps n z

/-- A slice's cells are laid to their zero. -/
def clrAt (H : List AO) (e : Nat) (z : List AV) (a : AV) : Option (List AO) :=
  match a with
  | .own r off n e' _ => bif n == 0 then some H else (rowAt H r).bind fun p =>
    bif (e == e' && z.length == e && Nat.ble (off + n * e) p.1.length) then some (setL H r (.row (p.1.take off ++ reps n z ++ p.1.drop (off + n * e)) p.2)) else none
  | .sl _ [] _ => some H
  | _ => none

def foldS (f : Int → Int → Int) (acc : Option AV) (y : AV) : Option AV :=
  acc.bind fun a => match a, y with
    | .lit (.int k a), .lit (.int _ b) => some (litI k (f a b))
    | _, _ => none

def foldI (f : Int → Int → Int) : List AV → Option AV
  | .lit (.int k a) :: r => r.foldl (foldS f) (some (litI k a))
  | _ => none

def bytesOf : List AV → Option (List UInt8)
  | [] => some []
  | .lit (.int .u8 n) :: r => (bytesOf r).bind fun l => some (UInt8.ofNat n.toNat :: l)
  | _ => none

/-! ### Evaluation -/
section
variable (call : FuncId → List AV → List AO → Option (R × List AO)) (mt : TypeId → String → Option (FuncId × Option (Option Nat))) (md : FuncId → Md)

def callV (f : FuncId) (args : List AV) (H : List AO) (id : Nat) : Option Out :=
  match md f with
  | .own => (mapL (frz H frzF) args).bind fun p => (call f p.1 []).bind fun q => match q.1 with
    | .ret (.own r off n e cap) => (rowAt q.2 r).bind fun c => (mapL (frz q.2 frzF) c.1).bind fun z =>
      bif (!z.2.contains r && (p.2.isEmpty || z.1.all (flat frzF))) then some (.val (.own id off n e cap) (some (.row z.1 c.2))) else none
    | .ret a => (frz q.2 frzF a).bind fun z => bif (p.2.isEmpty || flat frzF z.1) then some (.val z.1 none) else some (.fz z.1 p.2)
    | .pan a => (frz q.2 frzF a).bind fun z => bif (p.2.isEmpty || flat frzF z.1) then some (.pan z.1 H) else none
  | .pure => (mapL (frz H frzF) args).bind fun p => (call f p.1 []).bind fun q => match q.1 with
    | .ret a => (frz q.2 frzF a).bind fun z => bif (p.2.isEmpty || flat frzF z.1) then some (.val z.1 none) else some (.fz z.1 p.2)
    | .pan a => (frz q.2 frzF a).bind fun z => bif (p.2.isEmpty || flat frzF z.1) then some (.pan z.1 H) else none
  | .ref => (call f args H).bind fun q => match q.1 with
    | .ret a => bif (below H.length frzF a && (q.2.take H.length).all (belowO H.length)) then some (.wr a (q.2.take H.length)) else some (.wr a q.2)
    | .pan a => some (.pan a q.2)

def core (H : List AO) (id : Nat) (i : I) (fr : Fr) : Option Out :=
  match i with
  | .mv x => some (.val (ev fr x) none)
  | .pick c a b => (asBool (ev fr c)).bind fun t => some (.val (pickV t (ev fr a) (ev fr b)) none)
  | .alloc zero t => some (.val (.ptr id 0) (some (.row zero t)))
  | .box n x t => bif ((cellsOf (ev fr x)).length == n && (cellsOf (ev fr x)).all cellA) then some (.val (.ptr id 0) (some (.row (cellsOf (ev fr x)) t))) else none
  | .build zero parts => (fill zero (parts.map fun p => (p.1, p.2.1, ev fr p.2.2))).bind fun cs => some (.val (.agg cs) none)
  | .bslice own e n zero parts t => (fill (reps n zero) (parts.map fun p => (p.1 * e, e, ev fr p.2))).bind fun cs =>
    bif own then some (.val (.own id 0 n e (some n)) (some (.row cs t)))
    else (mapL (frz H frzF) cs).bind fun p => bif p.2.isEmpty then some (.val (.sl e (chunks e n p.1) (some n)) none) else none
  | .load n a => (load H n (ev fr a)).bind fun v => some (.val v none)
  | .store n a x => (storeAt H n (ev fr a) (ev fr x)).bind fun H' => some (.wr .any H')
  | .clr e z x => (clrAt H e z (ev fr x)).bind fun H' => some (.wr (.tup []) H')
  | .nilck x => (nilck (ev fr x)).bind fun v => some (.val v none)
  | .bin op x y => (bin op (ev fr x) (ev fr y)).bind fun v => some (.val v none)
  | .binb op x y => (binb op (ev fr x) (ev fr y)).bind fun v => some (.val v none)
  | .un op x => (unop op (ev fr x)).bind fun v => some (.val v none)
  | .conv c x => match c, ev fr x with
    | .int k, .lit (.int _ n) => some (.val (litI k (k.wrap n)) none)
    | .same, .lit (.string s) => some (.val (litS s) none)
    | .toBytes, .lit (.string s) => some (.val (.sl 1 (s.data.toList.map fun b => [litI .u8 b.toNat]) none) none)
    | .ofBytes, .sl e xs cap => (elems H 1 (.sl e xs cap)).bind fun p => (bytesOf p.2).bind fun l => some (.val (litS ⟨l.toArray⟩) none)
    | .ofBytes, .own r off n e cap => (elems H 1 (.own r off n e cap)).bind fun p => (bytesOf p.2).bind fun l => some (.val (litS ⟨l.toArray⟩) none)
    | _, _ => none
  | .fadr off x => (fadr off (ev fr x)).bind fun v => some (.val v none)
  | .fld off n x => match ev fr x with
    | .agg cs => (part n (cs.drop off)).bind fun v => some (.val v none)
    | _ => none
  | .iadr e x i => (iadr e (ev fr x) (ev fr i)).bind fun v => some (.val v none)
  | .iadrA e n x i => (idx (ev fr i) n).bind fun j => (fadr (j * e) (ev fr x)).bind fun v => some (.val v none)
  | .idxS x i => (idxS (ev fr x) (ev fr i)).bind fun v => some (.val v none)
  | .idxA e len n x i => match ev fr x with
    | .agg cs => (idx (ev fr i) len).bind fun j => (part n (cs.drop (j * e))).bind fun v => some (.val v none)
    | _ => none
  | .slS x lo hi => (sliceS (ev fr x) (lo.map (ev fr)) (hi.map (ev fr))).bind fun v => some (.val v none)
  | .sli e x lo hi mx => (slice e (ev fr x) (lo.map (ev fr)) (hi.map (ev fr)) (mx.map (ev fr))).bind fun v => some (.val v none)
  | .ext x i => match ev fr x with
    | .tup xs => (xs[i]?).bind fun v => some (.val v none)
    | _ => none
  | .len x => (lenV (ev fr x)).bind fun v => some (.val v none)
  | .lenS x => (lenS (ev fr x)).bind fun v => some (.val v none)
  | .app e bytes t x y => append H id e bytes t (ev fr x) (ev fr y)
  | .mks e bytes zero t l c => match ev fr l, ev fr c with
    | .lit (.int .i64 l), .lit (.int .i64 c) =>
      bif (decide (0 ≤ l) && decide (l ≤ c) && decide (c * bytes ≤ 140737488355328) && decide (c ≤ 140737488355328)) then some (.val (.own id 0 l.toNat e (some c.toNat)) (some (.row (reps l.toNat zero) t))) else none
    | _, _ => none
  | .maxi xs => (foldI (fun a b => bif decide (b > a) then b else a) (xs.map (ev fr))).bind fun v => some (.val v none)
  | .mini xs => (foldI (fun a b => bif decide (b < a) then b else a) (xs.map (ev fr))).bind fun v => some (.val v none)
  | .mki t x => some (.val (.iface t (ev fr x)) none)
  | .tas t ok zero x => match ev fr x with
    | .iface t' v => bif t == t' then some (.val (bif ok then .tup [v, litB true] else v) none) else bif ok then some (.val (.tup [zero, litB false]) none) else none
    | .lit .nilIface => bif ok then some (.val (.tup [zero, litB false]) none) else none
    | _ => none
  | .mkf f first cap => some (.val (.fn f (first.map (ev fr)) (cap.map (ev fr))) none)
  | .call f args => match ev fr f with
    | .fn (.func g) first cap => callV call md g (first ++ args.map (ev fr) ++ cap) H id
    | _ => none
  | .inv recv name args => match ev fr recv with
    | .iface t v => (mt t name).bind fun p => match p.2 with
      | none => callV call md p.1 (v :: args.map (ev fr)) H id
      | some n => (load H n v).bind fun u => callV call md p.1 (u :: args.map (ev fr)) H id
    | _ => none
  | .pan x => match ev fr x with
    | .iface t v => some (.pan (.iface t v) H)
    | _ => none
  | .bad => none

def putD (fr : Fr) (d : Option Nat) (a : AV) : Fr :=
  match d with
  | some d => put fr d a
  | none => fr

/-- What a slot becomes when objects are written no more. -/
def kill (H : List AO) (ids : List Nat) (a : AV) : AV :=
  match a with
  | .any => .any
  | .lit v => .lit v
  | .ip xs => .ip xs
  | .sl e xs c => .sl e xs c
  | .ptr r o => bif ids.contains r then .any else .ptr r o
  | .own r off n e cap => bif ids.contains r then (match frz H frzF (.own r off n e cap) with | some p => bif p.2.all ids.contains then p.1 else .any | none => .any) else .own r off n e cap
  | a => match frz H frzF a with
    | some p => bif p.2.isEmpty then a else .any
    | none => .any

def killO (H : List AO) (ids : List Nat) : AO → AO
  | .dead => .dead
  | .row cs t => .row (cs.map (kill H ids)) t

def killH (H0 : List AO) (ids : List Nat) : Nat → List AO → List AO
  | _, [] => []
  | n, o :: r => (bif ids.contains n then .dead else killO H0 ids o) :: killH H0 ids (n + 1) r

inductive SR where
  | go (fr : Fr) (H : List AO)
  | pan (a : AV) (fr : Fr) (H : List AO)
  deriving Inhabited

def step (o : O) (fr : Fr) (H : List AO) : Option SR :=
  (core call mt md H H.length o.i fr).bind fun
    | .val a none => some (.go (putD fr o.dst a) H)
    | .val a (some b) => some (.go (putD fr o.dst a) (H ++ [b]))
    | .wr a H' => some (.go (putD fr o.dst a) H')
    | .fz a ids => some (.go (putD (fr.map fun p => (p.1, kill H ids p.2)) o.dst a) (killH H ids 0 H))
    | .pan a H' => some (.pan a fr H')

def wanted (o : O) (fr : Fr) : Option Bool :=
  match o.guard with
  | none => some true
  | some (t, b) => match get fr t with
    | .lit (.bool c) => some (c == b)
    | .lit (.tuple _) => some false
    | _ => none

def run : List O → Fr → List AO → Option SR
  | [], fr, H => some (.go fr H)
  | o :: r, fr, H => (wanted o fr).bind fun
    | true => (step call mt md o fr H).bind fun
      | .go fr H => run r fr H
      | .pan a fr H => some (.pan a fr H)
    | false => run r (putD fr o.dst (.lit undef)) H

/-- A region that draws: each operation reads the heap as it was; what it makes lies at its own place. -/
def runD (H0 : List AO) (base : Nat) : Nat → List O → Fr → Option (Fr × List AO)
  | _, [], fr => some (fr, [])
  | n, o :: r, fr => (wanted o fr).bind fun
    | true => (core call mt md H0 (base + n) o.i fr).bind fun
      | .val a none => (runD H0 base (n + 1) r (putD fr o.dst a)).bind fun p => some (p.1, .dead :: p.2)
      | .val a (some b) => (runD H0 base (n + 1) r (putD fr o.dst a)).bind fun p => some (p.1, b :: p.2)
      | _ => none
    | false => (runD H0 base (n + 1) r (putD fr o.dst (.lit undef))).bind fun p => some (p.1, .dead :: p.2)

/-- The same where nothing behind it is told anew; a panic only at the end. -/
def stepT (o : O) (fr : Fr) (H : List AO) : Option SR :=
  (core call mt md H H.length o.i fr).bind fun
    | .val a none => some (.go (putD fr o.dst a) H)
    | .val a (some b) => some (.go (putD fr o.dst a) (H ++ [b]))
    | .wr a H' => some (.go (putD fr o.dst a) H')
    | .fz a ids => some (.go (putD fr o.dst a) (killH H ids 0 H))
    | .pan a H' => some (.pan a fr H')

def runT : List O → Fr → List AO → Option SR
  | [], fr, H => some (.go fr H)
  | o :: r, fr, H => (wanted o fr).bind fun
    | true => (stepT call mt md o fr H).bind fun
      | .go fr H => runT r fr H
      | .pan a fr H => bif r.isEmpty then some (.pan a fr H) else none
    | false => runT r (putD fr o.dst (.lit undef)) H

/-- Without the slots that are written here. -/
def dropD (os : List O) (fr : Fr) : Fr := fr.filter fun p => !(os.any fun o => o.dst == some p.1)

/-- Does it make an object? -/
def makes (md : FuncId → Md) : I → Bool
  | .alloc .. | .box .. | .mks .. | .app .. => true
  | .bslice own .. => own
  | .call f _ => match f with
    | .k (.fn (.func g) _ _) => match md g with
      | .own => true
      | _ => false
    | _ => true
  | .inv .. => true
  | _ => false

abbrev S := EX × Fr × List AO

def loopN (body : Fr → List AO → Option S) (l : List Nat) : Nat → Fr → List AO → Option S
  | 0, _, _ => none
  | k + 1, fr, H => (body (keep l fr) H).bind fun s => match s.1 with
    | .normal => loopN body l k s.2.1 s.2.2
    | e => some (e, s.2.1, s.2.2)

def code (k : Nat) : C → Fr → List AO → Option S
  | .skip, fr, H => some (.normal, fr, H)
  | .reg ops l, fr, H => (run call mt md ops fr H).bind fun
    | .go fr H => some (.normal, keep l fr, H)
    | .pan a fr H => some (.pan a, fr, H)
  | .draw ops tail l, fr, H => (runD call mt md H H.length 0 ops fr).bind fun p =>
    (runT call mt md tail p.1 (bif ops.any (fun o => makes md o.i) then H ++ p.2 else H)).bind fun
    | .go fr H => some (.normal, keep l fr, H)
    | .pan a fr H => some (.pan a, dropD (ops ++ tail) fr, H)
  | .seq a b, fr, H => (code k a fr H).bind fun s => match s.1 with
    | .normal => code k b s.2.1 s.2.2
    | e => some (e, s.2.1, s.2.2)
  | .cond x a b, fr, H => (asBool (ev fr x)).bind fun t => bif t then code k a fr H else code k b fr H
  | .block id c, fr, H => (code k c fr H).bind fun s => match s.1 with
    | .exit id' => bif id' == id then some (.normal, s.2.1, s.2.2) else some (.exit id', s.2.1, s.2.2)
    | e => some (e, s.2.1, s.2.2)
  | .loop l c, fr, H => loopN (code k c) l k fr H
  | .exit id, fr, H => some (.exit id, fr, H)
  | .ret, fr, H => some (.ret, fr, H)
  | .bad, _, _ => none
end

def initFr : Nat → List AV → Fr
  | _, [] => []
  | n, a :: r => (n, a) :: initFr (n + 1) r

def resV (fr : Fr) (H : List AO) : RV → Option AV
  | .t t => some (get fr t)
  | .c t n => load H n (get fr t)

def resL (fr : Fr) (H : List AO) : List RV → Option (List AV)
  | [] => some []
  | x :: r => (resV fr H x).bind fun a => (resL fr H r).bind fun l => some (a :: l)

def res (fr : Fr) (H : List AO) (l : List RV) : Option AV :=
  (resL fr H l).bind fun
    | [a] => some a
    | l => some (.tup l)

abbrev Ov := FuncId → Option (List AV → List AO → Option (R × List AO))

def call (T : FuncId → Option F) (ov : Ov) (mt : TypeId → String → Option (FuncId × Option (Option Nat))) (md : FuncId → Md) : Nat → FuncId → List AV → List AO → Option (R × List AO)
  | 0, _, _, _ => none
  | k + 1, f, args, H => match ov f with
    | some G => G args H
    | none => (T f).bind fun F => bif args.length == F.np then
        (code (call T ov mt md k) mt md k F.body (initFr 0 args) H).bind fun s => match s.1 with
          | .ret => (res s.2.1 s.2.2 F.res).bind fun a => some (.ret a, s.2.2)
          | .normal => (res s.2.1 s.2.2 F.res).bind fun a => some (.ret a, s.2.2)
          | .pan a => some (.pan a, s.2.2)
          | .exit _ => none
      else none

end Go.Ai
