/- The abstract interpreter: values, heap, code, evaluation. No condition. -/
import Derived.Orders
import Derived.Laws.Sem
import Derived.Tactics
import Derived.Below
import Derived.Laws.AppendOwn
import Derived.Laws.Strings
import Derived.CallsIn
import Derived.Great.FillDense
import Derived.Laws.MakeOwn
import Derived.Laws.BytesString
set_option linter.unusedSimpArgs false
set_option linter.unusedVariables false
set_option linter.unusedSectionVars false
namespace Go.Ai
theorem bO {α β : Type} {b : β} {o : Option α} {f : α → Option β} : o.bind f = some b ↔ ∃ a, o = some a ∧ f a = some b := Option.bind_eq_some_iff
theorem sI {α : Type} (a b : α) : (some a = some b) = (a = b) := Option.some.injEq a b
inductive AV where
  | any
  | lit (v : Value)
  | agg (xs : List AV)
  | tup (xs : List AV)
  | iface (t : TypeId) (x : AV)
  | fn (f : Fn) (first cap : List AV)
  | ptr (r off : Nat)
  | ip (xs : List AV)
  | own (r off n e : Nat) (cap : Option Nat)
  | sl (e : Nat) (xs : List (List AV)) (cap : Option Nat)
  | mpv (r : Nat)
  deriving Inhabited
inductive AO where
  | dead
  | row (cells : List AV) (t : TypeId)
  | mp (kvs : List (Value × AV))
  deriving Inhabited
abbrev Fr := List (Nat × AV)
def get : Fr → Nat → AV
  | [], _ => .any
  | (k, a) :: r, t => bif k == t then a else get r t
def put : Fr → Nat → AV → Fr
  | [], t, a => [(t, a)]
  | (k, b) :: r, t, a => bif Nat.blt t k then (t, a) :: (k, b) :: r else bif k == t then (t, a) :: r else (k, b) :: put r t a
def keep (l : List Nat) (fr : Fr) : Fr := fr.filter fun p => l.contains p.1
def ofV : Nat → Value → AV
  | 0, _ => .any
  | k + 1, .agg cs => .agg (cs.toList.map (ofV k))
  | k + 1, .tuple cs => .tup (cs.toList.map (ofV k))
  | k + 1, .iface t v => .iface t (ofV k v)
  | k + 1, .func f a b => .fn f (a.toList.map (ofV k)) (b.toList.map (ofV k))
  | _ + 1, .slice none 0 0 => .sl 0 [] (some 0)
  | _ + 1, v => .lit v
inductive X where
  | s (t : Nat)
  | k (a : AV)
  deriving Inhabited
def ev (fr : Fr) : X → AV
  | .s t => get fr t
  | .k a => a
def cellsOf : AV → List AV
  | .agg xs => xs
  | a => [a]
inductive CK where
  | int (k : IntKind)
  | same
  | toBytes
  | ofBytes
  deriving Inhabited
inductive KK where
  | int (k : IntKind) | str
  deriving Inhabited
inductive Md where
  | pure | ref | own
  deriving Inhabited
inductive I where
  | mv (x : X)
  | pick (c a b : X)
  | alloc (zero : List AV) (t : TypeId)
  | box (n : Nat) (x : X) (t : TypeId)
  | build (zero : List AV) (parts : List (Nat × Nat × X))
  | bslice (own : Bool) (e n : Nat) (zero : List AV) (parts : List (Nat × X)) (t : TypeId)
  | load (n : Option Nat) (a : X)
  | store (n : Nat) (a x : X)
  | clr (e : Nat) (z : List AV) (x : X)
  | nilck (x : X)
  | isn (neg : Bool) (x : X)
  | slA (e n : Nat) (x : X)
  | bin (op : BinOp) (x y : X)
  | binb (op : BinOp) (x y : X)
  | un (op : UnOp) (x : X)
  | conv (c : CK) (x : X)
  | fadr (off : Nat) (x : X)
  | fld (off : Nat) (n : Option Nat) (x : X)
  | iadr (e : Nat) (x i : X)
  | iadrA (e n : Nat) (x i : X)
  | idxS (x i : X)
  | idxA (e len : Nat) (n : Option Nat) (x i : X)
  | slS (x : X) (lo hi : Option X)
  | sli (e : Nat) (x : X) (lo hi mx : Option X)
  | ext (x : X) (i : Nat)
  | len (x : X)
  | lenS (x : X)
  | cap (x : X)
  | apm (e bytes : Nat) (zero : List AV) (t : TypeId) (x n : X)
  | app (e bytes : Nat) (t : TypeId) (x y : X)
  | mks (e bytes : Nat) (zero : List AV) (t : TypeId) (l c : X)
  | maxi (xs : List X)
  | mini (xs : List X)
  | mki (t : TypeId) (x : X)
  | tas (t : TypeId) (ok : Bool) (zero : AV) (x : X)
  | mkm
  | lkp (kk : KK) (ok : Bool) (zero : AV) (m x : X)
  | mup (kk : KK) (m k x : X)
  | mkf (f : Fn) (first cap : List X)
  | call (f : X) (args : List X)
  | inv (recv : X) (name : String) (args : List X)
  | pan (x : X)
  | bad
  deriving Inhabited
structure O where
  dst : Option Nat
  i : I
  guard : Option (Nat × Bool) := none
  deriving Inhabited
inductive C where
  | skip
  | reg (ops : List O) (keep : List Nat)
  | draw (ops tail : List O) (keep : List Nat) (late : List (List O) := []) (early : List Nat := [])
  | seq (a b : C)
  | cond (x : X) (a b : C)
  | block (id : Nat) (c : C)
  | loop (keep : List Nat) (c : C)
  | exit (id : Nat)
  | ret
  | bad
  deriving Inhabited
inductive RV where
  | t (t : Nat)
  | c (t : Nat) (n : Option Nat)
  deriving Inhabited
structure F where
  np : Nat
  nt : Nat
  res : List RV
  body : C
  deriving Inhabited
inductive R where
  | ret (a : AV)
  | pan (a : AV)
  deriving Inhabited
inductive EX where
  | normal
  | exit (id : Nat)
  | ret
  | pan (a : AV)
  deriving Inhabited
inductive Out where
  | val (a : AV) (o : Option AO)
  | wr (a : AV) (H : List AO)
  | fz (a : AV) (ids : List Nat)
  | pan (a : AV) (H : List AO)
  deriving Inhabited
def mapL (f : AV → Option (AV × List Nat)) : List AV → Option (List AV × List Nat)
  | [] => some ([], [])
  | x :: r => (f x).bind fun p => (mapL f r).bind fun q => some (p.1 :: q.1, p.2 ++ q.2)
def mapR (f : AV → Option (AV × List Nat)) (e : Nat) : Nat → List AV → Option (List (List AV) × List Nat)
  | 0, _ => some ([], [])
  | n + 1, cs => (mapL f (cs.take e)).bind fun p => (mapR f e n (cs.drop e)).bind fun q => some (p.1 :: q.1, p.2 ++ q.2)
def frz (H : List AO) : Nat → AV → Option (AV × List Nat)
  | 0, _ => none
  | k + 1, a => match a with
    | .any => some (.any, [])
    | .lit v => some (.lit v, [])
    | .agg xs => (mapL (frz H k) xs).bind fun p => some (.agg p.1, p.2)
    | .tup xs => (mapL (frz H k) xs).bind fun p => some (.tup p.1, p.2)
    | .iface t x => (frz H k x).bind fun p => some (.iface t p.1, p.2)
    | .fn f a b => (mapL (frz H k) a).bind fun p => (mapL (frz H k) b).bind fun q => some (.fn f p.1 q.1, p.2 ++ q.2)
    | .ptr r off => match H[r]? with
      | some (.row cells _) => bif Nat.ble off cells.length then (mapL (frz H k) (cells.drop off)).bind fun p => some (.ip p.1, r :: p.2) else none
      | _ => none
    | .mpv _ => none
    | .ip xs => some (.ip xs, [])
    | .own r off n e cap => match H[r]? with
      | some (.row cells _) => bif Nat.ble (off + n * e) cells.length then (mapR (frz H k) e n (cells.drop off)).bind fun p => some (.sl e p.1 cap, r :: p.2) else none
      | _ => none
    | .sl e xs cap => some (.sl e xs cap, [])
def frzO (H : List AO) : Nat → AV → Option (AV × List Nat)
  | 0, _ => none
  | k + 1, a => match a with
    | .any => some (.any, [])
    | .lit v => some (.lit v, [])
    | .agg xs => (mapL (frzO H k) xs).bind fun p => some (.agg p.1, p.2)
    | .tup xs => (mapL (frzO H k) xs).bind fun p => some (.tup p.1, p.2)
    | .iface t x => (frzO H k x).bind fun p => some (.iface t p.1, p.2)
    | .own r off n e cap => match H[r]? with
      | some (.row cells _) => bif Nat.ble (off + n * e) cells.length then (mapR (frzO H k) e n (cells.drop off)).bind fun p => some (.sl e p.1 cap, r :: p.2) else none
      | _ => none
    | .sl e [] cap => some (.sl e [] cap, [])
    | _ => none
def frzF : Nat := 16
def flat : Nat → AV → Bool
  | 0, _ => false
  | k + 1, a => match a with
    | .any => true
    | .lit _ => true
    | .agg xs => xs.all (flat k)
    | .tup xs => xs.all (flat k)
    | .iface _ x => flat k x
    | .fn _ a b => a.all (flat k) && b.all (flat k)
    | .sl _ [] _ => true
    | _ => false
def below (n : Nat) : Nat → AV → Bool
  | 0, _ => false
  | k + 1, a => match a with
    | .any => true
    | .lit _ => true
    | .agg xs => xs.all (below n k)
    | .tup xs => xs.all (below n k)
    | .iface _ x => below n k x
    | .fn _ a b => a.all (below n k) && b.all (below n k)
    | .ptr r _ => Nat.blt r n
    | .own r _ _ _ _ => Nat.blt r n
    | .mpv r => Nat.blt r n
    | .ip _ => true
    | .sl _ _ _ => true
def belowO (n : Nat) : AO → Bool
  | .dead => true
  | .row cs _ => cs.all (below n frzF)
  | .mp kvs => kvs.all fun p => below n frzF p.2
def asInt : AV → Option (IntKind × Int)
  | .lit (.int k n) => some (k, n)
  | _ => none
def asBool : AV → Option Bool
  | .lit (.bool b) => some b
  | _ => none
def litI (k : IntKind) (n : Int) : AV := .lit (.int k n)
def litB (b : Bool) : AV := .lit (.bool b)
def litS (s : ByteArray) : AV := .lit (.string s)
def bitsI (op : BinOp) (k : IntKind) (x y : Int) : Option AV :=
  let a := BitVec.ofInt k.bits x
  let b := BitVec.ofInt k.bits y
  match op with
  | .and => some (litI k (k.wrap (a &&& b).toNat))
  | .or => some (litI k (k.wrap (a ||| b).toNat))
  | .xor => some (litI k (k.wrap (a ^^^ b).toNat))
  | .andNot => some (litI k (k.wrap (a &&& ~~~b).toNat))
  | _ => none
def binI (op : BinOp) (k : IntKind) (a b : Int) : Option AV :=
  match op with
  | .add => some (litI k (k.wrap (a + b)))
  | .sub => some (litI k (k.wrap (a - b)))
  | .mul => some (litI k (k.wrap (a * b)))
  | .quo => bif decide (b = 0) then none else some (litI k (k.wrap (a.tdiv b)))
  | .rem => bif decide (b = 0) then none else some (litI k (a.tmod b))
  | .eql => some (litB (a == b))
  | .neq => some (litB (a != b))
  | .lss => some (litB (decide (a < b)))
  | .leq => some (litB (decide (a ≤ b)))
  | .gtr => some (litB (decide (a > b)))
  | .geq => some (litB (decide (a ≥ b)))
  | op => bitsI op k a b
def shiftI (op : BinOp) (k : IntKind) (x y : Int) : Option AV :=
  bif decide (y < 0) then none else
  match op with
  | .shl => some (litI k (k.wrap (x * 2 ^ (min y.toNat k.bits))))
  | .shr => some (litI k (x.fdiv (2 ^ (min y.toNat k.bits))))
  | _ => none
def binS (op : BinOp) (x y : ByteArray) : Option AV :=
  match op with
  | .add => bif decide (((x.size + y.size : Nat) : Int) > IntKind.i64.max) then none else some (litS (x ++ y))
  | .eql => some (litB (x.data.toList == y.data.toList))
  | .neq => some (litB (!(x.data.toList == y.data.toList)))
  | .lss => some (litB (Op.bytesLess x.data.toList y.data.toList))
  | .leq => some (litB (Op.bytesLess x.data.toList y.data.toList || x.data.toList == y.data.toList))
  | .gtr => some (litB (!(Op.bytesLess x.data.toList y.data.toList || x.data.toList == y.data.toList)))
  | .geq => some (litB (!Op.bytesLess x.data.toList y.data.toList))
  | _ => none
def binB (op : BinOp) (x y : Bool) : Option AV :=
  match op with
  | .eql => some (litB (x == y))
  | .neq => some (litB (!(x == y)))
  | _ => none
def bin (op : BinOp) (x y : AV) : Option AV :=
  match x, y with
  | .lit (.int k a), .lit (.int k' b) =>
    match op with
    | .shl => shiftI .shl k a b
    | .shr => shiftI .shr k a b
    | op => bif decide (k = k') then binI op k a b else none
  | .lit (.string a), .lit (.string b) => binS op a b
  | _, _ => none
def binb (op : BinOp) (x y : AV) : Option AV :=
  match x, y with
  | .lit (.bool a), .lit (.bool b) => binB op a b
  | _, _ => none
def unop (op : UnOp) (x : AV) : Option AV :=
  match op, x with
  | .neg, .lit (.int k n) => some (litI k (k.wrap (0 - n)))
  | .xor, .lit (.int k n) => bitsI .xor k (if k.signed then -1 else k.max) n
  | .not, .lit (.bool b) => some (litB !b)
  | _, _ => none
def pickV (c : Bool) (a b : AV) : AV :=
  match a, b with
  | .lit (.bool p), .lit (.bool q) => litB (bif c then p else q)
  | a, b => bif c then a else b
def part : Option Nat → List AV → Option AV
  | none, cs => cs.head?
  | some n, cs => bif Nat.ble n cs.length then some (.agg (cs.take n)) else none
def rowAt (H : List AO) (r : Nat) : Option (List AV × TypeId) :=
  match H[r]? with
  | some (.row cs t) => some (cs, t)
  | _ => none
def load (H : List AO) (n : Option Nat) : AV → Option AV
  | .ptr r off => (rowAt H r).bind fun p => part n (p.1.drop off)
  | .ip xs => part n xs
  | _ => none
def idx (i : AV) (n : Nat) : Option Nat :=
  match i with
  | .lit (.int _ z) => bif (decide (0 ≤ z) && decide (z < (n : Int))) then some z.toNat else none
  | _ => none
def bound (i : AV) (n : Nat) : Option Nat :=
  match i with
  | .lit (.int _ z) => bif (decide (0 ≤ z) && decide (z ≤ (n : Int))) then some z.toNat else none
  | _ => none
def iadr (e : Nat) (x i : AV) : Option AV :=
  match x with
  | .sl e' xs _ => (idx i xs.length).bind fun j => bif e == e' then (xs[j]?).bind fun c => some (.ip c) else none
  | .own r off n e' _ => bif e == e' then (idx i n).bind fun j => some (.ptr r (off + j * e)) else none
  | _ => none
def fadr (off : Nat) : AV → Option AV
  | .ptr r o => some (.ptr r (o + off))
  | .ip xs => some (.ip (xs.drop off))
  | _ => none
def cuts (n : Nat) (cap : Option Nat) (lo hi mx : Option AV) : Option (Nat × Nat × Option Nat) :=
  match mx with
  | some m => (bound m n).bind fun m => match hi with
    | some h => (bound h m).bind fun h => match lo with
      | some l => (bound l h).bind fun l => some (l, h, some (m - l))
      | none => some (0, h, some m)
    | none => none
  | none =>
    match hi with
    | some h => (bound h n).bind fun h => match lo with
      | some l => (bound l h).bind fun l => some (l, h, cap.bind fun c => some (c - l))
      | none => some (0, h, cap)
    | none => match lo with
      | some l => (bound l n).bind fun l => some (l, n, cap.bind fun c => some (c - l))
      | none => some (0, n, cap)
def slice (e : Nat) (x : AV) (lo hi mx : Option AV) : Option AV :=
  match x with
  | .sl e' xs cap => bif (e == e' || xs.isEmpty) then (cuts xs.length cap lo hi mx).bind fun p => some (.sl e ((xs.drop p.1).take (p.2.1 - p.1)) p.2.2) else none
  | .own r off n e' cap => bif e == e' then (cuts n cap lo hi mx).bind fun p => some (.own r (off + p.1 * e) (p.2.1 - p.1) e p.2.2) else none
  | _ => none
def sliceS (x : AV) (lo hi : Option AV) : Option AV :=
  match x with
  | .lit (.string s) => (cuts s.size none lo hi none).bind fun p => some (litS (s.extract p.1 p.2.1))
  | _ => none
def lenV : AV → Option AV
  | .sl _ xs _ => some (litI .i64 xs.length)
  | .own _ _ n _ _ => some (litI .i64 n)
  | _ => none
def capV : AV → Option AV
  | .sl _ _ (some c) => some (litI .i64 c)
  | .own _ _ _ _ (some c) => some (litI .i64 c)
  | _ => none
def lenS : AV → Option AV
  | .lit (.string s) => some (litI .i64 s.size)
  | _ => none
def idxS (x i : AV) : Option AV :=
  match x with
  | .lit (.string s) => (idx i s.size).bind fun j => (s.data[j]?).bind fun b => some (litI .u8 b.toNat)
  | _ => none
def isnV (neg : Bool) : AV → Option AV
  | .lit .nilIface => some (litB (!neg))
  | .iface _ _ => some (litB neg)
  | _ => none
def slAV (H : List AO) (e n : Nat) : AV → Option AV
  | .ptr r off => (rowAt H r).bind fun c => bif Nat.ble (off + n * e) c.1.length then some (.own r off n e (some n)) else none
  | _ => none
def nilck : AV → Option AV
  | .ptr r o => some (.ptr r o)
  | .ip xs => some (.ip xs)
  | _ => none
def chunks (e : Nat) : Nat → List AV → List (List AV)
  | 0, _ => []
  | n + 1, cs => cs.take e :: chunks e n (cs.drop e)
def elems (H : List AO) (e : Nat) : AV → Option (Nat × List AV)
  | .sl e' xs _ => bif (e == e' || xs.isEmpty) then some (xs.length, xs.flatten) else none
  | .own r off n e' _ => bif e == e' then (rowAt H r).bind fun p => bif Nat.ble (off + n * e) p.1.length then some (n, (p.1.drop off).take (n * e)) else none else none
  | .lit (.string s) => bif e == 1 then some (s.size, s.data.toList.map fun b => litI .u8 b.toNat) else none
  | _ => none
def setL (H : List AO) (r : Nat) (o : AO) : List AO := H.set r o
def append (H : List AO) (id : Nat) (e bytes : Nat) (t : TypeId) (x y : AV) : Option Out :=
  (elems H e y).bind fun p =>
  bif p.1 == 0 then
    match x with
    | .sl e' xs cap => some (.val (.sl e' xs cap) none)
    | .own r off n e' cap => some (.val (.own r off n e' cap) none)
    | _ => none
  else match x with
    | .sl e' xs (some c) =>
      bif (c == xs.length && (e == e' || xs.isEmpty) && Nat.ble ((xs.length + p.1) * bytes) 140737488355328) then
        some (.val (.own id 0 (xs.length + p.1) e none) (some (.row (xs.flatten ++ p.2) t)))
      else none
    | .own r off n e' cap => (rowAt H r).bind fun q =>
      bif (e == e' && q.2 == t && Nat.ble (off + n * e) q.1.length && Nat.ble ((n + p.1) * bytes) 140737488355328) then
        some (.wr (.own H.length 0 (n + p.1) e none) (setL H r .dead ++ [.row ((q.1.drop off).take (n * e) ++ p.2) t]))
      else none
    | _ => none
def cellA : AV → Bool
  | .any | .agg _ | .tup _ => false
  | .lit v => v.oneCell'
  | _ => true
def fill : List AV → List (Nat × Nat × AV) → Option (List AV)
  | zs, [] => some zs
  | zs, (off, n, a) :: r => bif ((cellsOf a).length == n && (cellsOf a).all cellA && Nat.ble (off + n) zs.length) then fill (zs.take off ++ cellsOf a ++ zs.drop (off + n)) r else none
def storeAt (H : List AO) (n : Nat) (a x : AV) : Option (List AO) :=
  match a with
  | .ptr r off => (rowAt H r).bind fun p =>
    bif ((cellsOf x).length == n && (cellsOf x).all cellA && Nat.ble (off + n) p.1.length) then some (setL H r (.row (p.1.take off ++ cellsOf x ++ p.1.drop (off + n)) p.2)) else none
  | _ => none
def reps : Nat → List AV → List AV
  | 0, _ => []
  | n + 1, z => z ++ reps n z
def apmV (id e bytes : Nat) (zero : List AV) (t : TypeId) (x n : AV) : Option Out :=
  match x, n with
  | .sl _ [] (some 0), .lit (.int .i64 n) => bif (decide (0 < n) && decide (n * bytes ≤ 140737488355328) && decide (n ≤ 140737488355328)) then some (.val (.own id 0 n.toNat e none) (some (.row (reps n.toNat zero) t))) else none
  | _, _ => none
def clrAt (H : List AO) (e : Nat) (z : List AV) (a : AV) : Option (List AO) :=
  match a with
  | .own r off n e' _ => bif n == 0 then some H else (rowAt H r).bind fun p =>
    bif (e == e' && z.length == e && Nat.ble (off + n * e) p.1.length) then some (setL H r (.row (p.1.take off ++ reps n z ++ p.1.drop (off + n * e)) p.2)) else none
  | .sl _ [] _ => some H
  | _ => none
def foldS (f : Int → Int → Int) (acc : Option AV) (y : AV) : Option AV :=
  acc.bind fun a => match a, y with
    | .lit (.int k a), .lit (.int _ b) => some (litI k (f a b))
    | _, _ => none
def foldI (f : Int → Int → Int) : List AV → Option AV
  | .lit (.int k a) :: r => r.foldl (foldS f) (some (litI k a))
  | _ => none
def bytesOf : List AV → Option (List UInt8)
  | [] => some []
  | .lit (.int .u8 n) :: r => (bytesOf r).bind fun l => some (UInt8.ofNat n.toNat :: l)
  | _ => none
def sameK : KK → Value → Value → Option Bool
  | .int q, .int k a, .int k' b => bif decide (k = q) && decide (k' = q) then some (a == b) else none
  | .str, .string a, .string b => some (a.data.toList == b.data.toList)
  | _, _, _ => none
def findK (kk : KK) (k : Value) : List (Value × AV) → Nat → Option (Option (Nat × AV))
  | [], _ => some none
  | p :: r, i => match sameK kk k p.1 with
    | some true => some (some (i, p.2))
    | some false => findK kk k r (i + 1)
    | none => none
def keyOf : KK → AV → Option Value
  | .int q, .lit (.int k n) => bif decide (k = q) then some (.int k n) else none
  | .str, .lit (.string s) => some (.string s)
  | _, _ => none
def mapAt (H : List AO) : AV → Option (List (Value × AV))
  | .mpv r => match H[r]? with
    | some (.mp kvs) => some kvs
    | _ => none
  | .lit (.map none) => some []
  | _ => none
def lkpV (H : List AO) (kk : KK) (ok : Bool) (zero m x : AV) : Option AV :=
  (mapAt H m).bind fun kvs => (keyOf kk x).bind fun k => (findK kk k kvs 0).bind fun
    | some (_, a) => some (bif ok then .tup [a, litB true] else a)
    | none => some (bif ok then .tup [zero, litB false] else zero)
def mupH (H : List AO) (kk : KK) (m k x : AV) : Option (List AO) :=
  match m with
  | .mpv r => (mapAt H (.mpv r)).bind fun kvs => (keyOf kk k).bind fun k => (findK kk k kvs 0).bind fun
    | some (i, _) => some (setL H r (.mp (kvs.set i (k, x))))
    | none => some (setL H r (.mp (kvs ++ [(k, x)])))
  | _ => none
section
variable (call : FuncId → List AV → List AO → Option (R × List AO)) (mt : TypeId → String → Option (FuncId × Option (Option Nat))) (md : FuncId → Md)
def light (H : List AO) (a z : AV) : Bool := flat frzF z || (frzO H frzF a).isSome
def callV (f : FuncId) (args : List AV) (H : List AO) (id : Nat) : Option Out :=
  match md f with
  | .own => (mapL (frz H frzF) args).bind fun p => (call f p.1 []).bind fun q => match q.1 with
    | .ret (.own r off n e cap) => (rowAt q.2 r).bind fun c => (mapL (frz q.2 frzF) c.1).bind fun z =>
      bif (!z.2.contains r && (p.2.isEmpty || z.1.all (flat frzF))) then some (.val (.own id off n e cap) (some (.row z.1 c.2))) else none
    | .ret a => (frz q.2 frzF a).bind fun z => bif (p.2.isEmpty || light q.2 a z.1) then some (.val z.1 none) else some (.fz z.1 p.2)
    | .pan a => (frz q.2 frzF a).bind fun z => bif (p.2.isEmpty || light q.2 a z.1) then some (.pan z.1 H) else none
  | .pure => (mapL (frz H frzF) args).bind fun p => (call f p.1 []).bind fun q => match q.1 with
    | .ret a => (frz q.2 frzF a).bind fun z => bif (p.2.isEmpty || light q.2 a z.1) then some (.val z.1 none) else some (.fz z.1 p.2)
    | .pan a => (frz q.2 frzF a).bind fun z => bif (p.2.isEmpty || light q.2 a z.1) then some (.pan z.1 H) else none
  | .ref => (call f args H).bind fun q => match q.1 with
    | .ret a => bif (below H.length frzF a && (q.2.take H.length).all (belowO H.length)) then some (.wr a (q.2.take H.length)) else some (.wr a q.2)
    | .pan a => some (.pan a q.2)
def core (H : List AO) (id : Nat) (i : I) (fr : Fr) : Option Out :=
  match i with
  | .mv x => some (.val (ev fr x) none)
  | .pick c a b => (asBool (ev fr c)).bind fun t => some (.val (pickV t (ev fr a) (ev fr b)) none)
  | .alloc zero t => some (.val (.ptr id 0) (some (.row zero t)))
  | .box n x t => bif ((cellsOf (ev fr x)).length == n && (cellsOf (ev fr x)).all cellA) then some (.val (.ptr id 0) (some (.row (cellsOf (ev fr x)) t))) else none
  | .build zero parts => (fill zero (parts.map fun p => (p.1, p.2.1, ev fr p.2.2))).bind fun cs => some (.val (.agg cs) none)
  | .bslice own e n zero parts t => (fill (reps n zero) (parts.map fun p => (p.1 * e, e, ev fr p.2))).bind fun cs =>
    bif own then some (.val (.own id 0 n e (some n)) (some (.row cs t)))
    else (mapL (frz H frzF) cs).bind fun p => bif p.2.isEmpty then some (.val (.sl e (chunks e n p.1) (some n)) none) else none
  | .load n a => (load H n (ev fr a)).bind fun v => some (.val v none)
  | .store n a x => (storeAt H n (ev fr a) (ev fr x)).bind fun H' => some (.wr .any H')
  | .clr e z x => (clrAt H e z (ev fr x)).bind fun H' => some (.wr (.tup []) H')
  | .nilck x => (nilck (ev fr x)).bind fun v => some (.val v none)
  | .isn neg x => (isnV neg (ev fr x)).bind fun v => some (.val v none)
  | .slA e n x => (slAV H e n (ev fr x)).bind fun v => some (.val v none)
  | .bin op x y => (bin op (ev fr x) (ev fr y)).bind fun v => some (.val v none)
  | .binb op x y => (binb op (ev fr x) (ev fr y)).bind fun v => some (.val v none)
  | .un op x => (unop op (ev fr x)).bind fun v => some (.val v none)
  | .conv c x => match c, ev fr x with
    | .int k, .lit (.int _ n) => some (.val (litI k (k.wrap n)) none)
    | .same, .lit (.string s) => some (.val (litS s) none)
    | .toBytes, .lit (.string s) => some (.val (.sl 1 (s.data.toList.map fun b => [litI .u8 b.toNat]) none) none)
    | .ofBytes, .sl e xs cap => (elems H 1 (.sl e xs cap)).bind fun p => (bytesOf p.2).bind fun l => some (.val (litS ⟨l.toArray⟩) none)
    | .ofBytes, .own r off n e cap => (elems H 1 (.own r off n e cap)).bind fun p => (bytesOf p.2).bind fun l => some (.val (litS ⟨l.toArray⟩) none)
    | _, _ => none
  | .fadr off x => (fadr off (ev fr x)).bind fun v => some (.val v none)
  | .fld off n x => match ev fr x with
    | .agg cs => (part n (cs.drop off)).bind fun v => some (.val v none)
    | _ => none
  | .iadr e x i => (iadr e (ev fr x) (ev fr i)).bind fun v => some (.val v none)
  | .iadrA e n x i => (idx (ev fr i) n).bind fun j => (fadr (j * e) (ev fr x)).bind fun v => some (.val v none)
  | .idxS x i => (idxS (ev fr x) (ev fr i)).bind fun v => some (.val v none)
  | .idxA e len n x i => match ev fr x with
    | .agg cs => (idx (ev fr i) len).bind fun j => (part n (cs.drop (j * e))).bind fun v => some (.val v none)
    | _ => none
  | .slS x lo hi => (sliceS (ev fr x) (lo.map (ev fr)) (hi.map (ev fr))).bind fun v => some (.val v none)
  | .sli e x lo hi mx => (slice e (ev fr x) (lo.map (ev fr)) (hi.map (ev fr)) (mx.map (ev fr))).bind fun v => some (.val v none)
  | .ext x i => match ev fr x with
    | .tup xs => (xs[i]?).bind fun v => some (.val v none)
    | _ => none
  | .len x => (lenV (ev fr x)).bind fun v => some (.val v none)
  | .lenS x => (lenS (ev fr x)).bind fun v => some (.val v none)
  | .cap x => (capV (ev fr x)).bind fun v => some (.val v none)
  | .apm e bytes zero t x n => apmV id e bytes zero t (ev fr x) (ev fr n)
  | .app e bytes t x y => append H id e bytes t (ev fr x) (ev fr y)
  | .mks e bytes zero t l c => match ev fr l, ev fr c with
    | .lit (.int .i64 l), .lit (.int .i64 c) =>
      bif (decide (0 ≤ l) && decide (l ≤ c) && decide (c * bytes ≤ 140737488355328) && decide (c ≤ 140737488355328)) then some (.val (.own id 0 l.toNat e (some c.toNat)) (some (.row (reps l.toNat zero) t))) else none
    | _, _ => none
  | .maxi xs => (foldI (fun a b => bif decide (b > a) then b else a) (xs.map (ev fr))).bind fun v => some (.val v none)
  | .mini xs => (foldI (fun a b => bif decide (b < a) then b else a) (xs.map (ev fr))).bind fun v => some (.val v none)
  | .mki t x => some (.val (.iface t (ev fr x)) none)
  | .tas t ok zero x => match ev fr x with
    | .iface t' v => bif t == t' then some (.val (bif ok then .tup [v, litB true] else v) none) else bif ok then some (.val (.tup [zero, litB false]) none) else none
    | .lit .nilIface => bif ok then some (.val (.tup [zero, litB false]) none) else none
    | _ => none
  | .mkm => some (.val (.mpv id) (some (.mp [])))
  | .lkp kk ok zero m x => (lkpV H kk ok zero (ev fr m) (ev fr x)).bind fun v => some (.val v none)
  | .mup kk m k x => (mupH H kk (ev fr m) (ev fr k) (ev fr x)).bind fun H' => some (.wr .any H')
  | .mkf f first cap => some (.val (.fn f (first.map (ev fr)) (cap.map (ev fr))) none)
  | .call f args => match ev fr f with
    | .fn (.func g) first cap => callV call md g (first ++ args.map (ev fr) ++ cap) H id
    | _ => none
  | .inv recv name args => match ev fr recv with
    | .iface t v => (mt t name).bind fun p => match p.2 with
      | none => callV call md p.1 (v :: args.map (ev fr)) H id
      | some n => (load H n v).bind fun u => callV call md p.1 (u :: args.map (ev fr)) H id
    | _ => none
  | .pan x => match ev fr x with
    | .iface t v => some (.pan (.iface t v) H)
    | _ => none
  | .bad => none
def putD (fr : Fr) (d : Option Nat) (a : AV) : Fr :=
  match d with
  | some d => put fr d a
  | none => fr
def kill (H : List AO) (ids : List Nat) (a : AV) : AV :=
  match a with
  | .any => .any
  | .lit v => .lit v
  | .ip xs => .ip xs
  | .sl e xs c => .sl e xs c
  | .ptr r o => bif ids.contains r then .any else .ptr r o
  | .mpv r => bif ids.contains r then .any else .mpv r
  | .own r off n e cap => bif ids.contains r then (match frz H frzF (.own r off n e cap) with | some p => bif p.2.all ids.contains then p.1 else .any | none => .any) else .own r off n e cap
  | a => match frz H frzF a with
    | some p => bif p.2.isEmpty then a else .any
    | none => .any
def killO (H : List AO) (ids : List Nat) : AO → AO
  | .dead => .dead
  | .row cs t => .row (cs.map (kill H ids)) t
  | .mp kvs => .mp (kvs.map fun p => (p.1, kill H ids p.2))
def killH (H0 : List AO) (ids : List Nat) : Nat → List AO → List AO
  | _, [] => []
  | n, o :: r => (bif ids.contains n then .dead else killO H0 ids o) :: killH H0 ids (n + 1) r
inductive SR where
  | go (fr : Fr) (H : List AO)
  | pan (a : AV) (fr : Fr) (H : List AO)
  deriving Inhabited
def step (o : O) (fr : Fr) (H : List AO) : Option SR :=
  (core call mt md H H.length o.i fr).bind fun
    | .val a none => some (.go (putD fr o.dst a) H)
    | .val a (some b) => some (.go (putD fr o.dst a) (H ++ [b]))
    | .wr a H' => some (.go (putD fr o.dst a) H')
    | .fz a ids => some (.go (putD (fr.map fun p => (p.1, kill H ids p.2)) o.dst a) (killH H ids 0 H))
    | .pan a H' => some (.pan a fr H')
def wanted (o : O) (fr : Fr) : Option Bool :=
  match o.guard with
  | none => some true
  | some (t, b) => match get fr t with
    | .lit (.bool c) => some (c == b)
    | .lit (.tuple _) => some false
    | _ => none
def run : List O → Fr → List AO → Option SR
  | [], fr, H => some (.go fr H)
  | o :: r, fr, H => (wanted o fr).bind fun
    | true => (step call mt md o fr H).bind fun
      | .go fr H => run r fr H
      | .pan a fr H => some (.pan a fr H)
    | false => run r (putD fr o.dst (.lit undef)) H
def runD (H0 : List AO) (base : Nat) : Nat → List O → Fr → Option (Fr × List AO)
  | _, [], fr => some (fr, [])
  | n, o :: r, fr => (wanted o fr).bind fun
    | true => (core call mt md H0 (base + n) o.i fr).bind fun
      | .val a none => (runD H0 base (n + 1) r (putD fr o.dst a)).bind fun p => some (p.1, .dead :: p.2)
      | .val a (some b) => (runD H0 base (n + 1) r (putD fr o.dst a)).bind fun p => some (p.1, b :: p.2)
      | _ => none
    | false => (runD H0 base (n + 1) r (putD fr o.dst (.lit undef))).bind fun p => some (p.1, .dead :: p.2)
def stepT (o : O) (fr : Fr) (H : List AO) : Option SR :=
  (core call mt md H H.length o.i fr).bind fun
    | .val a none => some (.go (putD fr o.dst a) H)
    | .val a (some b) => some (.go (putD fr o.dst a) (H ++ [b]))
    | .wr a H' => some (.go (putD fr o.dst a) H')
    | .fz a ids => some (.go (putD fr o.dst a) (killH H ids 0 H))
    | .pan a H' => some (.pan a fr H')
def getO (fr : Fr) : Option Nat → AV
  | some d => get fr d
  | none => .any
open Classical in
noncomputable def lS {α : Type} (x : Option Out) (a : AV) (k : Option α) : Option α := if x = some (.val a none) then k else none
noncomputable def lateS {α : Type} (fr : Fr) (H : List AO) : List O → Option α → Option α
  | [], k => k
  | o :: r, k => (wanted o fr).bind fun
    | true => lS (core call mt md H H.length o.i fr) (getO fr o.dst) (lateS fr H r k)
    | false => lateS fr H r k
noncomputable def eaS {α : Type} (i : I) (fr : Fr) (x : Option Out) : List (List AO) → Option α → Option α
  | [], k => k
  | H :: r, k => open Classical in if core call mt md H H.length i fr = x then eaS i fr x r k else none
def seen (early : List Nat) (d : Option Nat) (Hs : List (List AO)) : List (List AO) :=
  match d with
  | some d => bif early.contains d then Hs else []
  | none => []
def pm : List Nat → Option Nat → Bool
  | [], _ => false
  | e :: es, some d => (e :: es).contains (d + 1000000)
  | _ :: _, none => false
def lastOk (early : List Nat) (d : Option Nat) (r : List O) : Bool := pm early d || r.isEmpty
noncomputable def runT : List (List O) → List Nat → List (List AO) → List O → Fr → List AO → Option SR
  | late, _, _, [], fr, H => lateS call mt md fr H (late.headD []) (some (.go fr H))
  | late, early, Hs, o :: r, fr, H => lateS call mt md fr H (late.headD []) ((wanted o fr).bind fun
    | true => eaS call mt md o.i fr (core call mt md H H.length o.i fr) (seen early o.dst Hs) ((stepT call mt md o fr H).bind fun
      | .go fr H' => runT late.tail early (H :: Hs) r fr H'
      | .pan a fr H' => bif lastOk early o.dst r then some (.pan a fr H') else none)
    | false => runT late.tail early (H :: Hs) r (putD fr o.dst (.lit undef)) H)
def sameZ : AV → AV → Bool
  | .sl e [] (some 0), .sl e' [] (some 0) => e == e'
  | .lit (.int k n), .lit (.int k' n') => decide (k = k') && n == n'
  | .lit (.bool b), .lit (.bool b') => b == b'
  | _, _ => false
def dropD (os : List O × Fr) (fr : Fr) : Fr := fr.filter fun p => !(os.1.any fun o => o.dst == some p.1) || sameZ (get os.2 p.1) (get fr p.1)
def makes (md : FuncId → Md) : I → Bool
  | .alloc .. | .box .. | .mks .. | .app .. | .mkm | .apm .. => true
  | .bslice own .. => own
  | .call f _ => match f with
    | .k (.fn (.func g) _ _) => match md g with
      | .own => true
      | _ => false
    | _ => true
  | .inv .. => true
  | _ => false
abbrev S := EX × Fr × List AO
def loopN (body : Fr → List AO → Option S) (l : List Nat) : Nat → Fr → List AO → Option S
  | 0, _, _ => none
  | k + 1, fr, H => (body (keep l fr) H).bind fun s => match s.1 with
    | .normal => loopN body l k s.2.1 s.2.2
    | e => some (e, s.2.1, s.2.2)
noncomputable def code (k : Nat) : C → Fr → List AO → Option S
  | .skip, fr, H => some (.normal, fr, H)
  | .reg ops l, fr, H => (run call mt md ops fr H).bind fun
    | .go fr H => some (.normal, keep l fr, H)
    | .pan a fr H => some (.pan a, fr, H)
  | .draw ops tail l late early, fr, H => (runD call mt md H H.length 0 ops fr).bind fun p =>
    (runT call mt md late early [H] tail p.1 (bif ops.any (fun o => makes md o.i) then H ++ p.2 else H)).bind fun
    | .go fr H => some (.normal, keep l fr, H)
    | .pan a fr' H => some (.pan a, dropD (ops ++ tail, fr) fr', H)
  | .seq a b, fr, H => (code k a fr H).bind fun s => match s.1 with
    | .normal => code k b s.2.1 s.2.2
    | e => some (e, s.2.1, s.2.2)
  | .cond x a b, fr, H => (asBool (ev fr x)).bind fun t => bif t then code k a fr H else code k b fr H
  | .block id c, fr, H => (code k c fr H).bind fun s => match s.1 with
    | .exit id' => bif id' == id then some (.normal, s.2.1, s.2.2) else some (.exit id', s.2.1, s.2.2)
    | e => some (e, s.2.1, s.2.2)
  | .loop l c, fr, H => loopN (code k c) l k fr H
  | .exit id, fr, H => some (.exit id, fr, H)
  | .ret, fr, H => some (.ret, fr, H)
  | .bad, _, _ => none
end
def initFr : Nat → List AV → Fr
  | _, [] => []
  | n, a :: r => (n, a) :: initFr (n + 1) r
def resV (fr : Fr) (H : List AO) : RV → Option AV
  | .t t => some (get fr t)
  | .c t n => load H n (get fr t)
def resL (fr : Fr) (H : List AO) : List RV → Option (List AV)
  | [] => some []
  | x :: r => (resV fr H x).bind fun a => (resL fr H r).bind fun l => some (a :: l)
def res (fr : Fr) (H : List AO) (l : List RV) : Option AV :=
  (resL fr H l).bind fun
    | [a] => some a
    | l => some (.tup l)
abbrev Ov := FuncId → Option (List AV → List AO → Option (R × List AO))
noncomputable def call (T : FuncId → Option F) (ov : Ov) (mt : TypeId → String → Option (FuncId × Option (Option Nat))) (md : FuncId → Md) : Nat → FuncId → List AV → List AO → Option (R × List AO)
  | 0, _, _, _ => none
  | k + 1, f, args, H => match ov f with
    | some G => G args H
    | none => (T f).bind fun F => bif args.length == F.np then
        (code (call T ov mt md k) mt md k F.body (initFr 0 args) H).bind fun s => match s.1 with
          | .ret => (res s.2.1 s.2.2 F.res).bind fun a => some (.ret a, s.2.2)
          | .normal => (res s.2.1 s.2.2 F.res).bind fun a => some (.ret a, s.2.2)
          | .pan a => some (.pan a, s.2.2)
          | .exit _ => none
      else none
end Go.Ai
namespace Go.Ai
structure G where
  S : Nat → Prop
  D : Nat → Prop
  ρ : Nat → Nat
  σ : Nat → Nat
  δ : Nat → Nat
inductive FV (S : Nat → Prop) (w : World) : AV → Value → Prop
  | any (v : Value) : FV S w .any v
  | lit (v : Value) : FV S w (.lit v) v
  | agg (xs : List AV) (vs : Array Value) (hl : xs.length = vs.size) (h : ∀ (i : Nat) (a : AV) (v : Value), xs[i]? = some a → vs[i]? = some v → FV S w a v) : FV S w (.agg xs) (.agg vs)
  | tup (xs : List AV) (vs : Array Value) (hl : xs.length = vs.size) (h : ∀ (i : Nat) (a : AV) (v : Value), xs[i]? = some a → vs[i]? = some v → FV S w a v) : FV S w (.tup xs) (.tuple vs)
  | iface (t : TypeId) (a : AV) (v : Value) (h : FV S w a v) : FV S w (.iface t a) (.iface t v)
  | fn (f : Fn) (xs ys : List AV) (vs us : Array Value) (hl : xs.length = vs.size) (h : ∀ (i : Nat) (a : AV) (v : Value), xs[i]? = some a → vs[i]? = some v → FV S w a v)
      (hl' : ys.length = us.size) (h' : ∀ (i : Nat) (a : AV) (v : Value), ys[i]? = some a → us[i]? = some v → FV S w a v) : FV S w (.fn f xs ys) (.func f vs us)
  | ip (xs : List AV) (ad : Addr) (f : Nat → Value) (hS : xs ≠ [] → S ad.block) (hc : ∀ k, k < xs.length → w.cell? (ad.add k) = some (f k)) (ho : ∀ k, k < xs.length → (f k).oneCell' = true)
      (h : ∀ (k : Nat) (a : AV), xs[k]? = some a → FV S w a (f k)) : FV S w (.ip xs) (.pointer (some ad))
  | sl (e : Nat) (xs : List (List AV)) (cap : Option Nat) (a : Option Addr) (c : Nat) (f : Nat → Nat → Value) (hn : xs.length ≤ c) (hcap : ∀ k, cap = some k → c = k)
      (he : ∀ x ∈ xs, x.length = e)
      (hc : xs ≠ [] → ∃ ad, a = some ad ∧ (0 < e → S ad.block) ∧ ∀ j k, j < xs.length → k < e → w.cell? (ad.add (j * e + k)) = some (f j k))
      (ho : ∀ j k, j < xs.length → k < e → (f j k).oneCell' = true)
      (h : ∀ (j : Nat) (x : List AV) (k : Nat) (b : AV), xs[j]? = some x → x[k]? = some b → FV S w b (f j k)) : FV S w (.sl e xs cap) (.slice a xs.length c)
inductive VR (g : G) (w : World) : AV → Value → Prop
  | fv (a : AV) (v : Value) (h : FV g.S w a v) : VR g w a v
  | agg (xs : List AV) (vs : Array Value) (hl : xs.length = vs.size) (h : ∀ (i : Nat) (a : AV) (v : Value), xs[i]? = some a → vs[i]? = some v → VR g w a v) : VR g w (.agg xs) (.agg vs)
  | tup (xs : List AV) (vs : Array Value) (hl : xs.length = vs.size) (h : ∀ (i : Nat) (a : AV) (v : Value), xs[i]? = some a → vs[i]? = some v → VR g w a v) : VR g w (.tup xs) (.tuple vs)
  | iface (t : TypeId) (a : AV) (v : Value) (h : VR g w a v) : VR g w (.iface t a) (.iface t v)
  | fn (f : Fn) (xs ys : List AV) (vs us : Array Value) (hl : xs.length = vs.size) (h : ∀ (i : Nat) (a : AV) (v : Value), xs[i]? = some a → vs[i]? = some v → VR g w a v)
      (hl' : ys.length = us.size) (h' : ∀ (i : Nat) (a : AV) (v : Value), ys[i]? = some a → us[i]? = some v → VR g w a v) : VR g w (.fn f xs ys) (.func f vs us)
  | ptr (r off : Nat) (hr : g.D r) : VR g w (.ptr r off) (.pointer (some ⟨g.ρ r, off + g.δ r, none⟩))
  | own (r off n e : Nat) (cap : Option Nat) (o c : Nat) (hr : g.D r) (hn : n ≤ c) (hcap : ∀ k, cap = some k → c = k) (ho : c ≠ 0 → o = off + g.δ r)
      (hs : c ≠ 0 → off + g.δ r + c * e ≤ g.σ r) : VR g w (.own r off n e cap) (.slice (some ⟨g.ρ r, o, none⟩) n c)
  | mpv (r : Nat) (hr : g.D r) : VR g w (.mpv r) (.map (some (g.ρ r)))
def VRs (g : G) (w : World) (xs : List AV) (vs : List Value) : Prop := xs.length = vs.length ∧ ∀ (i : Nat) (a : AV) (v : Value), xs[i]? = some a → vs[i]? = some v → VR g w a v
def FVs (S : Nat → Prop) (w : World) (xs : List AV) (vs : List Value) : Prop := xs.length = vs.length ∧ ∀ (i : Nat) (a : AV) (v : Value), xs[i]? = some a → vs[i]? = some v → FV S w a v
theorem FV.mono {S S' : Nat → Prop} {w w' : World} {a : AV} {v : Value} (h : FV S w a v) (hS : ∀ b, S b → S' b) (hw : ∀ b, S b → w'.heap[b]? = w.heap[b]?) : FV S' w' a v := by
  induction h with
  | any v => exact .any v
  | lit v => exact .lit v
  | agg xs vs hl _ ih => exact .agg xs vs hl ih
  | tup xs vs hl _ ih => exact .tup xs vs hl ih
  | iface t a v _ ih => exact .iface t a v ih
  | fn f xs ys vs us hl _ hl' _ ih ih' => exact .fn f xs ys vs us hl ih hl' ih'
  | ip xs ad f h1 hc ho _ ih =>
    refine .ip xs ad f (fun hx => hS _ (h1 hx)) (fun k hk => ?_) ho ih
    have hx : xs ≠ [] := by intro e; subst e; simp at hk
    rw [← hc k hk]
    refine World.cell?_of_block ?_
    have : (ad.add k).block = ad.block := by unfold Addr.add; split <;> rfl
    rw [this]; exact hw _ (h1 hx)
  | sl e xs cap a c f hn hcap he hc ho _ ih =>
    refine .sl e xs cap a c f hn hcap he (fun hx => ?_) ho ih
    obtain ⟨ad, rfl, h1, h2⟩ := hc hx
    refine ⟨ad, rfl, fun h => hS _ (h1 h), fun j k hj hk => ?_⟩
    rw [← h2 j k hj hk]
    refine World.cell?_of_block ?_
    have : (ad.add (j * e + k)).block = ad.block := by unfold Addr.add; split <;> rfl
    rw [this]; exact hw _ (h1 (by omega))
def AO.alive : AO → Bool
  | .dead => false
  | _ => true
def Live (H : List AO) (r : Nat) : Prop := ∃ o : AO, H[r]? = some o ∧ o.alive = true
structure Rel (g : G) (w : World) (H : List AO) : Prop where
  lt : ∀ b, g.S b → b < w.heap.size
  obj : ∀ r cs t, H[r]? = some (.row cs t) → ∃ arr, w.heap[g.ρ r]? = some (.cells arr t (0, 0)) ∧ arr.size = g.σ r ∧ cs.length + g.δ r ≤ arr.size ∧
    (∀ (j : Nat) (a : AV) (v : Value), cs[j]? = some a → arr[j + g.δ r]? = some v → VR g w a v) ∧ (∀ (j : Nat) (v : Value), arr[j]? = some v → v.oneCell' = true) ∧ ¬ g.S (g.ρ r)
  mob : ∀ r kvs, H[r]? = some (.mp kvs) → ∃ es clk, w.heap[g.ρ r]? = some (.map es clk) ∧ es.size = kvs.length ∧
    (∀ (i : Nat) (e : MapEntry) (k : Value) (a : AV), es[i]? = some e → kvs[i]? = some (k, a) → e.key = k ∧ VR g w a e.val) ∧ ¬ g.S (g.ρ r)
  inj : ∀ r r', Live H r → Live H r' → g.ρ r = g.ρ r' → r = r'
  dom : ∀ r, g.D r → r < H.length
  lv : ∀ r, Live H r → g.D r
structure Stp (g : G) (w : World) (H : List AO) (g' : G) (w' : World) (H' : List AO) : Prop where
  os : w'.os = w.os
  tape : w'.tape = w.tape
  output : w'.output = w.output
  size : w.heap.size ≤ w'.heap.size
  S : ∀ b, g.S b → g'.S b
  D : ∀ r, g.D r → g'.D r
  ρ : ∀ r, g.D r → g'.ρ r = g.ρ r
  σ : ∀ r, g.D r → g'.σ r = g.σ r
  δ : ∀ r, g.D r → g'.δ r = g.δ r
  keep : ∀ b, b < w.heap.size → (∀ r, Live H r → g.ρ r ≠ b) → w'.heap[b]? = w.heap[b]?
  frz : ∀ b, g.S b → w'.heap[b]? = w.heap[b]?
  live : ∀ r, Live H' r → (∃ r0, Live H r0 ∧ g.ρ r0 = g'.ρ r) ∨ w.heap.size ≤ g'.ρ r
  fro : ∀ b, g'.S b → g.S b ∨ (∃ r0, Live H r0 ∧ g.ρ r0 = b) ∨ w.heap.size ≤ b
theorem VR.mono {g g' : G} {w w' : World} {a : AV} {v : Value} (h : VR g w a v) (hS : ∀ b, g.S b → g'.S b) (hN : ∀ r, g.D r → g'.D r) (hρ : ∀ r, g.D r → g'.ρ r = g.ρ r)
    (hσ : ∀ r, g.D r → g'.σ r = g.σ r) (hδ : ∀ r, g.D r → g'.δ r = g.δ r) (hw : ∀ b, g.S b → w'.heap[b]? = w.heap[b]?) : VR g' w' a v := by
  induction h with
  | fv a v h => exact .fv a v (h.mono hS hw)
  | agg xs vs hl _ ih => exact .agg xs vs hl ih
  | tup xs vs hl _ ih => exact .tup xs vs hl ih
  | iface t a v _ ih => exact .iface t a v ih
  | fn f xs ys vs us hl _ hl' _ ih ih' => exact .fn f xs ys vs us hl ih hl' ih'
  | ptr r off hr => rw [← hρ r hr, ← hδ r hr]; exact .ptr r off (hN r hr)
  | mpv r hr => rw [← hρ r hr]; exact .mpv r (hN r hr)
  | own r off n e cap o c hr hn hcap ho hs => rw [← hρ r hr]; exact .own r off n e cap o c (hN r hr) hn hcap (by rw [hδ r hr]; exact ho) (by rw [hσ r hr, hδ r hr]; exact hs)
theorem Stp.vr {g g' : G} {w w' : World} {H H' : List AO} (s : Stp g w H g' w' H') {a : AV} {v : Value} (h : VR g w a v) : VR g' w' a v :=
  h.mono s.S s.D s.ρ s.σ s.δ s.frz
theorem Stp.refl {g : G} {w : World} {H : List AO} : Stp g w H g w H :=
  ⟨rfl, rfl, rfl, Nat.le_refl _, fun _ h => h, fun _ h => h, fun _ _ => rfl, fun _ _ => rfl, fun _ _ => rfl, fun _ _ _ => rfl, fun _ _ => rfl, fun r h => .inl ⟨r, h, rfl⟩, fun _ h => .inl h⟩
theorem Stp.trans {g g1 g2 : G} {w w1 w2 : World} {H H1 H2 : List AO} (a : Stp g w H g1 w1 H1) (b : Stp g1 w1 H1 g2 w2 H2) : Stp g w H g2 w2 H2 where
  os := b.os.trans a.os
  tape := b.tape.trans a.tape
  output := b.output.trans a.output
  size := Nat.le_trans a.size b.size
  S := fun x h => b.S x (a.S x h)
  D := fun r h => b.D r (a.D r h)
  ρ := fun r h => (b.ρ r (a.D r h)).trans (a.ρ r h)
  σ := fun r h => (b.σ r (a.D r h)).trans (a.σ r h)
  δ := fun r h => (b.δ r (a.D r h)).trans (a.δ r h)
  keep := fun x hx hl => by
    refine (b.keep x (Nat.lt_of_lt_of_le hx a.size) fun r hr e => ?_).trans (a.keep x hx hl)
    rcases a.live r hr with ⟨r0, h0, h1⟩ | h
    · exact hl r0 h0 (h1.trans e)
    · omega
  frz := fun x h => (b.frz x (a.S x h)).trans (a.frz x h)
  live := fun r hr => by
    rcases b.live r hr with ⟨r0, h0, h1⟩ | h
    · rcases a.live r0 h0 with ⟨r1, h2, h3⟩ | h
      · exact .inl ⟨r1, h2, h3.trans h1⟩
      · exact .inr (h1 ▸ h)
    · exact .inr (Nat.le_trans a.size h)
  fro := fun x hx => by
    rcases b.fro x hx with h | ⟨r0, h0, h1⟩ | h
    · exact a.fro x h
    · rcases a.live r0 h0 with ⟨r1, h2, h3⟩ | h
      · exact .inr (.inl ⟨r1, h2, h3.trans h1⟩)
      · exact .inr (.inr (h1 ▸ h))
    · exact .inr (.inr (Nat.le_trans a.size h))
def FRel (g : G) (w : World) (fr : Fr) (a : Act) : Prop := ∀ t, VR g w (get fr t) (a.tmps.getD t undef)
theorem FRel.step {g g' : G} {w w' : World} {H H' : List AO} {fr : Fr} {a : Act} (h : FRel g w fr a) (s : Stp g w H g' w' H') : FRel g' w' fr a := fun t => s.vr (h t)
theorem beq_of_ne {a b : Nat} (h : ¬ a = b) : (a == b) = false := by simpa using h
theorem get_put (fr : Fr) (t : Nat) (a : AV) (u : Nat) : get (put fr t a) u = if t = u then a else get fr u := by
  induction fr with
  | nil => simp only [Ai.put, get]; by_cases h : t = u <;> simp [h, beq_of_ne]
  | cons p r ih =>
    obtain ⟨k, b⟩ := p
    simp only [Ai.put]
    by_cases h1 : Nat.blt t k = true
    · rw [h1]; simp only [cond_true, get]
      by_cases h : t = u <;> simp [h, beq_of_ne]
    · rw [Bool.eq_false_iff.mpr h1]; simp only [cond_false]
      by_cases h2 : k = t
      · subst h2; simp only [beq_self_eq_true, cond_true, get]
        by_cases h : k = u <;> simp [h, beq_of_ne]
      · rw [beq_of_ne h2]; simp only [cond_false, get, ih]
        by_cases h : k = u
        · subst h; simp [Ne.symm h2]
        · simp [beq_of_ne h]
theorem FRel.put {g : G} {w : World} {fr : Fr} {a : Act} (h : FRel g w fr a) (d : Option Nat) (x : AV) (v : Value) (hv : VR g w x v) (hd : ∀ t, d = some t → t < a.tmps.size) :
    FRel g w (putD fr d x) (a.put d v) := by
  intro t
  cases d with
  | none => exact h t
  | some d =>
    simp only [putD, get_put, Act.put]
    have hd' := hd d rfl
    by_cases e : d = t
    · subst e; simp [hd', hv]
    · simp only [e, if_false]
      rw [Array.getD_eq_getD_getElem?, Array.getElem?_setIfInBounds_ne e, ← Array.getD_eq_getD_getElem?]; exact h t
theorem put_size (a : Act) (d : Option Nat) (v : Value) : (a.put d v).tmps.size = a.tmps.size := by cases d <;> simp [Act.put]
theorem put_defers (a : Act) (d : Option Nat) (v : Value) : (a.put d v).defers = a.defers := by cases d <;> simp [Act.put]
theorem get_keep (l : List Nat) (fr : Fr) (t : Nat) : get (keep l fr) t = get fr t ∨ get (keep l fr) t = .any := by
  induction fr with
  | nil => exact .inl rfl
  | cons p r ih =>
    obtain ⟨k, b⟩ := p
    unfold keep at ih ⊢
    simp only [List.filter_cons]
    by_cases hk : l.contains k = true
    · rw [if_pos hk]; simp only [get]
      by_cases e : k = t
      · simp [e]
      · rw [show (k == t) = false by simpa using e]; simp only [cond_false]; exact ih
    · rw [if_neg hk]; simp only [get]
      by_cases e : k = t
      · subst e
        right
        clear ih
        induction r with
        | nil => rfl
        | cons q r ih =>
          obtain ⟨k', b'⟩ := q
          simp only [List.filter_cons]
          by_cases hk' : l.contains k' = true
          · rw [if_pos hk']; simp only [get]
            have : k' ≠ k := by intro e; subst e; exact hk hk'
            rw [show (k' == k) = false by simpa using this]; exact ih
          · rw [if_neg hk']; exact ih
      · rw [show (k == t) = false by simpa using e]; simp only [cond_false]; exact ih
theorem FRel.keep {g : G} {w : World} {fr : Fr} {a : Act} (h : FRel g w fr a) (l : List Nat) : FRel g w (Ai.keep l fr) a := by
  intro t
  rcases get_keep l fr t with e | e
  · rw [e]; exact h t
  · rw [e]; exact .fv _ _ (.any _)
section
variable {g : G} {w : World} {u : Value}
theorem VR.lit_inv {v : Value} (h : VR g w (.lit v) u) : u = v := by
  cases h with
  | fv _ _ h => cases h; rfl
theorem VR.agg_inv {xs : List AV} (h : VR g w (.agg xs) u) : ∃ vs, u = .agg vs ∧ xs.length = vs.size ∧ ∀ (i : Nat) (a : AV) (v : Value), xs[i]? = some a → vs[i]? = some v → VR g w a v := by
  cases h with
  | fv _ _ h => cases h with
    | agg _ vs hl h => exact ⟨vs, rfl, hl, fun i a v h1 h2 => .fv _ _ (h i a v h1 h2)⟩
  | agg _ vs hl h => exact ⟨vs, rfl, hl, h⟩
theorem VR.tup_inv {xs : List AV} (h : VR g w (.tup xs) u) : ∃ vs, u = .tuple vs ∧ xs.length = vs.size ∧ ∀ (i : Nat) (a : AV) (v : Value), xs[i]? = some a → vs[i]? = some v → VR g w a v := by
  cases h with
  | fv _ _ h => cases h with
    | tup _ vs hl h => exact ⟨vs, rfl, hl, fun i a v h1 h2 => .fv _ _ (h i a v h1 h2)⟩
  | tup _ vs hl h => exact ⟨vs, rfl, hl, h⟩
theorem VR.iface_inv {t : TypeId} {a : AV} (h : VR g w (.iface t a) u) : ∃ v, u = .iface t v ∧ VR g w a v := by
  cases h with
  | fv _ _ h => cases h with
    | iface _ _ v h => exact ⟨v, rfl, .fv _ _ h⟩
  | iface _ _ v h => exact ⟨v, rfl, h⟩
theorem VR.fn_inv {f : Fn} {xs ys : List AV} (h : VR g w (.fn f xs ys) u) : ∃ vs us, u = .func f vs us ∧ xs.length = vs.size ∧ (∀ (i : Nat) (a : AV) (v : Value), xs[i]? = some a → vs[i]? = some v → VR g w a v) ∧
    ys.length = us.size ∧ (∀ (i : Nat) (a : AV) (v : Value), ys[i]? = some a → us[i]? = some v → VR g w a v) := by
  cases h with
  | fv _ _ h => cases h with
    | fn _ _ _ vs us hl h hl' h' => exact ⟨vs, us, rfl, hl, fun i a v h1 h2 => .fv _ _ (h i a v h1 h2), hl', fun i a v h1 h2 => .fv _ _ (h' i a v h1 h2)⟩
  | fn _ _ _ vs us hl h hl' h' => exact ⟨vs, us, rfl, hl, h, hl', h'⟩
theorem VR.ptr_inv {r off : Nat} (h : VR g w (.ptr r off) u) : u = .pointer (some ⟨g.ρ r, off + g.δ r, none⟩) ∧ g.D r := by
  cases h with
  | fv _ _ h => cases h
  | ptr _ _ hr => exact ⟨rfl, hr⟩
theorem VR.own_inv {r off n e : Nat} {cap : Option Nat} (h : VR g w (.own r off n e cap) u) : ∃ o c, u = .slice (some ⟨g.ρ r, o, none⟩) n c ∧ g.D r ∧ n ≤ c ∧ (∀ k, cap = some k → c = k) ∧
    (c ≠ 0 → o = off + g.δ r) ∧ (c ≠ 0 → off + g.δ r + c * e ≤ g.σ r) := by
  cases h with
  | fv _ _ h => cases h
  | own _ _ _ _ _ o c hr hn hcap ho hs => exact ⟨o, c, rfl, hr, hn, hcap, ho, hs⟩
theorem VR.mpv_inv {r : Nat} (h : VR g w (.mpv r) u) : u = .map (some (g.ρ r)) ∧ g.D r := by
  cases h with
  | fv _ _ h => cases h
  | mpv _ hr => exact ⟨rfl, hr⟩
theorem VR.ip_inv {xs : List AV} (h : VR g w (.ip xs) u) : ∃ ad, ∃ f : Nat → Value, u = .pointer (some ad) ∧ (xs ≠ [] → g.S ad.block) ∧ (∀ k, k < xs.length → w.cell? (ad.add k) = some (f k)) ∧ (∀ k, k < xs.length → (f k).oneCell' = true) ∧ (∀ (k : Nat) (a : AV), xs[k]? = some a → FV g.S w a (f k)) := by
  cases h with
  | fv _ _ h => cases h with
    | ip _ ad f h1 h2 h3 h4 => exact ⟨ad, f, rfl, h1, h2, h3, h4⟩
theorem VR.sl_inv {e : Nat} {xs : List (List AV)} {cap : Option Nat} (h : VR g w (.sl e xs cap) u) : ∃ a c, ∃ f : Nat → Nat → Value, u = .slice a xs.length c ∧ xs.length ≤ c ∧ (∀ k, cap = some k → c = k) ∧ (∀ x ∈ xs, x.length = e) ∧
    (xs ≠ [] → ∃ ad, a = some ad ∧ (0 < e → g.S ad.block) ∧ ∀ j k, j < xs.length → k < e → w.cell? (ad.add (j * e + k)) = some (f j k)) ∧
    (∀ j k, j < xs.length → k < e → (f j k).oneCell' = true) ∧
    (∀ (j : Nat) (x : List AV) (k : Nat) (b : AV), xs[j]? = some x → x[k]? = some b → FV g.S w b (f j k)) := by
  cases h with
  | fv _ _ h => cases h with
    | sl _ _ _ a c f h1 h2 h3 h4 h5 h6 => exact ⟨a, c, f, rfl, h1, h2, h3, h4, h5, h6⟩
end
theorem ofV_fv (S : Nat → Prop) (w : World) : ∀ (k : Nat) (v : Value), FV S w (ofV k v) v := by
  intro k
  induction k with
  | zero => intro v; exact .any v
  | succ k ih =>
    intro v
    have L : ∀ (cs : Array Value) (i : Nat) (a : AV) (v : Value), (cs.toList.map (ofV k))[i]? = some a → cs[i]? = some v → FV S w a v := by
      intro cs i a v h1 h2
      rw [List.getElem?_map, Array.getElem?_toList, h2] at h1
      simp only [Option.map_some, sI] at h1
      subst h1; exact ih v
    cases v with
    | agg cs => exact .agg _ _ (by simp) (L cs)
    | tuple cs => exact .tup _ _ (by simp) (L cs)
    | iface t v => exact .iface t _ _ (ih v)
    | func f a b => exact .fn f _ _ _ _ (by simp) (L a) (by simp) (L b)
    | slice a n c =>
      cases a with
      | some a => exact .lit _
      | none =>
        cases n with
        | succ n => exact .lit _
        | zero =>
          cases c with
          | succ c => exact .lit _
          | zero => exact .sl 0 [] (some 0) none 0 (fun _ _ => undef) (Nat.le_refl _) (fun k h => by cases h; rfl) (by simp) (by simp) (by simp) (by simp)
    | _ => exact .lit _
end Go.Ai
namespace Go.Ai
theorem add_none (b o m : Nat) : (⟨b, o, none⟩ : Addr).add m = ⟨b, o + m, none⟩ := by
  unfold Addr.add; split
  · rename_i h; subst h; rfl
  · rfl
theorem add_block (a : Addr) (m : Nat) : (a.add m).block = a.block := by unfold Addr.add; split <;> rfl
theorem add_add (a : Addr) (m n : Nat) : (a.add m).add n = a.add (m + n) := by
  unfold Addr.add
  by_cases hm : m = 0
  · subst hm; simp
  · by_cases hn : n = 0
    · subst hn; simp [hm]
    · simp [hm, hn, Nat.add_assoc]
theorem mapL_get {f : AV → Option (AV × List Nat)} : ∀ {xs : List AV} {ys : List AV} {ids : List Nat}, mapL f xs = some (ys, ids) →
    ys.length = xs.length ∧ (∀ (i : Nat) (a : AV), xs[i]? = some a → ∃ b is, f a = some (b, is) ∧ ys[i]? = some b ∧ ∀ r, r ∈ is → r ∈ ids) ∧
    (∀ r, r ∈ ids → ∃ (i : Nat) (a b : AV) (is : List Nat), xs[i]? = some a ∧ f a = some (b, is) ∧ r ∈ is)
  | [], ys, ids, h => by
    simp only [mapL, sI, Prod.mk.injEq] at h
    obtain ⟨rfl, rfl⟩ := h
    simp
  | x :: xs, ys, ids, h => by
    simp only [mapL] at h
    obtain ⟨⟨b, is⟩, h1, h⟩ := bO.1 h
    obtain ⟨⟨ys', ids'⟩, h2, h⟩ := bO.1 h
    simp only [sI, Prod.mk.injEq] at h
    obtain ⟨rfl, rfl⟩ := h
    obtain ⟨g1, g2, g3⟩ := mapL_get h2
    refine ⟨by simp [g1], fun i a ha => ?_, fun r hr => ?_⟩
    · cases i with
      | zero =>
        simp only [List.getElem?_cons_zero, sI] at ha
        subst ha
        exact ⟨b, is, h1, by simp, fun r hr => List.mem_append.2 (.inl hr)⟩
      | succ i =>
        simp only [List.getElem?_cons_succ] at ha ⊢
        obtain ⟨b', is', e1, e2, e3⟩ := g2 i a ha
        exact ⟨b', is', e1, e2, fun r hr => List.mem_append.2 (.inr (e3 r hr))⟩
    · rcases List.mem_append.1 hr with hr | hr
      · exact ⟨0, x, b, is, by simp, h1, hr⟩
      · obtain ⟨i, a, b', is', e1, e2, e3⟩ := g3 r hr
        exact ⟨i + 1, a, b', is', by simpa using e1, e2, e3⟩
theorem mapR_get {f : AV → Option (AV × List Nat)} {e : Nat} : ∀ {n : Nat} {cs : List AV} {xs : List (List AV)} {ids : List Nat}, mapR f e n cs = some (xs, ids) → n * e ≤ cs.length →
    xs.length = n ∧ (∀ x ∈ xs, x.length = e) ∧ (∀ (j k : Nat) (a : AV) (x : List AV), xs[j]? = some x → k < e → cs[j * e + k]? = some a → ∃ b is, f a = some (b, is) ∧ x[k]? = some b ∧ ∀ r, r ∈ is → r ∈ ids) ∧
    (∀ r, r ∈ ids → ∃ (i : Nat) (a b : AV) (is : List Nat), cs[i]? = some a ∧ f a = some (b, is) ∧ r ∈ is)
  | 0, cs, xs, ids, h, _ => by
    simp only [mapR, sI, Prod.mk.injEq] at h
    obtain ⟨rfl, rfl⟩ := h
    simp
  | n + 1, cs, xs, ids, h, hl => by
    simp only [mapR] at h
    obtain ⟨⟨y, is⟩, h1, h⟩ := bO.1 h
    obtain ⟨⟨ys', ids'⟩, h2, h⟩ := bO.1 h
    simp only [sI, Prod.mk.injEq] at h
    obtain ⟨rfl, rfl⟩ := h
    have hl' : e + n * e ≤ cs.length := by rw [Nat.add_mul] at hl; omega
    obtain ⟨g1, g2, g3, g4⟩ := mapR_get h2 (by simp; omega)
    obtain ⟨k1, k2, k3⟩ := mapL_get h1
    refine ⟨by simp [g1], ?_, fun j k a x hx hk ha => ?_, fun r hr => ?_⟩
    · intro x hx
      rcases List.mem_cons.1 hx with rfl | hx
      · rw [k1]; simp; omega
      · exact g2 x hx
    · cases j with
      | zero =>
        simp only [List.getElem?_cons_zero, sI] at hx
        subst hx
        simp only [Nat.zero_mul, Nat.zero_add] at ha
        obtain ⟨b, is', e1, e2, e3⟩ := k2 k a (by rw [List.getElem?_take, if_pos hk]; exact ha)
        exact ⟨b, is', e1, e2, fun r hr => List.mem_append.2 (.inl (e3 r hr))⟩
      | succ j =>
        simp only [List.getElem?_cons_succ] at hx
        have ha' : (cs.drop e)[j * e + k]? = some a := by
          rw [List.getElem?_drop, ← ha]; congr 1; rw [Nat.add_mul]; omega
        obtain ⟨b, is', e1, e2, e3⟩ := g3 j k a x hx hk ha'
        exact ⟨b, is', e1, e2, fun r hr => List.mem_append.2 (.inr (e3 r hr))⟩
    · rcases List.mem_append.1 hr with hr | hr
      · obtain ⟨i, a, b', is', e1, e2, e3⟩ := k3 r hr
        rw [List.getElem?_take] at e1
        split at e1
        · exact ⟨i, a, b', is', e1, e2, e3⟩
        · cases e1
      · obtain ⟨i, a, b', is', e1, e2, e3⟩ := g4 r hr
        rw [List.getElem?_drop] at e1
        exact ⟨e + i, a, b', is', e1, e2, e3⟩
def plus (g : G) (ids : List Nat) : Nat → Prop := fun b => g.S b ∨ ∃ r, r ∈ ids ∧ g.ρ r = b
theorem FV.weaken {S S' : Nat → Prop} {w : World} {a : AV} {v : Value} (h : FV S w a v) (hS : ∀ b, S b → S' b) : FV S' w a v := h.mono hS fun _ _ => rfl
theorem plus_le {g : G} {ids ids' : List Nat} (h : ∀ r, r ∈ ids → r ∈ ids') : ∀ b, plus g ids b → plus g ids' b := by
  rintro b (hb | ⟨r, hr, rfl⟩)
  · exact .inl hb
  · exact .inr ⟨r, h r hr, rfl⟩
theorem frz_list {g : G} {w : World} {H : List AO} {k : Nat}
    (ih : ∀ (a : AV) (v : Value) (b : AV) (ids : List Nat), VR g w a v → frz H k a = some (b, ids) → FV (plus g ids) w b v ∧ ∀ r, r ∈ ids → Live H r)
    {xs ys : List AV} {vs : Array Value} {ids : List Nat} (hl : xs.length = vs.size) (hv : ∀ (i : Nat) (a : AV) (v : Value), xs[i]? = some a → vs[i]? = some v → VR g w a v) (h : mapL (frz H k) xs = some (ys, ids)) :
    (ys.length = vs.size ∧ ∀ (i : Nat) (a : AV) (v : Value), ys[i]? = some a → vs[i]? = some v → FV (plus g ids) w a v) ∧ ∀ r, r ∈ ids → Live H r := by
  obtain ⟨h1, h2, h3⟩ := mapL_get h
  refine ⟨⟨h1.trans hl, fun i b v hb hvi => ?_⟩, fun r hr => ?_⟩
  · have hi : i < xs.length := by rw [← h1]; exact (List.getElem?_eq_some_iff.1 hb).1
    obtain ⟨b', is, e1, e2, e3⟩ := h2 i xs[i] (by simp [hi])
    rw [e2] at hb; cases hb
    exact (ih _ _ _ _ (hv i _ v (by simp [hi]) hvi) e1).1.weaken (plus_le e3)
  · obtain ⟨i, a, b, is, e1, e2, e3⟩ := h3 r hr
    have hi : i < vs.size := by rw [← hl]; exact (List.getElem?_eq_some_iff.1 e1).1
    exact (ih a vs[i] b is (hv i a _ e1 (by simp [hi])) e2).2 r e3
theorem cell_row {w : World} {b off : Nat} {arr : Array Value} {t : TypeId} {fz : Nat × Nat} (h : w.heap[b]? = some (.cells arr t fz)) : w.cell? ⟨b, off, none⟩ = arr[off]? := by simp [World.cell?, h]
theorem frz_sound {g : G} {w : World} {H : List AO} (R : Rel g w H) : ∀ (k : Nat) (a : AV) (v : Value) (b : AV) (ids : List Nat), VR g w a v → frz H k a = some (b, ids) → FV (plus g ids) w b v ∧ ∀ r, r ∈ ids → Live H r := by
  intro k
  induction k with
  | zero => intro a v b ids _ h; simp [frz] at h
  | succ k ih =>
    intro a v b ids hv h
    cases a with
    | any =>
      simp only [frz, sI, Prod.mk.injEq] at h
      obtain ⟨rfl, rfl⟩ := h
      exact ⟨.any _, by simp⟩
    | lit u =>
      simp only [frz, sI, Prod.mk.injEq] at h
      obtain ⟨rfl, rfl⟩ := h
      rw [hv.lit_inv]
      exact ⟨.lit _, by simp⟩
    | agg xs =>
      simp only [frz] at h
      obtain ⟨⟨ys, is⟩, h1, h⟩ := bO.1 h
      simp only [sI, Prod.mk.injEq] at h
      obtain ⟨rfl, rfl⟩ := h
      obtain ⟨vs, rfl, hl, hp⟩ := hv.agg_inv
      obtain ⟨⟨e1, e2⟩, e3⟩ := frz_list ih hl hp h1
      exact ⟨.agg _ _ e1 e2, e3⟩
    | tup xs =>
      simp only [frz] at h
      obtain ⟨⟨ys, is⟩, h1, h⟩ := bO.1 h
      simp only [sI, Prod.mk.injEq] at h
      obtain ⟨rfl, rfl⟩ := h
      obtain ⟨vs, rfl, hl, hp⟩ := hv.tup_inv
      obtain ⟨⟨e1, e2⟩, e3⟩ := frz_list ih hl hp h1
      exact ⟨.tup _ _ e1 e2, e3⟩
    | iface t x =>
      simp only [frz] at h
      obtain ⟨⟨y, is⟩, h1, h⟩ := bO.1 h
      simp only [sI, Prod.mk.injEq] at h
      obtain ⟨rfl, rfl⟩ := h
      obtain ⟨u, rfl, hu⟩ := hv.iface_inv
      obtain ⟨e1, e2⟩ := ih _ _ _ _ hu h1
      exact ⟨.iface _ _ _ e1, e2⟩
    | fn f xs zs =>
      simp only [frz] at h
      obtain ⟨⟨ys, is⟩, h1, h⟩ := bO.1 h
      obtain ⟨⟨ys', is'⟩, h2, h⟩ := bO.1 h
      simp only [sI, Prod.mk.injEq] at h
      obtain ⟨rfl, rfl⟩ := h
      obtain ⟨vs, us, rfl, hl, hp, hl', hp'⟩ := hv.fn_inv
      obtain ⟨⟨e1, e2⟩, e3⟩ := frz_list ih hl hp h1
      obtain ⟨⟨d1, d2⟩, d3⟩ := frz_list ih hl' hp' h2
      refine ⟨.fn f _ _ _ _ e1 (fun i a v h1 h2 => (e2 i a v h1 h2).weaken (plus_le fun r hr => List.mem_append.2 (.inl hr))) d1 (fun i a v h1 h2 => (d2 i a v h1 h2).weaken (plus_le fun r hr => List.mem_append.2 (.inr hr))), fun r hr => ?_⟩
      rcases List.mem_append.1 hr with hr | hr
      · exact e3 r hr
      · exact d3 r hr
    | ptr r off =>
      simp only [frz] at h
      cases hr : H[r]? with
      | none => rw [hr] at h; cases h
      | some ao =>
        rw [hr] at h
        cases ao with
        | dead => cases h
        | mp kvs => cases h
        | row cells t =>
          simp only at h
          by_cases hb : Nat.ble off cells.length = true
          case neg => rw [Bool.eq_false_iff.mpr hb] at h; cases h
          rw [hb] at h
          simp only [cond_true] at h
          have hb' : off ≤ cells.length := Nat.le_of_ble_eq_true hb
          obtain ⟨⟨xs, is⟩, h1, h⟩ := bO.1 h
          simp only [sI, Prod.mk.injEq] at h
          obtain ⟨rfl, rfl⟩ := h
          obtain ⟨rfl, hD⟩ := hv.ptr_inv
          obtain ⟨arr, a1, a3, a4, a5, a7, a6⟩ := R.obj r cells t hr
          obtain ⟨m1, m2, m3⟩ := mapL_get h1
          have hcell : ∀ i x, (cells.drop off)[i]? = some x → ∃ v, arr[off + i + g.δ r]? = some v ∧ VR g w x v := by
            intro i x hx
            rw [List.getElem?_drop] at hx
            have hi : off + i < cells.length := (List.getElem?_eq_some_iff.1 hx).1
            have hi' : off + i + g.δ r < arr.size := by omega
            exact ⟨arr[off + i + g.δ r], by simp [hi'], a5 _ _ _ hx (by simp [hi'])⟩
          have hlen : xs.length = cells.length - off := by rw [m1]; simp
          have hin : ∀ k, k < xs.length → off + k + g.δ r < arr.size := fun k hk => by omega
          constructor
          · refine FV.ip (S := plus g (r :: is)) (w := w) xs ⟨g.ρ r, off + g.δ r, none⟩ (fun k => (arr[off + k + g.δ r]?).getD undef) (fun _ => .inr ⟨r, by simp, rfl⟩) (fun k hk => ?_) (fun k hk => ?_) (fun k b hk => ?_)
            · rw [add_none, cell_row a1, show off + g.δ r + k = off + k + g.δ r by omega]
              simp [hin k hk]
            · rw [Array.getElem?_eq_getElem (hin k hk)]
              exact a7 (off + k + g.δ r) _ (by simp [hin k hk])
            · have hkx : k < xs.length := (List.getElem?_eq_some_iff.1 hk).1
              have hlt : k < (cells.drop off).length := by simp; omega
              obtain ⟨b', is', e1, e2, e3⟩ := m2 k (cells.drop off)[k] (by simp)
              rw [e2] at hk; cases hk
              obtain ⟨v, v1, v2⟩ := hcell k (cells.drop off)[k] (by simp)
              rw [v1]
              exact (ih _ _ _ _ v2 e1).1.weaken (plus_le fun r hr => List.mem_cons_of_mem _ (e3 r hr))
          · intro r' hr'
            rcases List.mem_cons.1 hr' with rfl | hr'
            · exact ⟨_, hr, rfl⟩
            · obtain ⟨i, a, b, is', e1, e2, e3⟩ := m3 r' hr'
              obtain ⟨v, v1, v2⟩ := hcell i a e1
              exact (ih _ _ _ _ v2 e2).2 r' e3
    | mpv r => simp [frz] at h
    | ip xs =>
      simp only [frz, sI, Prod.mk.injEq] at h
      obtain ⟨rfl, rfl⟩ := h
      cases hv with
      | fv _ _ hv => exact ⟨hv.weaken fun b h => .inl h, by simp⟩
    | sl e xs cap =>
      simp only [frz, sI, Prod.mk.injEq] at h
      obtain ⟨rfl, rfl⟩ := h
      cases hv with
      | fv _ _ hv => exact ⟨hv.weaken fun b h => .inl h, by simp⟩
    | own r off n e cap =>
      simp only [frz] at h
      cases hr : H[r]? with
      | none => rw [hr] at h; cases h
      | some ao =>
        rw [hr] at h
        cases ao with
        | dead => cases h
        | mp kvs => cases h
        | row cells t =>
          simp only at h
          by_cases hb : Nat.ble (off + n * e) cells.length = true
          case neg => rw [Bool.eq_false_iff.mpr hb] at h; cases h
          rw [hb] at h
          simp only [cond_true] at h
          have hb' : off + n * e ≤ cells.length := Nat.le_of_ble_eq_true hb
          obtain ⟨⟨xs, is⟩, h1, h⟩ := bO.1 h
          simp only [sI, Prod.mk.injEq] at h
          obtain ⟨rfl, rfl⟩ := h
          obtain ⟨o, c, rfl, hN, hn, hcap, ho, hs⟩ := hv.own_inv
          obtain ⟨arr, a1, a3, a4, a5, a7, a6⟩ := R.obj r cells t hr
          obtain ⟨m1, m2, m3, m4⟩ := mapR_get h1 (by simp; omega)
          have hcell : ∀ i x, (cells.drop off)[i]? = some x → ∃ v, arr[off + i + g.δ r]? = some v ∧ VR g w x v := by
            intro i x hx
            rw [List.getElem?_drop] at hx
            have hi : off + i < cells.length := (List.getElem?_eq_some_iff.1 hx).1
            have hi' : off + i + g.δ r < arr.size := by omega
            exact ⟨arr[off + i + g.δ r], by simp [hi'], a5 _ _ _ hx (by simp [hi'])⟩
          constructor
          · have := FV.sl (S := plus g (r :: is)) (w := w) e xs cap (some ⟨g.ρ r, o, none⟩) c (fun j k => (arr[off + (j * e + k) + g.δ r]?).getD undef) (by omega) hcap m2 ?_ ?_ ?_
            · rw [m1] at this; exact this
            · intro hx
              have hn0 : 0 < n := by rw [← m1]; exact List.length_pos_iff.2 hx
              have ho' := ho (by omega)
              subst ho'
              refine ⟨_, rfl, fun _ => .inr ⟨r, by simp, rfl⟩, fun j k hj hk => ?_⟩
              rw [add_none, cell_row a1]
              have e1 : off + g.δ r + (j * e + k) = off + (j * e + k) + g.δ r := by omega
              rw [e1]
              have : off + (j * e + k) + g.δ r < arr.size := by
                have h3 : (j + 1) * e ≤ n * e := Nat.mul_le_mul_right e (by omega)
                rw [Nat.add_mul] at h3; omega
              simp [this]
            · intro j k hj hk
              have : off + (j * e + k) + g.δ r < arr.size := by
                have h3 : (j + 1) * e ≤ n * e := Nat.mul_le_mul_right e (by omega)
                rw [Nat.add_mul] at h3; omega
              rw [Array.getElem?_eq_getElem this]
              exact a7 (off + (j * e + k) + g.δ r) _ (by simp [this])
            · intro j x k b hx hb2
              have hk : k < e := by rw [← m2 x (List.mem_of_getElem? hx)]; exact (List.getElem?_eq_some_iff.1 hb2).1
              have hj : j < n := by rw [← m1]; exact (List.getElem?_eq_some_iff.1 hx).1
              have h3 : (j + 1) * e ≤ n * e := Nat.mul_le_mul_right e (by omega)
              rw [Nat.add_mul] at h3
              have hlt : j * e + k < (cells.drop off).length := by simp; omega
              obtain ⟨b', is', e1, e2, e3⟩ := m3 j k (cells.drop off)[j * e + k] x hx hk (by simp)
              rw [e2] at hb2; cases hb2
              obtain ⟨v, v1, v2⟩ := hcell (j * e + k) (cells.drop off)[j * e + k] (by simp)
              rw [v1]
              exact (ih _ _ _ _ v2 e1).1.weaken (plus_le fun r hr => List.mem_cons_of_mem _ (e3 r hr))
          · intro r' hr'
            rcases List.mem_cons.1 hr' with rfl | hr'
            · exact ⟨_, hr, rfl⟩
            · obtain ⟨i, a, b, is', e1, e2, e3⟩ := m4 r' hr'
              obtain ⟨v, v1, v2⟩ := hcell i a e1
              exact (ih _ _ _ _ v2 e2).2 r' e3
theorem flat_fv {S S' : Nat → Prop} {w w' : World} : ∀ (k : Nat) (a : AV) (v : Value), flat k a = true → FV S w a v → FV S' w' a v := by
  intro k
  induction k with
  | zero => intro a v h; simp [flat] at h
  | succ k ih =>
    intro a v h hv
    have L : ∀ {xs : List AV}, xs.all (flat k) = true → ∀ {vs : Array Value}, (∀ (i : Nat) (a : AV) (v : Value), xs[i]? = some a → vs[i]? = some v → FV S w a v) → ∀ (i : Nat) (a : AV) (v : Value), xs[i]? = some a → vs[i]? = some v → FV S' w' a v :=
      fun hx _ hp i a v h1 h2 => ih a v (List.all_eq_true.1 hx a (List.mem_of_getElem? h1)) (hp i a v h1 h2)
    cases hv with
    | any => exact .any _
    | lit => exact .lit _
    | agg xs vs hl hp => simp only [flat] at h; exact .agg _ _ hl (L h hp)
    | tup xs vs hl hp => simp only [flat] at h; exact .tup _ _ hl (L h hp)
    | iface t a v hp => simp only [flat] at h; exact .iface _ _ _ (ih _ _ h hp)
    | fn f xs ys vs us hl hp hl' hp' =>
      simp only [flat, Bool.and_eq_true] at h
      exact .fn f _ _ _ _ hl (L h.1 hp) hl' (L h.2 hp')
    | ip => simp [flat] at h
    | sl e xs cap a c f h1 h2 h3 h4 h5 =>
      cases xs with
      | nil => exact .sl e [] cap a c f h1 h2 (by simp) (by simp) (by simp) (by simp)
      | cons => simp [flat] at h
theorem below_vr {g : G} {w : World} (n : Nat) : ∀ (k : Nat) (a : AV) (v : Value), below n k a = true → VR g w a v → VR { g with D := fun r => g.D r ∧ r < n } w a v := by
  intro k
  induction k with
  | zero => intro a v h; simp [below] at h
  | succ k ih =>
    intro a v h hv
    have L : ∀ {xs : List AV}, xs.all (below n k) = true → ∀ {vs : Array Value}, (∀ (i : Nat) (a : AV) (v : Value), xs[i]? = some a → vs[i]? = some v → VR g w a v) → ∀ (i : Nat) (a : AV) (v : Value), xs[i]? = some a → vs[i]? = some v → VR { g with D := fun r => g.D r ∧ r < n } w a v :=
      fun hx _ hp i a v h1 h2 => ih a v (List.all_eq_true.1 hx a (List.mem_of_getElem? h1)) (hp i a v h1 h2)
    cases hv with
    | fv _ _ hv => exact .fv _ _ hv
    | agg xs vs hl hp => simp only [below] at h; exact .agg _ _ hl (L h hp)
    | tup xs vs hl hp => simp only [below] at h; exact .tup _ _ hl (L h hp)
    | iface t a v hp => simp only [below] at h; exact .iface _ _ _ (ih _ _ h hp)
    | fn f xs ys vs us hl hp hl' hp' =>
      simp only [below, Bool.and_eq_true] at h
      exact .fn f _ _ _ _ hl (L h.1 hp) hl' (L h.2 hp')
    | ptr r off hr => simp only [below] at h; exact .ptr r off ⟨hr, by simpa [Nat.blt_eq] using h⟩
    | mpv r hr => simp only [below] at h; exact .mpv r ⟨hr, by simpa [Nat.blt_eq] using h⟩
    | own r off n e cap o c hr hn hcap ho hs => simp only [below] at h; exact .own r off n e cap o c ⟨hr, by simpa [Nat.blt_eq] using h⟩ hn hcap ho hs
abbrev lone (g : G) : G := { g with S := fun _ => False }
theorem mapL_same {f f' : AV → Option (AV × List Nat)} (h : ∀ a p, f a = some p → f' a = some p) : ∀ (xs : List AV) (p : List AV × List Nat), mapL f xs = some p → mapL f' xs = some p
  | [], p, e => e
  | x :: xs, p, e => by
    simp only [mapL] at e ⊢
    obtain ⟨q, h1, e⟩ := bO.1 e
    obtain ⟨q', h2, e⟩ := bO.1 e
    rw [h _ _ h1, mapL_same h xs _ h2]
    exact e
theorem mapR_same {f f' : AV → Option (AV × List Nat)} (h : ∀ a p, f a = some p → f' a = some p) (e : Nat) : ∀ (n : Nat) (cs : List AV) (p : List (List AV) × List Nat), mapR f e n cs = some p → mapR f' e n cs = some p
  | 0, cs, p, q => q
  | n + 1, cs, p, q => by
    simp only [mapR] at q ⊢
    obtain ⟨r, h1, q⟩ := bO.1 q
    obtain ⟨r', h2, q⟩ := bO.1 q
    rw [mapL_same h _ _ h1, Option.bind_some, mapR_same h e n _ _ h2]
    exact q
theorem frzO_frz {H : List AO} : ∀ (k : Nat) (a : AV) (p : AV × List Nat), frzO H k a = some p → frz H k a = some p := by
  intro k
  induction k with
  | zero => intro a p h; simp [frzO] at h
  | succ k ih =>
    intro a p h
    cases a with
    | any => exact h
    | lit v => exact h
    | agg xs => simp only [frzO, frz] at h ⊢; obtain ⟨q, h1, h⟩ := bO.1 h; rw [mapL_same ih _ _ h1]; exact h
    | tup xs => simp only [frzO, frz] at h ⊢; obtain ⟨q, h1, h⟩ := bO.1 h; rw [mapL_same ih _ _ h1]; exact h
    | iface t x => simp only [frzO, frz] at h ⊢; obtain ⟨q, h1, h⟩ := bO.1 h; rw [ih _ _ h1]; exact h
    | fn f xs zs => simp [frzO] at h
    | ptr r off => simp [frzO] at h
    | mpv r => simp [frzO] at h
    | ip xs => simp [frzO] at h
    | sl e xs cap =>
      cases xs with
      | cons x xs => simp [frzO] at h
      | nil => exact h
    | own r off n e cap =>
      simp only [frzO, frz] at h ⊢
      cases hr : H[r]? with
      | none => rw [hr] at h; cases h
      | some o =>
        rw [hr] at h
        cases o with
        | dead => cases h
        | mp kvs => cases h
        | row cs t =>
          simp only at h ⊢
          cases hb : Nat.ble (off + n * e) cs.length with
          | false => rw [hb] at h; cases h
          | true =>
            rw [hb] at h
            simp only [cond_true] at h ⊢
            obtain ⟨q, h1, h⟩ := bO.1 h
            rw [mapR_same ih _ _ _ _ h1]; exact h
theorem frzO_list {g : G} {w : World} {H : List AO} {k : Nat}
    (ih : ∀ (a : AV) (v : Value) (b : AV) (ids : List Nat), VR g w a v → frzO H k a = some (b, ids) → FV (plus (lone g) ids) w b v ∧ ∀ r, r ∈ ids → Live H r)
    {xs ys : List AV} {vs : Array Value} {ids : List Nat} (hl : xs.length = vs.size) (hv : ∀ (i : Nat) (a : AV) (v : Value), xs[i]? = some a → vs[i]? = some v → VR g w a v) (h : mapL (frzO H k) xs = some (ys, ids)) :
    (ys.length = vs.size ∧ ∀ (i : Nat) (a : AV) (v : Value), ys[i]? = some a → vs[i]? = some v → FV (plus (lone g) ids) w a v) ∧ ∀ r, r ∈ ids → Live H r := by
  obtain ⟨h1, h2, h3⟩ := mapL_get h
  refine ⟨⟨h1.trans hl, fun i b v hb hvi => ?_⟩, fun r hr => ?_⟩
  · have hi : i < xs.length := by rw [← h1]; exact (List.getElem?_eq_some_iff.1 hb).1
    obtain ⟨b', is, e1, e2, e3⟩ := h2 i xs[i] (by simp [hi])
    rw [e2] at hb; cases hb
    exact (ih _ _ _ _ (hv i _ v (by simp [hi]) hvi) e1).1.weaken (plus_le e3)
  · obtain ⟨i, a, b, is, e1, e2, e3⟩ := h3 r hr
    have hi : i < vs.size := by rw [← hl]; exact (List.getElem?_eq_some_iff.1 e1).1
    exact (ih a vs[i] b is (hv i a _ e1 (by simp [hi])) e2).2 r e3
theorem frzO_sound {g : G} {w : World} {H : List AO} (R : Rel g w H) : ∀ (k : Nat) (a : AV) (v : Value) (b : AV) (ids : List Nat), VR g w a v → frzO H k a = some (b, ids) → FV (plus (lone g) ids) w b v ∧ ∀ r, r ∈ ids → Live H r := by
  intro k
  induction k with
  | zero => intro a v b ids _ h; simp [frzO] at h
  | succ k ih =>
    intro a v b ids hv h
    cases a with
    | any =>
      simp only [frzO, sI, Prod.mk.injEq] at h
      obtain ⟨rfl, rfl⟩ := h
      exact ⟨.any _, by simp⟩
    | lit u =>
      simp only [frzO, sI, Prod.mk.injEq] at h
      obtain ⟨rfl, rfl⟩ := h
      rw [hv.lit_inv]
      exact ⟨.lit _, by simp⟩
    | agg xs =>
      simp only [frzO] at h
      obtain ⟨⟨ys, is⟩, h1, h⟩ := bO.1 h
      simp only [sI, Prod.mk.injEq] at h
      obtain ⟨rfl, rfl⟩ := h
      obtain ⟨vs, rfl, hl, hp⟩ := hv.agg_inv
      obtain ⟨⟨e1, e2⟩, e3⟩ := frzO_list ih hl hp h1
      exact ⟨.agg _ _ e1 e2, e3⟩
    | tup xs =>
      simp only [frzO] at h
      obtain ⟨⟨ys, is⟩, h1, h⟩ := bO.1 h
      simp only [sI, Prod.mk.injEq] at h
      obtain ⟨rfl, rfl⟩ := h
      obtain ⟨vs, rfl, hl, hp⟩ := hv.tup_inv
      obtain ⟨⟨e1, e2⟩, e3⟩ := frzO_list ih hl hp h1
      exact ⟨.tup _ _ e1 e2, e3⟩
    | iface t x =>
      simp only [frzO] at h
      obtain ⟨⟨y, is⟩, h1, h⟩ := bO.1 h
      simp only [sI, Prod.mk.injEq] at h
      obtain ⟨rfl, rfl⟩ := h
      obtain ⟨u, rfl, hu⟩ := hv.iface_inv
      obtain ⟨e1, e2⟩ := ih _ _ _ _ hu h1
      exact ⟨.iface _ _ _ e1, e2⟩
    | fn f xs zs => simp [frzO] at h
    | ptr r off => simp [frzO] at h
    | mpv r => simp [frzO] at h
    | ip xs => simp [frzO] at h
    | sl e xs cap =>
      cases xs with
      | cons x xs => simp [frzO] at h
      | nil =>
        simp only [frzO, sI, Prod.mk.injEq] at h
        obtain ⟨rfl, rfl⟩ := h
        cases hv with
        | fv _ _ hv => exact ⟨flat_fv 1 _ _ rfl hv, by simp⟩
    | own r off n e cap =>
      simp only [frzO] at h
      cases hr : H[r]? with
      | none => rw [hr] at h; cases h
      | some ao =>
        rw [hr] at h
        cases ao with
        | dead => cases h
        | mp kvs => cases h
        | row cells t =>
          simp only at h
          by_cases hb : Nat.ble (off + n * e) cells.length = true
          case neg => rw [Bool.eq_false_iff.mpr hb] at h; cases h
          rw [hb] at h
          simp only [cond_true] at h
          have hb' : off + n * e ≤ cells.length := Nat.le_of_ble_eq_true hb
          obtain ⟨⟨xs, is⟩, h1, h⟩ := bO.1 h
          simp only [sI, Prod.mk.injEq] at h
          obtain ⟨rfl, rfl⟩ := h
          obtain ⟨o, c, rfl, hN, hn, hcap, ho, hs⟩ := hv.own_inv
          obtain ⟨arr, a1, a3, a4, a5, a7, a6⟩ := R.obj r cells t hr
          obtain ⟨m1, m2, m3, m4⟩ := mapR_get h1 (by simp; omega)
          have hcell : ∀ i x, (cells.drop off)[i]? = some x → ∃ v, arr[off + i + g.δ r]? = some v ∧ VR g w x v := by
            intro i x hx
            rw [List.getElem?_drop] at hx
            have hi : off + i < cells.length := (List.getElem?_eq_some_iff.1 hx).1
            have hi' : off + i + g.δ r < arr.size := by omega
            exact ⟨arr[off + i + g.δ r], by simp [hi'], a5 _ _ _ hx (by simp [hi'])⟩
          constructor
          · have := FV.sl (S := plus (lone g) (r :: is)) (w := w) e xs cap (some ⟨g.ρ r, o, none⟩) c (fun j k => (arr[off + (j * e + k) + g.δ r]?).getD undef) (by omega) hcap m2 ?_ ?_ ?_
            · rw [m1] at this; exact this
            · intro hx
              have hn0 : 0 < n := by rw [← m1]; exact List.length_pos_iff.2 hx
              have ho' := ho (by omega)
              subst ho'
              refine ⟨_, rfl, fun _ => .inr ⟨r, by simp, rfl⟩, fun j k hj hk => ?_⟩
              rw [add_none, cell_row a1]
              have e1 : off + g.δ r + (j * e + k) = off + (j * e + k) + g.δ r := by omega
              rw [e1]
              have : off + (j * e + k) + g.δ r < arr.size := by
                have h3 : (j + 1) * e ≤ n * e := Nat.mul_le_mul_right e (by omega)
                rw [Nat.add_mul] at h3; omega
              simp [this]
            · intro j k hj hk
              have : off + (j * e + k) + g.δ r < arr.size := by
                have h3 : (j + 1) * e ≤ n * e := Nat.mul_le_mul_right e (by omega)
                rw [Nat.add_mul] at h3; omega
              rw [Array.getElem?_eq_getElem this]
              exact a7 (off + (j * e + k) + g.δ r) _ (by simp [this])
            · intro j x k b hx hb2
              have hk : k < e := by rw [← m2 x (List.mem_of_getElem? hx)]; exact (List.getElem?_eq_some_iff.1 hb2).1
              have hj : j < n := by rw [← m1]; exact (List.getElem?_eq_some_iff.1 hx).1
              have h3 : (j + 1) * e ≤ n * e := Nat.mul_le_mul_right e (by omega)
              rw [Nat.add_mul] at h3
              have hlt : j * e + k < (cells.drop off).length := by simp; omega
              obtain ⟨b', is', e1, e2, e3⟩ := m3 j k (cells.drop off)[j * e + k] x hx hk (by simp)
              rw [e2] at hb2; cases hb2
              obtain ⟨v, v1, v2⟩ := hcell (j * e + k) (cells.drop off)[j * e + k] (by simp)
              rw [v1]
              exact (ih _ _ _ _ v2 e1).1.weaken (plus_le fun r hr => List.mem_cons_of_mem _ (e3 r hr))
          · intro r' hr'
            rcases List.mem_cons.1 hr' with rfl | hr'
            · exact ⟨_, hr, rfl⟩
            · obtain ⟨i, a, b, is', e1, e2, e3⟩ := m4 r' hr'
              obtain ⟨v, v1, v2⟩ := hcell i a e1
              exact (ih _ _ _ _ v2 e2).2 r' e3
end Go.Ai
namespace Go.Ai
def setO (H : List AO) (id : Nat) (o : AO) : List AO := if id < H.length then H.set id o else H ++ [o]
theorem get_setO {H : List AO} {id : Nat} {o : AO} (h : id ≤ H.length) (r : Nat) : (setO H id o)[r]? = if r = id then some o else H[r]? := by
  unfold setO
  split
  · rename_i hlt
    rw [List.getElem?_set]
    by_cases e : id = r
    · subst e; simp [hlt]
    · simp [e, Ne.symm e]
  · have : id = H.length := by omega
    subst this
    rw [List.getElem?_append]
    by_cases e : r = H.length
    · subst e; simp
    · simp only [e, if_false]
      split
      · rfl
      · rename_i h1
        rw [List.getElem?_eq_none (l := H) (by omega), List.getElem?_eq_none (by simp; omega)]
theorem setO_len (H : List AO) (o : AO) : setO H H.length o = H ++ [o] := by simp [setO]
theorem setO_length {H : List AO} {id : Nat} {o : AO} (h : id ≤ H.length) : H.length ≤ (setO H id o).length ∧ id < (setO H id o).length := by
  unfold setO; split <;> simp <;> omega
theorem Live.of {H : List AO} {r : Nat} {cs : List AV} {t : TypeId} (h : H[r]? = some (.row cs t)) : Live H r := ⟨_, h, rfl⟩
theorem Live.ofm {H : List AO} {r : Nat} {kvs : List (Value × AV)} (h : H[r]? = some (.mp kvs)) : Live H r := ⟨_, h, rfl⟩
theorem Live.or {H : List AO} {r : Nat} (h : Live H r) : (∃ cs t, H[r]? = some (.row cs t)) ∨ ∃ kvs, H[r]? = some (.mp kvs) := by
  obtain ⟨o, h1, h2⟩ := h
  cases o with
  | dead => cases h2
  | row cs t => exact .inl ⟨cs, t, h1⟩
  | mp kvs => exact .inr ⟨kvs, h1⟩
theorem noLive {r : Nat} (h : Live ([] : List AO) r) : False := by
  obtain ⟨o, h, _⟩ := h; simp at h
theorem Rel.blt {g : G} {w : World} {H : List AO} (R : Rel g w H) {r : Nat} (h : Live H r) : g.ρ r < w.heap.size := by
  rcases h.or with ⟨cs, t, h⟩ | ⟨kvs, h⟩
  · obtain ⟨arr, h1, _⟩ := R.obj r cs t h
    exact (Array.getElem?_eq_some_iff.1 h1).1
  · obtain ⟨es, clk, h1, _⟩ := R.mob r kvs h
    exact (Array.getElem?_eq_some_iff.1 h1).1
theorem Rel.nS {g : G} {w : World} {H : List AO} (R : Rel g w H) {r : Nat} (h : Live H r) : ¬ g.S (g.ρ r) := by
  rcases h.or with ⟨cs, t, h⟩ | ⟨kvs, h⟩
  · obtain ⟨arr, _, _, _, _, _, h6⟩ := R.obj r cs t h
    exact h6
  · obtain ⟨es, clk, _, _, _, h6⟩ := R.mob r kvs h
    exact h6
theorem Rel.world {g : G} {w w' : World} {H : List AO} (R : Rel g w H) (hh : w'.heap = w.heap) : Rel g w' H where
  lt := by rw [hh]; exact R.lt
  obj := fun r cs t h => by
    obtain ⟨arr, h1, h3, h4, h5, h6, h7⟩ := R.obj r cs t h
    exact ⟨arr, by rw [hh]; exact h1, h3, h4, fun j a v ha hv => (h5 j a v ha hv).mono (fun _ h => h) (fun _ h => h) (fun _ _ => rfl) (fun _ _ => rfl) (fun _ _ => rfl) (fun _ _ => by rw [hh]), h6, h7⟩
  mob := fun r kvs h => by
    obtain ⟨es, clk, h1, h2, h3, h4⟩ := R.mob r kvs h
    exact ⟨es, clk, by rw [hh]; exact h1, h2, fun i e k a he hk => ⟨(h3 i e k a he hk).1, (h3 i e k a he hk).2.mono (fun _ h => h) (fun _ h => h) (fun _ _ => rfl) (fun _ _ => rfl) (fun _ _ => rfl) (fun _ _ => by rw [hh])⟩, h4⟩
  inj := R.inj
  dom := R.dom
  lv := R.lv
theorem Stp.world {g : G} {w w' : World} {H : List AO} (hh : w'.heap = w.heap) (ho : w'.os = w.os) (ht : w'.tape = w.tape) (hp : w'.output = w.output) : Stp g w H g w' H :=
  ⟨ho, ht, hp, by rw [hh]; exact Nat.le_refl _, fun _ h => h, fun _ h => h, fun _ _ => rfl, fun _ _ => rfl, fun _ _ => rfl, fun _ _ _ => by rw [hh], fun _ _ => by rw [hh], fun r h => .inl ⟨r, h, rfl⟩, fun _ h => .inl h⟩
theorem heap_alloc_lt (w : World) (o : Obj) {b : Nat} (h : b < w.heap.size) : (w.alloc o).heap[b]? = w.heap[b]? := by
  show (w.heap.push o)[b]? = _
  rw [Array.getElem?_push, if_neg (by omega)]
theorem heap_alloc_at (w : World) (o : Obj) : (w.alloc o).heap[w.heap.size]? = some o := by
  show (w.heap.push o)[w.heap.size]? = _
  simp
def G.newD (g : G) (id b n d : Nat) : G := ⟨g.S, fun r => g.D r ∨ r = id, fun r => if r = id then b else g.ρ r, fun r => if r = id then n else g.σ r, fun r => if r = id then d else g.δ r⟩
def G.new (g : G) (id b n : Nat) : G := ⟨g.S, fun r => g.D r ∨ r = id, fun r => if r = id then b else g.ρ r, fun r => if r = id then n else g.σ r, fun r => if r = id then 0 else g.δ r⟩
theorem G.ne {g : G} {id r : Nat} (hd : ¬ g.D id) (hr : g.D r) : ¬ r = id := fun e => hd (e ▸ hr)
theorem G.new_vr {g : G} {w w' : World} {id b n : Nat} (hd : ¬ g.D id) (hw : ∀ b, g.S b → w'.heap[b]? = w.heap[b]?) {a : AV} {v : Value} (h : VR g w a v) : VR (g.new id b n) w' a v :=
  h.mono (fun _ h => h) (fun _ h => .inl h) (fun r hr => by simp only [G.new]; rw [if_neg (G.ne hd hr)]) (fun r hr => by simp only [G.new]; rw [if_neg (G.ne hd hr)]) (fun r hr => by simp only [G.new]; rw [if_neg (G.ne hd hr)]) hw
theorem G.newD_vr {g : G} {w w' : World} {id b n d : Nat} (hd : ¬ g.D id) (hw : ∀ b, g.S b → w'.heap[b]? = w.heap[b]?) {a : AV} {v : Value} (h : VR g w a v) : VR (g.newD id b n d) w' a v :=
  h.mono (fun _ h => h) (fun _ h => .inl h) (fun r hr => by simp only [G.newD]; rw [if_neg (G.ne hd hr)]) (fun r hr => by simp only [G.newD]; rw [if_neg (G.ne hd hr)]) (fun r hr => by simp only [G.newD]; rw [if_neg (G.ne hd hr)]) hw
theorem Rel.new {g : G} {w : World} {H : List AO} {id : Nat} {cs : List AV} {t : TypeId} {arr : Array Value} (R : Rel g w H) (hid : id ≤ H.length) (hd : ¬ g.D id) (hl : cs.length ≤ arr.size)
    (hv : ∀ (j : Nat) (a : AV) (v : Value), cs[j]? = some a → arr[j]? = some v → VR g w a v) (h1 : ∀ (j : Nat) (v : Value), arr[j]? = some v → v.oneCell' = true) :
    Rel (g.new id w.heap.size arr.size) (w.alloc (.cells arr t)) (setO H id (.row cs t)) ∧ Stp g w H (g.new id w.heap.size arr.size) (w.alloc (.cells arr t)) (setO H id (.row cs t)) := by
  have hw : ∀ b, g.S b → (w.alloc (.cells arr t)).heap[b]? = w.heap[b]? := fun b hb => heap_alloc_lt _ _ (R.lt b hb)
  have hG := get_setO (o := .row cs t) hid
  have hL : ∀ r, Live (setO H id (.row cs t)) r → r = id ∨ (r ≠ id ∧ Live H r) := by
    rintro r ⟨o, h, ha⟩
    rw [hG] at h
    by_cases e : r = id
    · exact .inl e
    · rw [if_neg e] at h; exact .inr ⟨e, o, h, ha⟩
  constructor
  · refine ⟨fun b hb => ?_, fun r c u h => ?_, fun r kvs h => ?_, fun r r' hr hr' e => ?_, fun r hr => ?_, fun r hr => ?_⟩
    · simp; exact Nat.lt_succ_of_lt (R.lt b hb)
    · rw [hG] at h
      by_cases e : r = id
      · rw [if_pos e] at h
        simp only [sI, AO.row.injEq] at h
        obtain ⟨rfl, rfl⟩ := h
        subst e
        refine ⟨arr, by simp only [G.new, if_true]; exact heap_alloc_at _ _, by simp [G.new], by simpa [G.new] using hl, fun j a v ha hv' => G.new_vr hd hw (hv j a v ha (by simpa [G.new] using hv')), h1, ?_⟩
        simp only [G.new, if_true]
        exact fun h => Nat.lt_irrefl _ (R.lt _ h)
      · rw [if_neg e] at h
        obtain ⟨arr', g1, g3, g4, g5, g6, g7⟩ := R.obj r c u h
        have hb := R.blt (.of h)
        refine ⟨arr', ?_, ?_, by simpa only [G.new, if_neg e] using g4, fun j a v ha hv' => G.new_vr hd hw (g5 j a v ha (by simpa only [G.new, if_neg e] using hv')), g6, ?_⟩
        · simp only [G.new, if_neg e]; rw [heap_alloc_lt _ _ hb]; exact g1
        · simp only [G.new, if_neg e]; exact g3
        · simp only [G.new, if_neg e]; exact g7
    · rw [hG] at h
      by_cases e : r = id
      · rw [if_pos e] at h; cases h
      · rw [if_neg e] at h
        obtain ⟨es, clk, g1, g3, g4, g7⟩ := R.mob r kvs h
        refine ⟨es, clk, ?_, g3, fun i e' k a he hk => ⟨(g4 i e' k a he hk).1, G.new_vr hd hw (g4 i e' k a he hk).2⟩, ?_⟩
        · simp only [G.new, if_neg e]; rw [heap_alloc_lt _ _ (R.blt (.ofm h))]; exact g1
        · simp only [G.new, if_neg e]; exact g7
    · rcases hL r hr with rfl | ⟨e1, l1⟩ <;> rcases hL r' hr' with rfl | ⟨e2, l2⟩
      · rfl
      · simp only [G.new, if_true, if_neg e2] at e; have := R.blt l2; omega
      · simp only [G.new, if_true, if_neg e1] at e; have := R.blt l1; omega
      · simp only [G.new, if_neg e1, if_neg e2] at e; exact R.inj r r' l1 l2 e
    · rcases hr with hr | rfl
      · exact Nat.lt_of_lt_of_le (R.dom r hr) (setO_length hid).1
      · exact (setO_length hid).2
    · rcases hL r hr with rfl | ⟨e1, l1⟩
      · exact .inr rfl
      · exact .inl (R.lv r l1)
  · refine ⟨rfl, rfl, rfl, by simp, fun _ h => h, fun _ h => .inl h, fun r hr => ?_, fun r hr => ?_, fun r hr => ?_, fun b hb _ => heap_alloc_lt _ _ hb, hw, fun r hr => ?_, fun b h => .inl h⟩
    · simp only [G.new]; rw [if_neg (G.ne hd hr)]
    · simp only [G.new]; rw [if_neg (G.ne hd hr)]
    · simp only [G.new]; rw [if_neg (G.ne hd hr)]
    · rcases hL r hr with rfl | ⟨e1, l1⟩
      · exact .inr (by simp [G.new])
      · exact .inl ⟨r, l1, by simp [G.new, e1]⟩
theorem Rel.adopt {g g1 : G} {w w' : World} {H : List AO} {id b d : Nat} {cs : List AV} {t : TypeId} {arr : Array Value} (R : Rel g1 w' H) (st : Stp g w H g1 w' H) (hid : id ≤ H.length) (hd : ¬ g1.D id) (hb : w.heap.size ≤ b) (ho : ∀ r, Live H r → g1.ρ r < w.heap.size)
    (hblk : w'.heap[b]? = some (.cells arr t (0, 0))) (hl : cs.length + d ≤ arr.size) (hS : ¬ g1.S b)
    (hv : ∀ (j : Nat) (a : AV) (v : Value), cs[j]? = some a → arr[j + d]? = some v → VR g1 w' a v) (h1 : ∀ (j : Nat) (v : Value), arr[j]? = some v → v.oneCell' = true) :
    Rel (g1.newD id b arr.size d) w' (setO H id (.row cs t)) ∧ Stp g w H (g1.newD id b arr.size d) w' (setO H id (.row cs t)) := by
  have hw : ∀ b, g1.S b → w'.heap[b]? = w'.heap[b]? := fun b hb => rfl
  have hG := get_setO (o := .row cs t) hid
  have hL : ∀ r, Live (setO H id (.row cs t)) r → r = id ∨ (r ≠ id ∧ Live H r) := by
    rintro r ⟨o, h, ha⟩
    rw [hG] at h
    by_cases e : r = id
    · exact .inl e
    · rw [if_neg e] at h; exact .inr ⟨e, o, h, ha⟩
  constructor
  · refine ⟨fun b hb => R.lt b hb, fun r c u h => ?_, fun r kvs h => ?_, fun r r' hr hr' e => ?_, fun r hr => ?_, fun r hr => ?_⟩
    · rw [hG] at h
      by_cases e : r = id
      · rw [if_pos e] at h
        simp only [sI, AO.row.injEq] at h
        obtain ⟨rfl, rfl⟩ := h
        subst e
        refine ⟨arr, by simp only [G.newD, if_true]; exact hblk, by simp [G.newD], by simpa [G.newD] using hl, fun j a v ha hv' => G.newD_vr hd hw (hv j a v ha (by simpa [G.newD] using hv')), h1, ?_⟩
        simp only [G.newD, if_true]
        exact hS
      · rw [if_neg e] at h
        obtain ⟨arr', g1, g3, g4, g5, g6, g7⟩ := R.obj r c u h
        refine ⟨arr', ?_, ?_, by simpa only [G.newD, if_neg e] using g4, fun j a v ha hv' => G.newD_vr hd hw (g5 j a v ha (by simpa only [G.newD, if_neg e] using hv')), g6, ?_⟩
        · simp only [G.newD, if_neg e]; exact g1
        · simp only [G.newD, if_neg e]; exact g3
        · simp only [G.newD, if_neg e]; exact g7
    · rw [hG] at h
      by_cases e : r = id
      · rw [if_pos e] at h; cases h
      · rw [if_neg e] at h
        obtain ⟨es, clk, g1, g3, g4, g7⟩ := R.mob r kvs h
        refine ⟨es, clk, ?_, g3, fun i e' k a he hk => ⟨(g4 i e' k a he hk).1, G.newD_vr hd hw (g4 i e' k a he hk).2⟩, ?_⟩
        · simp only [G.newD, if_neg e]; exact g1
        · simp only [G.newD, if_neg e]; exact g7
    · rcases hL r hr with rfl | ⟨e1, l1⟩ <;> rcases hL r' hr' with rfl | ⟨e2, l2⟩
      · rfl
      · simp only [G.newD, if_true, if_neg e2] at e; have := ho r' l2; omega
      · simp only [G.newD, if_true, if_neg e1] at e; have := ho r l1; omega
      · simp only [G.newD, if_neg e1, if_neg e2] at e; exact R.inj r r' l1 l2 e
    · rcases hr with hr | rfl
      · exact Nat.lt_of_lt_of_le (R.dom r hr) (setO_length hid).1
      · exact (setO_length hid).2
    · rcases hL r hr with rfl | ⟨e1, l1⟩
      · exact .inr rfl
      · exact .inl (R.lv r l1)
  · refine ⟨st.os, st.tape, st.output, st.size, st.S, fun r h => .inl (st.D r h), fun r hr => ?_, fun r hr => ?_, fun r hr => ?_, st.keep, st.frz, fun r hr => ?_, st.fro⟩
    · simp only [G.newD]; rw [if_neg (G.ne hd (st.D r hr))]; exact st.ρ r hr
    · simp only [G.newD]; rw [if_neg (G.ne hd (st.D r hr))]; exact st.σ r hr
    · simp only [G.newD]; rw [if_neg (G.ne hd (st.D r hr))]; exact st.δ r hr
    · rcases hL r hr with rfl | ⟨e1, l1⟩
      · exact .inr (by simp [G.newD, hb])
      · have := st.live r l1
        simp only [G.newD, if_neg e1]
        exact this
theorem Rel.frozen {g : G} {w : World} {H : List AO} (o : Obj) (R : Rel g w H) :
    Rel { g with S := fun b => g.S b ∨ b = w.heap.size } (w.alloc o) H ∧ Stp g w H { g with S := fun b => g.S b ∨ b = w.heap.size } (w.alloc o) H := by
  have hw : ∀ b, g.S b → (w.alloc o).heap[b]? = w.heap[b]? := fun b hb => heap_alloc_lt _ _ (R.lt b hb)
  constructor
  · refine ⟨fun b hb => ?_, fun r c u h => ?_, fun r kvs h => ?_, R.inj, R.dom, R.lv⟩
    · simp
      rcases hb with hb | rfl
      · exact Nat.lt_succ_of_lt (R.lt b hb)
      · exact Nat.lt_succ_self _
    · obtain ⟨arr', g1, g3, g4, g5, g6, g7⟩ := R.obj r c u h
      have hb := R.blt (.of h)
      refine ⟨arr', by rw [heap_alloc_lt _ _ hb]; exact g1, g3, g4, fun j a v ha hv' => (g5 j a v ha hv').mono (fun _ h => .inl h) (fun _ h => h) (fun _ _ => rfl) (fun _ _ => rfl) (fun _ _ => rfl) hw, g6, ?_⟩
      rintro (h | h)
      · exact g7 h
      · simp only at h; omega
    · obtain ⟨es, clk, g1, g3, g4, g7⟩ := R.mob r kvs h
      have hb := R.blt (.ofm h)
      refine ⟨es, clk, by rw [heap_alloc_lt _ _ hb]; exact g1, g3, fun i e k a he hk => ⟨(g4 i e k a he hk).1, (g4 i e k a he hk).2.mono (fun _ h => .inl h) (fun _ h => h) (fun _ _ => rfl) (fun _ _ => rfl) (fun _ _ => rfl) hw⟩, ?_⟩
      rintro (h | h)
      · exact g7 h
      · simp only at h; omega
  · refine ⟨rfl, rfl, rfl, by simp, fun _ h => .inl h, fun _ h => h, fun _ _ => rfl, fun _ _ => rfl, fun _ _ => rfl, fun b hb _ => heap_alloc_lt _ _ hb, hw, fun r hr => .inl ⟨r, hr, rfl⟩, fun b h => ?_⟩
    rcases h with h | rfl
    · exact .inl h
    · exact .inr (.inr (Nat.le_refl _))
theorem get_set {H : List AO} {r : Nat} {o : AO} (h : r < H.length) (q : Nat) : (H.set r o)[q]? = if q = r then some o else H[q]? := by
  rw [List.getElem?_set]
  by_cases e : r = q
  · subst e; simp [h]
  · simp [e, Ne.symm e]
theorem Live.lt {H : List AO} {r : Nat} (h : Live H r) : r < H.length := by
  obtain ⟨o, h, _⟩ := h
  exact (List.getElem?_eq_some_iff.1 h).1
theorem Rel.write {g : G} {w w' : World} {H : List AO} {r : Nat} {cs cs' : List AV} {t t' : TypeId} {arr' : Array Value} (R : Rel g w H) (hr : H[r]? = some (.row cs t))
    (ho : w'.os = w.os) (htp : w'.tape = w.tape) (hop : w'.output = w.output) (hsz : w'.heap.size = w.heap.size)
    (hb : w'.heap[g.ρ r]? = some (.cells arr' t' (0, 0))) (hsize : arr'.size = g.σ r) (hl : cs'.length + g.δ r ≤ arr'.size)
    (hv : ∀ (j : Nat) (a : AV) (v : Value), cs'[j]? = some a → arr'[j + g.δ r]? = some v → VR g w a v) (h1 : ∀ (j : Nat) (v : Value), arr'[j]? = some v → v.oneCell' = true)
    (hk : ∀ b, b ≠ g.ρ r → w'.heap[b]? = w.heap[b]?) : Rel g w' (H.set r (.row cs' t')) ∧ Stp g w H g w' (H.set r (.row cs' t')) := by
  have hlv : Live H r := .of hr
  have hS : ∀ b, g.S b → w'.heap[b]? = w.heap[b]? := fun b h => hk b (fun e => R.nS hlv (e ▸ h))
  have hm : ∀ {a : AV} {v : Value}, VR g w a v → VR g w' a v := fun h => h.mono (fun _ h => h) (fun _ h => h) (fun _ _ => rfl) (fun _ _ => rfl) (fun _ _ => rfl) hS
  have hL : ∀ q, Live (H.set r (.row cs' t')) q → Live H q := by
    rintro q ⟨o, h, ha⟩
    rw [get_set hlv.lt] at h
    by_cases e : q = r
    · subst e; exact hlv
    · rw [if_neg e] at h; exact ⟨o, h, ha⟩
  constructor
  · refine ⟨fun b h => by rw [hsz]; exact R.lt b h, fun q c u h => ?_, fun q kvs h => ?_, fun q q' hq hq' e => R.inj q q' (hL q hq) (hL q' hq') e, fun q hq => by rw [List.length_set]; exact R.dom q hq, fun q hq => R.lv q (hL q hq)⟩
    · rw [get_set hlv.lt] at h
      by_cases e : q = r
      · rw [if_pos e] at h
        simp only [sI, AO.row.injEq] at h
        obtain ⟨rfl, rfl⟩ := h
        subst e
        exact ⟨arr', hb, hsize, hl, fun j a v ha hv' => hm (hv j a v ha hv'), h1, R.nS hlv⟩
      · rw [if_neg e] at h
        obtain ⟨arr, g1, g3, g4, g5, g6, g7⟩ := R.obj q c u h
        refine ⟨arr, ?_, g3, g4, fun j a v ha hv' => hm (g5 j a v ha hv'), g6, g7⟩
        rw [hk _ (fun e' => e (R.inj q r (.of h) hlv e'))]; exact g1
    · rw [get_set hlv.lt] at h
      by_cases e : q = r
      · rw [if_pos e] at h; cases h
      · rw [if_neg e] at h
        obtain ⟨es, clk, g1, g3, g4, g7⟩ := R.mob q kvs h
        refine ⟨es, clk, ?_, g3, fun i e' k a he hk' => ⟨(g4 i e' k a he hk').1, hm (g4 i e' k a he hk').2⟩, g7⟩
        rw [hk _ (fun e' => e (R.inj q r (.ofm h) hlv e'))]; exact g1
  · exact ⟨ho, htp, hop, by omega, fun _ h => h, fun _ h => h, fun _ _ => rfl, fun _ _ => rfl, fun _ _ => rfl, fun b _ h => hk b (fun e => h r hlv e.symm), hS, fun q hq => .inl ⟨q, hL q hq, rfl⟩, fun b h => .inl h⟩
theorem Rel.move {g : G} {w w' : World} {H : List AO} {r b d : Nat} {cs cs' : List AV} {t t' : TypeId} {arr' : Array Value} (R : Rel g w H) (hr : H[r]? = some (.row cs t))
    (ho : w'.os = w.os) (htp : w'.tape = w.tape) (hop : w'.output = w.output) (hsz : w.heap.size ≤ w'.heap.size) (hbb : b = g.ρ r ∨ w.heap.size ≤ b)
    (hb : w'.heap[b]? = some (.cells arr' t' (0, 0))) (hl : cs'.length + d ≤ arr'.size)
    (hv : ∀ (j : Nat) (a : AV) (v : Value), cs'[j]? = some a → arr'[j + d]? = some v → VR g w a v) (h1 : ∀ (j : Nat) (v : Value), arr'[j]? = some v → v.oneCell' = true)
    (hk : ∀ b, b < w.heap.size → b ≠ g.ρ r → w'.heap[b]? = w.heap[b]?) :
    Rel (g.newD H.length b arr'.size d) w' (H.set r .dead ++ [.row cs' t']) ∧ Stp g w H (g.newD H.length b arr'.size d) w' (H.set r .dead ++ [.row cs' t']) := by
  have hlv : Live H r := .of hr
  have hdd : ¬ g.D H.length := fun h => Nat.lt_irrefl _ (R.dom _ h)
  have hS : ∀ b, g.S b → w'.heap[b]? = w.heap[b]? := fun b h => hk b (R.lt b h) (fun e => R.nS hlv (e ▸ h))
  have hm : ∀ {a : AV} {v : Value}, VR g w a v → VR (g.newD H.length b arr'.size d) w' a v := fun h => G.newD_vr hdd hS h
  have hG : ∀ q, (H.set r .dead ++ [.row cs' t'])[q]? = if q = H.length then some (.row cs' t') else if q = r then some .dead else H[q]? := by
    intro q
    rw [List.getElem?_append, List.length_set]
    split
    · rw [get_set hlv.lt, if_neg (by omega : ¬ q = H.length)]
    · by_cases e : q = H.length
      · subst e; simp
      · rw [if_neg e, if_neg (fun e' => by have := hlv.lt; omega), List.getElem?_eq_none (l := H) (by omega), List.getElem?_eq_none (by simp; omega)]
  have hL : ∀ q, Live (H.set r .dead ++ [.row cs' t']) q → q = H.length ∨ (q ≠ H.length ∧ q ≠ r ∧ Live H q) := by
    rintro q ⟨o, h, ha⟩
    rw [hG] at h
    by_cases e : q = H.length
    · exact .inl e
    · rw [if_neg e] at h
      by_cases e' : q = r
      · rw [if_pos e'] at h; simp only [sI] at h; subst h; cases ha
      · rw [if_neg e'] at h; exact .inr ⟨e, e', o, h, ha⟩
  have hbq : ∀ q, q ≠ r → Live H q → b ≠ g.ρ q := by
    intro q hq hl' e
    rcases hbb with h | h
    · exact hq (R.inj q r hl' hlv (e.symm.trans h))
    · have := R.blt hl'; omega
  constructor
  · refine ⟨fun b h => Nat.lt_of_lt_of_le (R.lt b h) hsz, fun q c u h => ?_, fun q kvs h => ?_, fun q q' hq hq' e => ?_, fun q hq => ?_, fun q hq => ?_⟩
    · rw [hG] at h
      by_cases e : q = H.length
      · rw [if_pos e] at h
        simp only [sI, AO.row.injEq] at h
        obtain ⟨rfl, rfl⟩ := h
        subst e
        refine ⟨arr', by simpa [G.newD] using hb, by simp [G.newD], by simpa [G.newD] using hl, fun j a v ha hv' => hm (hv j a v ha (by simpa [G.newD] using hv')), h1, ?_⟩
        simp only [G.newD, if_true]
        intro hs
        rcases hbb with h | h
        · exact R.nS hlv (h ▸ hs)
        · have := R.lt b hs; omega
      · rw [if_neg e] at h
        by_cases e' : q = r
        · rw [if_pos e'] at h; cases h
        rw [if_neg e'] at h
        obtain ⟨arr, g1, g3, g4, g5, g6, g7⟩ := R.obj q c u h
        refine ⟨arr, ?_, by simpa [G.newD, e] using g3, by simpa [G.newD, e] using g4, fun j a v ha hv' => hm (g5 j a v ha (by simpa [G.newD, e] using hv')), g6, by simpa [G.newD, e] using g7⟩
        simp only [G.newD, if_neg e]
        rw [hk _ (R.blt (.of h)) (fun e'' => e' (R.inj q r (.of h) hlv e''))]; exact g1
    · rw [hG] at h
      by_cases e : q = H.length
      · rw [if_pos e] at h; cases h
      · rw [if_neg e] at h
        by_cases e' : q = r
        · rw [if_pos e'] at h; cases h
        rw [if_neg e'] at h
        obtain ⟨es, clk, g1, g3, g4, g7⟩ := R.mob q kvs h
        refine ⟨es, clk, ?_, g3, fun i x k a he hk' => ⟨(g4 i x k a he hk').1, hm (g4 i x k a he hk').2⟩, by simpa [G.newD, e] using g7⟩
        simp only [G.newD, if_neg e]
        rw [hk _ (R.blt (.ofm h)) (fun e'' => e' (R.inj q r (.ofm h) hlv e''))]; exact g1
    · rcases hL q hq with rfl | ⟨e1, f1, l1⟩ <;> rcases hL q' hq' with rfl | ⟨e2, f2, l2⟩
      · rfl
      · simp only [G.newD, if_true, if_neg e2] at e; exact absurd e (hbq q' f2 l2)
      · simp only [G.newD, if_true, if_neg e1] at e; exact absurd e.symm (hbq q f1 l1)
      · simp only [G.newD, if_neg e1, if_neg e2] at e; exact R.inj q q' l1 l2 e
    · simp only [List.length_append, List.length_set, List.length_singleton]
      rcases hq with hq | rfl
      · exact Nat.lt_succ_of_lt (R.dom q hq)
      · exact Nat.lt_succ_self _
    · rcases hL q hq with rfl | ⟨e1, f1, l1⟩
      · exact .inr rfl
      · exact .inl (R.lv q l1)
  · refine ⟨ho, htp, hop, hsz, fun _ h => h, fun _ h => .inl h, fun q hq => ?_, fun q hq => ?_, fun q hq => ?_, fun b hb h => hk b hb (fun e => h r hlv e.symm), hS, fun q hq => ?_, fun b h => .inl h⟩
    · simp only [G.newD]; rw [if_neg (G.ne hdd hq)]
    · simp only [G.newD]; rw [if_neg (G.ne hdd hq)]
    · simp only [G.newD]; rw [if_neg (G.ne hdd hq)]
    · rcases hL q hq with rfl | ⟨e1, f1, l1⟩
      · simp only [G.newD, if_true]
        rcases hbb with h | h
        · exact .inl ⟨r, hlv, h.symm⟩
        · exact .inr h
      · exact .inl ⟨q, l1, by simp [G.newD, e1]⟩
theorem Rel.newM {g : G} {w : World} {H : List AO} {id : Nat} (R : Rel g w H) (hid : id ≤ H.length) (hd : ¬ g.D id) :
    Rel (g.new id w.heap.size 0) (w.alloc (.map #[] 0)) (setO H id (.mp [])) ∧ Stp g w H (g.new id w.heap.size 0) (w.alloc (.map #[] 0)) (setO H id (.mp [])) := by
  have hw : ∀ b, g.S b → (w.alloc (.map #[] 0)).heap[b]? = w.heap[b]? := fun b hb => heap_alloc_lt _ _ (R.lt b hb)
  have hG := get_setO (o := .mp []) hid
  have hL : ∀ r, Live (setO H id (.mp [])) r → r = id ∨ (r ≠ id ∧ Live H r) := by
    rintro r ⟨o, h, ha⟩
    rw [hG] at h
    by_cases e : r = id
    · exact .inl e
    · rw [if_neg e] at h; exact .inr ⟨e, o, h, ha⟩
  constructor
  · refine ⟨fun b hb => ?_, fun r c u h => ?_, fun r kvs h => ?_, fun r r' hr hr' e => ?_, fun r hr => ?_, fun r hr => ?_⟩
    · simp; exact Nat.lt_succ_of_lt (R.lt b hb)
    · rw [hG] at h
      by_cases e : r = id
      · rw [if_pos e] at h; cases h
      · rw [if_neg e] at h
        obtain ⟨arr', g1, g3, g4, g5, g6, g7⟩ := R.obj r c u h
        have hb := R.blt (.of h)
        refine ⟨arr', ?_, ?_, by simpa only [G.new, if_neg e] using g4, fun j a v ha hv' => G.new_vr hd hw (g5 j a v ha (by simpa only [G.new, if_neg e] using hv')), g6, ?_⟩
        · simp only [G.new, if_neg e]; rw [heap_alloc_lt _ _ hb]; exact g1
        · simp only [G.new, if_neg e]; exact g3
        · simp only [G.new, if_neg e]; exact g7
    · rw [hG] at h
      by_cases e : r = id
      · rw [if_pos e] at h
        simp only [sI, AO.mp.injEq] at h
        subst h; subst e
        refine ⟨#[], 0, by simp only [G.new, if_true]; exact heap_alloc_at _ _, rfl, fun i e k a he hk => by simp at he, ?_⟩
        simp only [G.new, if_true]
        exact fun h => Nat.lt_irrefl _ (R.lt _ h)
      · rw [if_neg e] at h
        obtain ⟨es, clk, g1, g3, g4, g7⟩ := R.mob r kvs h
        refine ⟨es, clk, ?_, g3, fun i e' k a he hk => ⟨(g4 i e' k a he hk).1, G.new_vr hd hw (g4 i e' k a he hk).2⟩, ?_⟩
        · simp only [G.new, if_neg e]; rw [heap_alloc_lt _ _ (R.blt (.ofm h))]; exact g1
        · simp only [G.new, if_neg e]; exact g7
    · rcases hL r hr with rfl | ⟨e1, l1⟩ <;> rcases hL r' hr' with rfl | ⟨e2, l2⟩
      · rfl
      · simp only [G.new, if_true, if_neg e2] at e; have := R.blt l2; omega
      · simp only [G.new, if_true, if_neg e1] at e; have := R.blt l1; omega
      · simp only [G.new, if_neg e1, if_neg e2] at e; exact R.inj r r' l1 l2 e
    · rcases hr with hr | rfl
      · exact Nat.lt_of_lt_of_le (R.dom r hr) (setO_length hid).1
      · exact (setO_length hid).2
    · rcases hL r hr with rfl | ⟨e1, l1⟩
      · exact .inr rfl
      · exact .inl (R.lv r l1)
  · refine ⟨rfl, rfl, rfl, by simp, fun _ h => h, fun _ h => .inl h, fun r hr => ?_, fun r hr => ?_, fun r hr => ?_, fun b hb _ => heap_alloc_lt _ _ hb, hw, fun r hr => ?_, fun b h => .inl h⟩
    · simp only [G.new]; rw [if_neg (G.ne hd hr)]
    · simp only [G.new]; rw [if_neg (G.ne hd hr)]
    · simp only [G.new]; rw [if_neg (G.ne hd hr)]
    · rcases hL r hr with rfl | ⟨e1, l1⟩
      · exact .inr (by simp [G.new])
      · exact .inl ⟨r, l1, by simp [G.new, e1]⟩
theorem Rel.writeM {g : G} {w w' : World} {H : List AO} {r : Nat} {kvs kvs' : List (Value × AV)} {es' : Array MapEntry} {clk' : Nat} (R : Rel g w H) (hr : H[r]? = some (.mp kvs))
    (ho : w'.os = w.os) (htp : w'.tape = w.tape) (hop : w'.output = w.output) (hsz : w'.heap.size = w.heap.size)
    (hb : w'.heap[g.ρ r]? = some (.map es' clk')) (hl : es'.size = kvs'.length)
    (hv : ∀ (i : Nat) (e : MapEntry) (k : Value) (a : AV), es'[i]? = some e → kvs'[i]? = some (k, a) → e.key = k ∧ VR g w a e.val)
    (hk : ∀ b, b ≠ g.ρ r → w'.heap[b]? = w.heap[b]?) : Rel g w' (H.set r (.mp kvs')) ∧ Stp g w H g w' (H.set r (.mp kvs')) := by
  have hlv : Live H r := .ofm hr
  have hS : ∀ b, g.S b → w'.heap[b]? = w.heap[b]? := fun b h => hk b (fun e => R.nS hlv (e ▸ h))
  have hm : ∀ {a : AV} {v : Value}, VR g w a v → VR g w' a v := fun h => h.mono (fun _ h => h) (fun _ h => h) (fun _ _ => rfl) (fun _ _ => rfl) (fun _ _ => rfl) hS
  have hL : ∀ q, Live (H.set r (.mp kvs')) q → Live H q := by
    rintro q ⟨o, h, ha⟩
    rw [get_set hlv.lt] at h
    by_cases e : q = r
    · subst e; exact hlv
    · rw [if_neg e] at h; exact ⟨o, h, ha⟩
  constructor
  · refine ⟨fun b h => by rw [hsz]; exact R.lt b h, fun q c u h => ?_, fun q kvs h => ?_, fun q q' hq hq' e => R.inj q q' (hL q hq) (hL q' hq') e, fun q hq => by rw [List.length_set]; exact R.dom q hq, fun q hq => R.lv q (hL q hq)⟩
    · rw [get_set hlv.lt] at h
      by_cases e : q = r
      · rw [if_pos e] at h; cases h
      · rw [if_neg e] at h
        obtain ⟨arr, g1, g3, g4, g5, g6, g7⟩ := R.obj q c u h
        refine ⟨arr, ?_, g3, g4, fun j a v ha hv' => hm (g5 j a v ha hv'), g6, g7⟩
        rw [hk _ (fun e' => e (R.inj q r (.of h) hlv e'))]; exact g1
    · rw [get_set hlv.lt] at h
      by_cases e : q = r
      · rw [if_pos e] at h
        simp only [sI, AO.mp.injEq] at h
        subst h; subst e
        exact ⟨es', clk', hb, hl, fun i e' k a he hk' => ⟨(hv i e' k a he hk').1, hm (hv i e' k a he hk').2⟩, R.nS hlv⟩
      · rw [if_neg e] at h
        obtain ⟨es, clk, g1, g3, g4, g7⟩ := R.mob q kvs h
        refine ⟨es, clk, ?_, g3, fun i e' k a he hk' => ⟨(g4 i e' k a he hk').1, hm (g4 i e' k a he hk').2⟩, g7⟩
        rw [hk _ (fun e' => e (R.inj q r (.ofm h) hlv e'))]; exact g1
  · exact ⟨ho, htp, hop, by omega, fun _ h => h, fun _ h => h, fun _ _ => rfl, fun _ _ => rfl, fun _ _ => rfl, fun b _ h => hk b (fun e => h r hlv e.symm), hS, fun q hq => .inl ⟨q, hL q hq, rfl⟩, fun b h => .inl h⟩
end Go.Ai
namespace Go.Ai
section
variable (P : Program)
def tsize (t : TypeId) : Option Nat := (P.info? t).map (·.size)
def isAggT (t : TypeId) : Option Bool := (P.underlying t).map fun | .struct _ | .array _ _ => true | _ => false
def nOf (t : TypeId) : Option (Option Nat) := (isAggT P t).bind fun b => (tsize P t).bind fun n => some (if b then some n else none)
def zeros (t : TypeId) : Option (List AV) := (P.info? t).bind fun i => i.zero.bind fun z =>
  if (z.cells.toList.map (ofV 4)).all cellA && z.cells.size == i.size then some (z.cells.toList.map (ofV 4)) else none
def zeroV (t : TypeId) : Option AV := (P.info? t).bind fun i => i.zero.bind fun z => some (ofV 4 z)
def kkOf (t : TypeId) : Option KK := match P.underlying t with
  | some (.int q) => some (.int q)
  | some .string => some .str
  | _ => none
def cx : Operand → X
  | .tmp t => .s t
  | .const v => .k (ofV 8 v)
  | .global g => .k (.lit (.pointer (some ⟨g, 0, none⟩)))
  | .func f => .k (.fn (.func f) [] [])
def compCall (c : Call) : Option I :=
  match c.callee with
  | .value f => some (.call (cx f) (c.args.toList.map cx))
  | .invoke r name => some (.inv (cx r) name (c.args.toList.map cx))
  | .builtin .len => match c.argTypes.toList, c.args.toList with
    | [t], [x] => match P.underlying t with
      | some .string => some (.lenS (cx x))
      | some (.slice _) => some (.len (cx x))
      | _ => none
    | _, _ => none
  | .builtin .append => match c.argTypes.toList, c.args.toList with
    | [t, u], [x, y] => match P.underlying t, P.underlying u with
      | some (.slice e), some .string => (P.info? e).bind fun i => (zeros P e).bind fun _ => if 0 < i.size ∧ 0 < i.bytes then some (.app i.size i.bytes e (cx x) (cx y)) else none
      | some (.slice e), some (.slice _) => (P.info? e).bind fun i => (zeros P e).bind fun _ => if 0 < i.size ∧ 0 < i.bytes then some (.app i.size i.bytes e (cx x) (cx y)) else none
      | some (.slice e), some (.int _) => (P.info? e).bind fun i => (zeros P e).bind fun z => if 0 < i.size ∧ 0 < i.bytes then some (.apm i.size i.bytes z e (cx x) (cx y)) else none
      | _, _ => none
    | _, _ => none
  | .builtin .cap => match c.argTypes.toList, c.args.toList with
    | [t], [x] => match P.underlying t with
      | some (.slice _) => some (.cap (cx x))
      | _ => none
    | _, _ => none
  | .builtin .clear => match c.argTypes.toList, c.args.toList with
    | [t], [x] => match P.underlying t with
      | some (.slice e) => (zeros P e).bind fun z => some (.clr z.length z (cx x))
      | _ => none
    | _, _ => none
  | .builtin .max => some (.maxi (c.args.toList.map cx))
  | .builtin .min => some (.mini (c.args.toList.map cx))
  | _ => none
def compI (ow : List Nat) (o : Oper) : Option I :=
  match o.op with
  | .move x | .assign x => some (.mv (cx x))
  | .pick c a b => some (.pick (cx c) (cx a) (cx b))
  | .alloc t => (zeros P t).bind fun z => some (.alloc z t)
  | .box t x => (tsize P t).bind fun n => some (.box n (cx x) t)
  | .build t parts => (zeros P t).bind fun z => match P.underlying t with
    | some (.struct fs) => if fs.all (fun f => (tsize P f.type).isSome) then
        (parts.toList.mapM fun p => (fs[p.1]?).bind fun f => (tsize P f.type).bind fun n => some (f.offset, n, cx p.2)).bind fun ps => some (.build z ps) else none
    | some (.array _ e) => (tsize P e).bind fun n => some (.build z (parts.toList.map fun p => (p.1 * n, n, cx p.2)))
    | _ => none
  | .buildSlice t len parts => match P.underlying t with
    | some (.slice e) => (tsize P e).bind fun n => (zeros P e).bind fun z => if len * n ≤ 16777216 && 0 < n then
        some (.bslice (match o.dst with | some d => ow.contains d | none => false) n len z (parts.toList.map fun p => (p.1, cx p.2)) e) else none
    | _ => none
  | .load t a => (nOf P t).bind fun n => some (.load n (cx a))
  | .store t a x => (tsize P t).bind fun n => some (.store n (cx a) (cx x))
  | .nilCheck x => some (.nilck (cx x))
  | .binOp op xt x y _ => match P.underlying xt with
    | some (.int _) => some (.bin op (cx x) (cx y))
    | some .string => some (.bin op (cx x) (cx y))
    | some .bool => some (.binb op (cx x) (cx y))
    | some (.interface _) => match op, y with
      | .eql, .const .nilIface => some (.isn false (cx x))
      | .neq, .const .nilIface => some (.isn true (cx x))
      | _, _ => none
    | _ => none
  | .unOp op _ x => some (.un op (cx x))
  | .convert src dst x => match P.underlying src, P.underlying dst with
    | some (.int _), some (.int k) => some (.conv (.int k) (cx x))
    | some .string, some .string => some (.conv .same (cx x))
    | some .string, some (.slice e) => match P.underlying e with
      | some (.int .u8) => some (.conv .toBytes (cx x))
      | _ => none
    | some (.slice e), some .string => match P.underlying e with
      | some (.int .u8) => some (.conv .ofBytes (cx x))
      | _ => none
    | _, _ => none
  | .fieldAddr s x f => match P.underlying s with
    | some (.struct fs) => (fs[f]?).bind fun fd => (tsize P fd.type).bind fun n => if n = 0 then none else some (.fadr fd.offset (cx x))
    | _ => none
  | .field s x f => match P.underlying s with
    | some (.struct fs) => (fs[f]?).bind fun fd => (nOf P fd.type).bind fun n => some (.fld fd.offset n (cx x))
    | _ => none
  | .indexAddr t x i => match P.underlying t with
    | some (.slice e) => (tsize P e).bind fun n => some (.iadr n (cx x) (cx i))
    | some (.array l e) => (tsize P e).bind fun n => some (.iadrA n l (cx x) (cx i))
    | _ => none
  | .index t x i => match P.underlying t with
    | some .string => some (.idxS (cx x) (cx i))
    | some (.array l e) => (tsize P e).bind fun n => (nOf P e).bind fun m => some (.idxA n l m (cx x) (cx i))
    | _ => none
  | .slice t x lo hi mx => match P.underlying t with
    | some .string => match mx with
      | none => some (.slS (cx x) (lo.map cx) (hi.map cx))
      | _ => none
    | some (.slice e) => (tsize P e).bind fun n => some (.sli n (cx x) (lo.map cx) (hi.map cx) (mx.map cx))
    | some (.array l e) => match lo, hi, mx with
      | none, none, none => (tsize P e).bind fun n => some (.slA n l (cx x))
      | _, _, _ => none
    | _ => none
  | .extract t i => some (.ext (cx t) i)
  | .call c => compCall P c
  | .makeSlice t l c => match P.underlying t with
    | some (.slice e) => (P.info? e).bind fun i => (zeros P e).bind fun z => some (.mks i.size i.bytes z e (cx l) (cx c))
    | _ => none
  | .makeInterface t x => match P.underlying t with
    | some (.interface _) => none
    | some _ => some (.mki t (cx x))
    | none => none
  | .typeAssert x _ asserted ok => match P.underlying asserted with
    | some (.interface _) => none
    | some _ => (zeroV P asserted).bind fun z => some (.tas asserted ok z (cx x))
    | none => none
  | .makeFunc fn first cap => some (.mkf fn (first.toList.map cx) (cap.toList.map cx))
  | .panic x => some (.pan (cx x))
  | .makeMap t r => match r with
    | none => some .mkm
    | some (.const (.int _ _)) => match P.underlying t with
      | some (.map _ _) => some .mkm
      | _ => none
    | _ => none
  | .lookup t m x ok => match P.underlying t with
    | some (.map kt e) => (kkOf P kt).bind fun kk => (zeroV P e).bind fun z => some (.lkp kk ok z (cx m) (cx x))
    | _ => none
  | .mapUpdate t m k x => match P.underlying t with
    | some (.map kt e) => (kkOf P kt).bind fun kk => some (.mup kk (cx m) (cx k) (cx x))
    | _ => none
  | .insert t m k x => match P.underlying t with
    | some (.map kt e) => (kkOf P kt).bind fun kk => some (.mup kk (cx m) (cx k) (cx x))
    | _ => none
  | _ => none
def dstOk (nt : Nat) : Option Nat → Bool
  | some d => Nat.blt d nt
  | none => true
def compO (ow : List Nat) (nt : Nat) (ops : Array Oper) (o : Oper) : Option O :=
  (compI P ow o).bind fun i =>
    if dstOk nt o.dst = true then
      match o.guard with
      | none => some ⟨o.dst, i, none⟩
      | some (j, b) => ((ops[j]?).bind (·.dst)).bind fun d => some ⟨o.dst, i, some (d, b)⟩
    else none
end
def tmpsOf (xs : List Operand) : List Nat := xs.filterMap fun | .tmp t => some t | _ => none
def looks (ops : Array Oper) (o : Oper) : List Nat :=
  tmpsOf o.op.operands.toList ++ (match o.guard with | some (g, _) => ((ops[g]?).bind (·.dst)).toList | none => [])
def preds (o : Oper) : List Nat := (o.after.toList.filter (Region.binds .any)).map (·.on)
def anc (ops : List Oper) : List (List Nat) :=
  ops.foldl (fun acc o => acc ++ [(preds o).foldl (fun l p => p :: (acc.getD p []) ++ l) []]) []
def isN (P : Program) : Op → Bool
  | .move _ | .assign _ | .pick .. | .build .. | .nilCheck _ | .binOp .. | .unOp .. | .fieldAddr .. | .field .. | .indexAddr .. | .index .. | .extract .. | .makeInterface .. | .typeAssert .. | .makeFunc .. => true
  | .call { callee := .builtin .len, .. } | .call { callee := .builtin .max, .. } | .call { callee := .builtin .min, .. } => true
  | .slice t _ _ _ _ => match P.underlying t with
    | some (.array _ _) => false
    | _ => true
  | _ => false
def selfOk (ops : Array Oper) (A : List (List Nat)) (i : Nat) (o : Oper) : Bool :=
  ((preds o).all fun p => decide (p < i)) &&
  (ops.toList.zipIdx.all fun p => p.2 == i || match p.1.dst with
    | none => true
    | some d => !(o.dst == some d) && (!(looks ops o).contains d || (decide (p.2 < i) && (A.getD i []).contains p.2) || (decide (i < p.2) && (A.getD p.2 []).contains i)))
def isR : Op → Bool
  | .load .. | .lookup .. => true
  | _ => false
def lateOp (ops : Array Oper) (h i : Nat) : Bool :=
  decide (i < h) && match ops[i]? with
    | some o => isR o.op && o.dst.isSome && ops.toList.zipIdx.all fun q => decide (q.2 < i) || match q.1.dst with
      | none => true
      | some d => !(looks ops o).contains d
    | none => false
def earlyOp (ops : Array Oper) (h i : Nat) : Bool :=
  decide (h ≤ i) && match ops[i]? with
    | some o => isR o.op && o.dst.isSome
    | none => false
def drawOk (P : Program) (ops : Array Oper) (h : Nat) (lt : List Nat) (et : List Nat := []) : Bool :=
  let A := anc ops.toList
  Nat.ble h ops.size && (ops.toList.zipIdx.all fun p => selfOk ops A p.2 p.1) &&
  (ops.toList.zipIdx.all fun p => decide (p.2 < h) || isN P p.1.op || et.contains p.2 || ops.toList.zipIdx.all fun q => decide (p.2 ≤ q.2) || isN P q.1.op || (A.getD p.2 []).contains q.2 || lt.contains q.2) &&
  lt.all (lateOp ops h) && et.all (earlyOp ops h) && ops.toList.all fun o => match o.dst with | some d => Nat.blt d 1000000 | none => true
def behindB (ops : Array Oper) (i : Nat) : Bool := ops.toList.zipIdx.all fun p => decide (p.2 ≤ i) || ((anc ops.toList).getD p.2 []).contains i
def marksM (ops : Array Oper) (l : List O) (pt : List Nat) : List Nat := pt.filterMap fun i => if behindB ops i = true then ((l[i]?).bind (·.dst)).map (· + 1000000) else none
def waits (P : Program) (ops : Array Oper) (h : Nat) (et : List Nat) (i q : Nat) : Bool :=
  ops.toList.zipIdx.all fun p => decide (p.2 < h) || decide (q ≤ p.2) || isN P p.1.op || et.contains p.2 || !((anc ops.toList).getD p.2 []).contains i
def lateT (P : Program) (ops : Array Oper) (h : Nat) (lt et : List Nat) (l : List O) : List (List O) :=
  if lt.isEmpty then [] else (List.range (ops.size - h + 1)).map fun p => (lt.filter fun i => waits P ops h et i (h + p)).filterMap fun i => l[i]?
structure Ann where
  keepR : Nat → List Nat
  keepL : Nat → List Nat
  ow : List Nat
  head : Nat → Nat
  late : Nat → List Nat := fun _ => []
  early : Nat → List Nat := fun _ => []
  pans : Nat → List Nat := fun _ => []
def comp (P : Program) (A : Ann) (nt : Nat) : Nat → Code → Option C
  | _, .skip => some .skip
  | _, .label _ => none
  | _, .region id ops draw =>
    (ops.toList.mapM (compO P A.ow nt ops)).bind fun l =>
      match draw with
      | false => some (.reg l (A.keepR id))
      | true => if drawOk P ops (A.head id) (A.late id) (A.early id) then some (.draw (l.take (A.head id)) (l.drop (A.head id)) (A.keepR id) (lateT P ops (A.head id) (A.late id) (A.early id) l) (((A.early id).filterMap fun i => (l[i]?).bind (·.dst)) ++ marksM ops l (A.pans id))) else none
  | b, .seq x y => (comp P A nt b x).bind fun x => (comp P A nt b y).bind fun y => some (.seq x y)
  | b, .cond c x y => (comp P A nt b x).bind fun x => (comp P A nt b y).bind fun y => some (.cond (cx c) x y)
  | _, .block id c => (comp P A nt id c).bind fun c => some (.block id c)
  | b, .loop c => (comp P A nt b c).bind fun c => some (.loop (A.keepL b) c)
  | _, .exit id => some (.exit id)
  | _, .ret => some .ret
  | _, _ => none
def compRV (P : Program) : ResultVar → Option RV
  | .tmp t => some (.t t)
  | .cell a t => (nOf P t).bind fun n => some (.c a n)
def compF (P : Program) (A : Ann) (fn : Func) : Option F :=
  fn.body.bind fun c => (comp P A fn.ntmps 0 c).bind fun c => (fn.results.toList.mapM (compRV P)).bind fun rs =>
    if fn.params.size + fn.nfree ≤ fn.ntmps ∧ (fn.name == "runtime.NumGoroutine") = false then some ⟨fn.params.size + fn.nfree, fn.ntmps, rs, c⟩ else none
end Go.Ai
namespace Go.Ai
def After (g : G) (w : World) (H : List AO) (id : Nat) : Out → Bool → Value → World → Prop
  | .val a none, p, v, w' => p = false ∧ ∃ g' : G, g'.D = g.D ∧ VR g' w' a v ∧ Rel g' w' H ∧ Stp g w H g' w' H
  | .val a (some o), p, v, w' => p = false ∧ ∃ g' : G, (∀ r, g'.D r → g.D r ∨ r = id) ∧ VR g' w' a v ∧ Rel g' w' (setO H id o) ∧ Stp g w H g' w' (setO H id o)
  | .wr a H', p, v, w' => p = false ∧ ∃ g' : G, VR g' w' a v ∧ Rel g' w' H' ∧ Stp g w H g' w' H'
  | .fz a ids, p, v, w' => p = false ∧ ∃ g' : G, VR g' w' a v ∧ Rel g' w' (killH H ids 0 H) ∧ Stp g w H g' w' (killH H ids 0 H) ∧ ∀ x u, VR g w x u → VR g' w' (kill H ids x) u
  | .pan a H', p, v, w' => p = true ∧ ∃ g' : G, VR g' w' a v ∧ Rel g' w' H' ∧ Stp g w H g' w' H'
def WF (ro : Option Nat) : Fence := { fn := fun _ => True, depth := none, alive := false, round := ro }
theorem callsIn_WF {ro : Option Nat} {n : Nat} {P : Program} {f : FuncId} {args : Array Value} {w : World} {R : Ending → World → Prop} (h : Calls P f args w R) : CallsIn (WF ro) n P f args w R :=
  callsIn_wide.2 h
def OpOk (P : Program) (o : Oper) (act : Act) (g : G) (w : World) (H : List AO) (id : Nat) (out : Out) : Prop :=
  ∀ (next : Act → World → Prop) (Q : Exit → Act → World → Prop), (∀ v w', After g w H id out false v w' → next (act.put o.dst v) w') →
    (∀ v w', After g w H id out true v w' → Q (.panic [{ v, recovered := false }]) act w') → o.wp P act w next Q ∧ ((∀ c, o.op ≠ .defer c) → ∀ ro : Option Nat, o.wpIn (WF ro) 0 P act w next Q)
section
variable {P : Program} {o : Oper} {act : Act} {g : G} {w : World} {H : List AO} {id : Nat} {fr : Fr}
theorem opOk_both {r : Result Next} {next : Act → World → Prop} {Q : Exit → Act → World → Prop} (h : (execOp act.eval o).run P w = r) (h1 : o.upon P act next Q r) (h2 : ∀ ro : Option Nat, o.uponIn (WF ro) 0 P act next Q r) :
    o.wp P act w next Q ∧ ((∀ c, o.op ≠ .defer c) → ∀ ro : Option Nat, o.wpIn (WF ro) 0 P act w next Q) := by
  refine ⟨?_, fun hd ro => ⟨fun _ _ => trivial, ?_⟩⟩
  · unfold Oper.wp; rw [h]; exact h1
  · rw [Oper.semAt_eq _ _ _ hd, h]; exact h2 ro
theorem OpOk.value {a : AV} {v : Value} (R : Rel g w H) (h : (execOp act.eval o).run P w = .ok (.value v) w) (hv : VR g w a v) : OpOk P o act g w H id (.val a none) := by
  intro next Q hn _
  refine opOk_both h ?_ fun ro => ?_
  · exact hn v w ⟨rfl, g, rfl, hv, R, Stp.refl⟩
  · exact hn v w ⟨rfl, g, rfl, hv, R, Stp.refl⟩
theorem ev_vr (F : FRel g w fr act) (x : Operand) : VR g w (ev fr (cx x)) (act.eval x) := by
  cases x with
  | tmp t => exact F t
  | const v => exact .fv _ _ (ofV_fv _ _ 8 v)
  | global n => exact .fv _ _ (.lit _)
  | func f => exact .fv _ _ (.fn _ _ _ _ _ rfl (by simp) rfl (by simp))
theorem asBool_inv {a : AV} {b : Bool} (h : asBool a = some b) : a = .lit (.bool b) := by
  unfold asBool at h; split at h
  · cases h; rfl
  · cases h
theorem VRs.mk' {xs : List AV} {vs : Array Value} (hl : xs.length = vs.size) (h : ∀ (i : Nat) (a : AV) (v : Value), xs[i]? = some a → vs[i]? = some v → VR g w a v) : VRs g w xs vs.toList :=
  ⟨by simpa using hl, fun i a v h1 h2 => h i a v h1 (by simpa using h2)⟩
theorem VRs.nil : VRs g w [] [] := ⟨rfl, by simp⟩
theorem VRs.cons {a : AV} {v : Value} {xs : List AV} {vs : List Value} (h : VR g w a v) (hs : VRs g w xs vs) : VRs g w (a :: xs) (v :: vs) := by
  refine ⟨by simp [hs.1], fun i b u h1 h2 => ?_⟩
  cases i with
  | zero => simp at h1 h2; subst h1; subst h2; exact h
  | succ i => simp at h1 h2; exact hs.2 i b u h1 h2
theorem VRs.append {xs ys : List AV} {vs us : List Value} (h : VRs g w xs vs) (k : VRs g w ys us) : VRs g w (xs ++ ys) (vs ++ us) := by
  refine ⟨by simp [h.1, k.1], fun i a v h1 h2 => ?_⟩
  rw [List.getElem?_append] at h1 h2
  rw [h.1] at h1
  split at h1
  · rename_i hi; rw [if_pos hi] at h2; exact h.2 i a v h1 h2
  · rename_i hi; rw [if_neg hi] at h2; exact k.2 _ a v h1 h2
theorem VRs.take {xs : List AV} {vs : List Value} (h : VRs g w xs vs) (n : Nat) : VRs g w (xs.take n) (vs.take n) := by
  refine ⟨by simp [h.1], fun i a v h1 h2 => ?_⟩
  rw [List.getElem?_take] at h1 h2
  split at h1
  · rename_i hi; rw [if_pos hi] at h2; exact h.2 i a v h1 h2
  · cases h1
theorem VRs.drop {xs : List AV} {vs : List Value} (h : VRs g w xs vs) (n : Nat) : VRs g w (xs.drop n) (vs.drop n) := by
  refine ⟨by simp [h.1], fun i a v h1 h2 => ?_⟩
  rw [List.getElem?_drop] at h1 h2
  exact h.2 _ a v h1 h2
theorem VRs.map (F : FRel g w fr act) (xs : List Operand) : VRs g w ((xs.map cx).map (ev fr)) (xs.map act.eval) := by
  induction xs with
  | nil => exact VRs.nil
  | cons x xs ih => exact VRs.cons (ev_vr F x) ih
theorem VRs.arr {xs : List AV} {vs : List Value} (h : VRs g w xs vs) : ∀ (i : Nat) (a : AV) (v : Value), xs[i]? = some a → vs.toArray[i]? = some v → VR g w a v :=
  fun i a v h1 h2 => h.2 i a v h1 (by simpa using h2)
theorem cells_vr {a : AV} {v : Value} (h : VR g w a v) (hc : (cellsOf a).all cellA = true) : VRs g w (cellsOf a) v.cells.toList ∧ ∀ u ∈ v.cells.toList, u.oneCell' = true := by
  have one : ∀ {a : AV} {v : Value}, VR g w a v → cellA a = true → v.oneCell' = true := by
    intro a v h hc
    cases a with
    | any => simp [cellA] at hc
    | lit u => rw [h.lit_inv]; simpa [cellA] using hc
    | agg xs => simp [cellA] at hc
    | tup xs => simp [cellA] at hc
    | iface t x => obtain ⟨u, rfl, _⟩ := h.iface_inv; rfl
    | fn f x y => obtain ⟨u, u', rfl, _⟩ := h.fn_inv; rfl
    | ptr r off => rw [h.ptr_inv.1]; rfl
    | ip xs => obtain ⟨ad, f, rfl, _⟩ := h.ip_inv; rfl
    | mpv r => rw [h.mpv_inv.1]; rfl
    | own r off n e cap => obtain ⟨o, c, rfl, _⟩ := h.own_inv; rfl
    | sl e xs cap => obtain ⟨ad, c, f, rfl, _⟩ := h.sl_inv; rfl
  have single : ∀ {a : AV}, cellsOf a = [a] → VR g w a v → cellA a = true → VRs g w (cellsOf a) v.cells.toList ∧ ∀ u ∈ v.cells.toList, u.oneCell' = true := by
    intro a ha h hc
    have ho := one h hc
    have : v.cells = #[v] := by cases v <;> simp_all [Value.cells, Value.oneCell']
    rw [ha, this]
    exact ⟨VRs.cons h VRs.nil, by simpa using ho⟩
  cases a with
  | agg xs =>
    obtain ⟨vs, rfl, hl, hp⟩ := h.agg_inv
    refine ⟨VRs.mk' hl hp, fun u hu => ?_⟩
    simp only [cellsOf] at hc
    obtain ⟨i, hi, rfl⟩ := List.mem_iff_getElem.1 hu
    have hi' : i < xs.length := by simp [Value.cells] at hi; omega
    exact one (hp i xs[i] _ (by simp [hi']) (by simp [Value.cells] at hi ⊢)) (List.all_eq_true.1 hc _ (by simp))
  | any => simp [cellsOf, cellA] at hc
  | tup xs => simp [cellsOf, cellA] at hc
  | lit u => exact single rfl h (by simpa [cellsOf] using hc)
  | iface t x => exact single rfl h rfl
  | fn f x y => exact single rfl h rfl
  | ptr r off => exact single rfl h rfl
  | ip xs => exact single rfl h rfl
  | mpv r => exact single rfl h rfl
  | own r off n e cap => exact single rfl h rfl
  | sl e xs cap => exact single rfl h rfl
theorem pick_vr {c : Bool} {a b : AV} {x y : Value} (ha : VR g w a x) (hb : VR g w b y) : VR g w (pickV c a b) (if c = true then x else y) := by
  unfold pickV
  split
  · rename_i p q
    have h1 := ha.lit_inv; have h2 := hb.lit_inv
    subst h1; subst h2
    cases c
    · exact hb
    · exact ha
  · cases c
    · exact hb
    · exact ha
theorem bin_ok {op : BinOp} {x y r : AV} {u v : Value} (t : TypeId) (hx : VR g w x u) (hy : VR g w y v) (h : bin op x y = some r) (X Y : Operand) :
    ∃ z, (do eqGuard op t X Y u v; binOp op t u v : Sem Value).run P w = .ok z w ∧ VR g w r z := by
  unfold bin at h
  split at h
  · rename_i k a k' b
    have e1 := hx.lit_inv; have e2 := hy.lit_inv
    subst e1; subst e2
    have hg : (eqGuard op t X Y (.int k a) (.int k' b)).run P w = .ok () w := by unfold eqGuard; split <;> simp
    have shift : ∀ op', (op' = BinOp.shl ∨ op' = BinOp.shr) → shiftI op' k a b = some r → ∃ z, (Op.shift op' k a k' b).run P w = .ok z w ∧ VR g w r z := by
      intro op' hop hs
      unfold shiftI at hs
      by_cases hb : b < 0
      · simp [hb] at hs
      · simp only [hb, decide_false, cond_false] at hs
        unfold Op.shift
        rw [if_neg hb]
        rcases hop with rfl | rfl <;> (simp only [sI] at hs; subst hs; exact ⟨_, rfl, .fv _ _ (.lit _)⟩)
    have int : ∀ op', op' ≠ .shl → op' ≠ .shr → op = op' → (bif decide (k = k') then binI op' k a b else none) = some r → ∃ z, (binOp op' t (.int k a) (.int k' b)).run P w = .ok z w ∧ VR g w r z := by
      intro op' h1 h2 _ h
      by_cases hk : k = k'
      case neg => simp [hk] at h
      subst hk
      simp only [decide_true, cond_true] at h
      have L : ∀ v, VR g w (.lit v) v := fun v => .fv _ _ (.lit v)
      cases op' <;> simp only [binI, bitsI, ne_eq, not_true_eq_false, reduceCtorEq, not_false_eq_true] at h h1 h2 <;> simp only [binOp, ne_eq, not_true_eq_false, if_false]
      case quo =>
        by_cases hb : b = 0
        · simp [hb] at h
        · simp only [hb, decide_false, cond_false, sI] at h
          subst h; unfold Op.intDiv; rw [if_neg hb]; exact ⟨_, rfl, L _⟩
      case rem =>
        by_cases hb : b = 0
        · simp [hb] at h
        · simp only [hb, decide_false, cond_false, sI] at h
          subst h; unfold Op.intDiv; rw [if_neg hb]; exact ⟨_, rfl, L _⟩
      all_goals first
        | (simp only [sI] at h; subst h; exact ⟨_, rfl, L _⟩)
        | (cases h; done)
    cases op
    case shl =>
      obtain ⟨z, hz, hr⟩ := shift .shl (.inl rfl) h
      exact ⟨z, by simp only [Sem.run_bind, hg, Result.andThen_ok]; exact hz, hr⟩
    case shr =>
      obtain ⟨z, hz, hr⟩ := shift .shr (.inr rfl) h
      exact ⟨z, by simp only [Sem.run_bind, hg, Result.andThen_ok]; exact hz, hr⟩
    all_goals
      obtain ⟨z, hz, hr⟩ := int _ (by simp) (by simp) rfl h
      exact ⟨z, by simp only [Sem.run_bind, hg, Result.andThen_ok]; exact hz, hr⟩
  · rename_i a b
    have e1 := hx.lit_inv; have e2 := hy.lit_inv
    subst e1; subst e2
    have hg : (eqGuard op t X Y (.string a) (.string b)).run P w = .ok () w := by unfold eqGuard; split <;> simp
    have L : ∀ v, VR g w (.lit v) v := fun v => .fv _ _ (.lit v)
    simp only [Sem.run_bind, hg, Result.andThen_ok]
    cases op <;> simp only [binS] at h <;> simp only [binOp, Op.stringOp, ByteArray.toList_eq]
    case add =>
      by_cases hb : ((a.size + b.size : Nat) : Int) > IntKind.i64.max
      · rw [decide_eq_true hb] at h; cases h
      · rw [decide_eq_false hb] at h
        simp only [cond_false, sI] at h
        subst h; rw [if_neg hb]; exact ⟨_, rfl, L _⟩
    all_goals first
      | (simp only [sI] at h; subst h; exact ⟨_, rfl, L _⟩)
      | (cases h; done)
  · cases h
theorem binb_ok {op : BinOp} {x y r : AV} {u v : Value} {t : TypeId} (ht : P.underlying t = some .bool) (hx : VR g w x u) (hy : VR g w y v) (h : binb op x y = some r) (X Y : Operand) :
    ∃ z, (do eqGuard op t X Y u v; binOp op t u v : Sem Value).run P w = .ok z w ∧ VR g w r z := by
  unfold binb at h
  split at h
  · rename_i a b
    have e1 := hx.lit_inv; have e2 := hy.lit_inv
    subst e1; subst e2
    have hg : (eqGuard op t X Y (.bool a) (.bool b)).run P w = .ok () w := by unfold eqGuard; split <;> simp
    have L : ∀ v, VR g w (.lit v) v := fun v => .fv _ _ (.lit v)
    have he : (Op.equal t (.bool a) (.bool b)).run P w = .ok (a == b) w := by
      unfold Op.equal Op.maxDepth Op.equalIn
      simp [run_underlying ht]
    simp only [Sem.run_bind, hg, Result.andThen_ok]
    cases op <;> simp only [binB] at h <;> simp only [binOp]
    case eql => simp only [sI] at h; subst h; exact ⟨_, by simp [he], L _⟩
    case neq => simp only [sI] at h; subst h; exact ⟨_, by simp [he], L _⟩
    all_goals cases h
  · cases h
theorem un_ok {op : UnOp} {x r : AV} {u : Value} (hx : VR g w x u) (h : unop op x = some r) : ∃ z, (Op.unary op u).run P w = .ok z w ∧ VR g w r z := by
  have L : ∀ v, VR g w (.lit v) v := fun v => .fv _ _ (.lit v)
  unfold unop at h
  split at h
  · have e1 := hx.lit_inv; subst e1
    simp only [sI] at h; subst h; exact ⟨_, rfl, L _⟩
  · have e1 := hx.lit_inv; subst e1
    simp only [bitsI, sI] at h; subst h; exact ⟨_, rfl, L _⟩
  · have e1 := hx.lit_inv; subst e1
    simp only [sI] at h; subst h; exact ⟨_, rfl, L _⟩
  · cases h
end
end Go.Ai
namespace Go.Ai
section
variable {P : Program} {g : G} {w : World} {H : List AO}
theorem run_sizeOf' {t : TypeId} {n : Nat} (h : tsize P t = some n) : (sizeOf t).run P w = .ok n w := by
  unfold tsize at h
  cases hi : P.info? t with
  | none => rw [hi] at h; cases h
  | some i => rw [hi] at h; cases h; simp [sizeOf, typeInfo, hi]
theorem run_isAgg' {t : TypeId} {b : Bool} (h : isAggT P t = some b) : (isAgg t).run P w = .ok b w := by
  unfold isAggT at h
  cases hu : P.underlying t with
  | none => rw [hu] at h; cases h
  | some d =>
    rw [hu] at h; simp only [Option.map_some, sI] at h
    simp only [isAgg, Sem.run_bind, run_underlying hu, Result.andThen_ok]
    cases d <;> (subst h; rfl)
theorem nOf_inv {t : TypeId} {n : Option Nat} (h : nOf P t = some n) : ∃ k, tsize P t = some k ∧ ((n = none ∧ isAggT P t = some false) ∨ (n = some k ∧ isAggT P t = some true)) := by
  unfold nOf at h
  obtain ⟨b, h1, h⟩ := bO.1 h
  obtain ⟨k, h2, h⟩ := bO.1 h
  refine ⟨k, h2, ?_⟩
  cases b with
  | false => simp at h; exact .inl ⟨h.symm, h1⟩
  | true => simp at h; exact .inr ⟨h.symm, h1⟩
theorem idx_inv {i : AV} {n j : Nat} {u : Value} (hi : VR g w i u) (h : idx i n = some j) : ∃ k, u = .int k (j : Int) ∧ j < n := by
  unfold idx at h
  split at h
  · rename_i k z
    have e := hi.lit_inv; subst e
    by_cases hb : 0 ≤ z ∧ z < (n : Int)
    · simp only [hb.1, hb.2, decide_true, Bool.and_self, cond_true, sI] at h
      subst h
      refine ⟨k, ?_, ?_⟩
      · rw [Int.toNat_of_nonneg hb.1]
      · omega
    · have : (decide (0 ≤ z) && decide (z < (n : Int))) = false := by
        rw [Bool.eq_false_iff]; intro hh; simp at hh; exact hb hh
      rw [this] at h; cases h
  · cases h
theorem bound_inv {i : AV} {n j : Nat} {u : Value} (hi : VR g w i u) (h : bound i n = some j) : ∃ k, u = .int k (j : Int) ∧ j ≤ n := by
  unfold bound at h
  split at h
  · rename_i k z
    have e := hi.lit_inv; subst e
    by_cases hb : 0 ≤ z ∧ z ≤ (n : Int)
    · simp only [hb.1, hb.2, decide_true, Bool.and_self, cond_true, sI] at h
      subst h
      refine ⟨k, ?_, ?_⟩
      · rw [Int.toNat_of_nonneg hb.1]
      · omega
    · have : (decide (0 ≤ z) && decide (z ≤ (n : Int))) = false := by
        rw [Bool.eq_false_iff]; intro hh; simp at hh; exact hb hh
      rw [this] at h; cases h
  · cases h
theorem fadr_vr {off : Nat} {x r : AV} {u : Value} (hx : VR g w x u) (h : fadr off x = some r) : ∃ a, u = .pointer (some a) ∧ VR g w r (.pointer (some (a.add off))) := by
  unfold fadr at h
  split at h
  · rename_i q o
    simp only [sI] at h; subst h
    obtain ⟨rfl, hr⟩ := hx.ptr_inv
    refine ⟨_, rfl, ?_⟩
    rw [add_none, show o + g.δ q + off = o + off + g.δ q by omega]
    exact .ptr q (o + off) hr
  · rename_i xs
    simp only [sI] at h; subst h
    obtain ⟨ad, f, rfl, h1, h2, h3, h4⟩ := hx.ip_inv
    refine ⟨ad, rfl, .fv _ _ (.ip _ _ (fun k => f (off + k)) (fun hne => ?_) (fun k hk => ?_) (fun k hk => ?_) (fun k a ha => ?_))⟩
    · rw [add_block]; exact h1 (by intro e; subst e; simp at hne)
    · rw [add_add]; exact h2 _ (by simp at hk; omega)
    · exact h3 _ (by simp at hk; omega)
    · rw [List.getElem?_drop] at ha; exact h4 _ _ ha
  · cases h
theorem iadr_vr {e : Nat} {x i r : AV} {u v : Value} (hx : VR g w x u) (hi : VR g w i v) (h : iadr e x i = some r) :
    ∃ a n c k j, u = .slice (some a) n c ∧ v = .int k (j : Nat) ∧ j < n ∧ VR g w r (.pointer (some (a.add (j * e)))) := by
  unfold iadr at h
  split at h
  · rename_i e' xs cap
    obtain ⟨j, hj, h⟩ := bO.1 h
    by_cases hee : e = e'
    case neg => rw [beq_of_ne hee] at h; cases h
    subst hee
    simp only [beq_self_eq_true, cond_true] at h
    obtain ⟨cs, hc, h⟩ := bO.1 h
    simp only [sI] at h; subst h
    obtain ⟨k, rfl, hlt⟩ := idx_inv hi hj
    obtain ⟨a, c, f, rfl, _, _, h3, h4, h5, h6⟩ := hx.sl_inv
    have hne : xs ≠ [] := by intro e; subst e; simp at hlt
    obtain ⟨ad, rfl, g1, g2⟩ := h4 hne
    have e2 := h3 cs (List.mem_of_getElem? hc)
    refine ⟨ad, xs.length, c, k, j, rfl, rfl, hlt, .fv _ _ (.ip cs _ (f j) (fun hne => ?_) (fun m hm => ?_) (fun m hm => h5 j m hlt (by omega)) (fun m a ha => h6 j cs m a hc ha))⟩
    · rw [add_block]; exact g1 (by have := List.length_pos_iff.2 hne; omega)
    · rw [add_add]; exact g2 j m hlt (by omega)
  · rename_i q off n e' cap
    by_cases hee : e = e'
    case neg => rw [beq_of_ne hee] at h; cases h
    subst hee
    simp only [beq_self_eq_true, cond_true] at h
    obtain ⟨j, hj, h⟩ := bO.1 h
    simp only [sI] at h; subst h
    obtain ⟨k, rfl, hlt⟩ := idx_inv hi hj
    obtain ⟨o, c, rfl, hr, hn, _, ho, _⟩ := hx.own_inv
    have := ho (by omega); subst this
    refine ⟨_, n, c, k, j, rfl, rfl, hlt, ?_⟩
    rw [add_none, show off + g.δ q + j * e = off + j * e + g.δ q by omega]
    exact .ptr q _ hr
  · cases h
theorem part_vr {n : Option Nat} {cs : List AV} {vs : List Value} {r : AV} (h : VRs g w cs vs) (hp : part n cs = some r) :
    (n = none ∧ ∃ v, vs[0]? = some v ∧ VR g w r v) ∨ ∃ k, n = some k ∧ k ≤ vs.length ∧ VR g w r (.agg (vs.take k).toArray) := by
  cases n with
  | none =>
    simp only [part] at hp
    cases cs with
    | nil => cases hp
    | cons a cs =>
      simp at hp; subst hp
      cases vs with
      | nil => have := h.1; simp at this
      | cons v vs => exact .inl ⟨rfl, v, rfl, h.2 0 _ _ rfl rfl⟩
  | some k =>
    simp only [part] at hp
    by_cases hk : Nat.ble k cs.length = true
    case neg => rw [Bool.eq_false_iff.mpr hk] at hp; cases hp
    rw [hk] at hp
    simp only [cond_true, sI] at hp; subst hp
    have hk' := Nat.le_of_ble_eq_true hk
    have ht := h.take k
    exact .inr ⟨k, rfl, by rw [← h.1]; exact hk', .agg _ _ (by simp [h.1]) ht.arr⟩
theorem take_drop_extract (vs : Array Value) (off k : Nat) : (((vs.toList.drop off).take k).toArray : Array Value) = vs.extract off (off + k) := by
  apply Array.ext'
  simp [List.take_drop, Array.toList_extract, List.extract_eq_take_drop]
theorem part_run {t : TypeId} {n : Option Nat} {cs : List AV} {vs : Array Value} {off : Nat} {r : AV} (hn : nOf P t = some n) (h : VRs g w cs vs.toList) (hp : part n (cs.drop off) = some r) :
    ∃ v, (Go.part t vs off).run P w = .ok v w ∧ VR g w r v := by
  obtain ⟨k, hk, hh⟩ := nOf_inv hn
  rcases part_vr (h.drop off) hp with ⟨rfl, v, hv, hr⟩ | ⟨k', rfl, hle, hr⟩
  · rcases hh with ⟨_, ha⟩ | ⟨e, _⟩
    · refine ⟨v, ?_, hr⟩
      rw [List.getElem?_drop] at hv
      simp only [Nat.add_zero, Array.getElem?_toList] at hv
      simp [Go.part, run_isAgg' ha, hv]
    · cases e
  · rcases hh with ⟨e, _⟩ | ⟨e, ha⟩
    · cases e
    · cases e
      refine ⟨_, ?_, hr⟩
      simp [Go.part, run_isAgg' ha, run_sizeOf' hk]
      rw [take_drop_extract]
theorem cuts_run {n c : Nat} {cap : Option Nat} {lo hi mx : Option AV} {ul uh um : Option Value} {l h : Nat} {q : Option Nat} (hcap : ∀ k, cap = some k → c = k) (hn : n ≤ c)
    (hlo : ∀ a, lo = some a → ∃ u, ul = some u ∧ VR g w a u) (hlo' : lo = none → ul = none) (hhi : ∀ a, hi = some a → ∃ u, uh = some u ∧ VR g w a u) (hhi' : hi = none → uh = none)
    (hmx : ∀ a, mx = some a → ∃ u, um = some u ∧ VR g w a u) (hmx' : mx = none → um = none) (hc : cuts n cap lo hi mx = some (l, h, q)) (isS : Bool) :
    ∃ m, (Instr.sliceBounds isS n c ul uh um).run P w = .ok (l, h, m) w ∧ l ≤ h ∧ h ≤ n ∧ h ≤ m ∧ m ≤ c ∧ (∀ k, q = some k → m - l = k) := by
  have sb : ∀ {a : AV} {u : Value} {y j : Nat} (code : BoundsCode), VR g w a u → bound a y = some j → j ≤ y ∧ ∀ y', y ≤ y' → (Instr.sliceBound u y' code).run P w = .ok j w := by
    intro a u y j code hv hb
    obtain ⟨k, rfl, hj⟩ := bound_inv hv hb
    refine ⟨hj, fun y' hy => ?_⟩
    simp only [Instr.sliceBound, asIntOf, Sem.run_bind, Sem.run_pure, Result.andThen_ok]
    rw [if_pos ⟨by omega, by omega⟩]; simp
  cases mx with
  | some m =>
    obtain ⟨uM, rfl, hm⟩ := hmx m rfl
    simp only [cuts] at hc
    obtain ⟨m', h1, hc⟩ := bO.1 hc
    cases hi with
    | none => cases hc
    | some hh =>
      obtain ⟨uH, rfl, hh'⟩ := hhi hh rfl
      obtain ⟨h', h2, hc⟩ := bO.1 hc
      obtain ⟨b1, r1⟩ := sb (if isS then .slice3Acap else .slice3Alen) hm h1
      obtain ⟨b2, r2⟩ := sb .slice3B hh' h2
      cases lo with
      | none =>
        simp only [sI, Prod.mk.injEq] at hc
        obtain ⟨rfl, rfl, rfl⟩ := hc
        refine ⟨m', ?_, by omega, by omega, b2, by omega, by simp⟩
        rw [hlo' rfl]
        simp only [Instr.sliceBounds, Sem.run_bind, r1 c hn, Result.andThen_ok, r2 m' (Nat.le_refl _), Sem.run_pure]
      | some ll =>
        obtain ⟨uL, rfl, hl'⟩ := hlo ll rfl
        obtain ⟨l', h3, hc⟩ := bO.1 hc
        simp only [sI, Prod.mk.injEq] at hc
        obtain ⟨rfl, rfl, rfl⟩ := hc
        obtain ⟨b3, r3⟩ := sb .slice3C hl' h3
        refine ⟨m', ?_, b3, by omega, b2, by omega, by simp⟩
        simp only [Instr.sliceBounds, Sem.run_bind, r1 c hn, Result.andThen_ok, r2 m' (Nat.le_refl _), Option.isSome_some, if_true, r3 h' (Nat.le_refl _), Sem.run_pure]
  | none =>
    rw [hmx' rfl]
    simp only [cuts] at hc
    cases hi with
    | some hh =>
      obtain ⟨uH, rfl, hh'⟩ := hhi hh rfl
      simp only at hc
      obtain ⟨h', h2, hc⟩ := bO.1 hc
      obtain ⟨b2, r2⟩ := sb (if isS then .sliceAcap else .sliceAlen) hh' h2
      cases lo with
      | none =>
        simp only [sI, Prod.mk.injEq] at hc
        obtain ⟨rfl, rfl, rfl⟩ := hc
        refine ⟨c, ?_, by omega, b2, by omega, Nat.le_refl _, fun k hk => by have := hcap k hk; omega⟩
        rw [hlo' rfl]
        simp only [Instr.sliceBounds, Sem.run_bind, Result.andThen_ok, r2 c hn, Sem.run_pure]
      | some ll =>
        obtain ⟨uL, rfl, hl'⟩ := hlo ll rfl
        simp only at hc
        obtain ⟨l', h3, hc⟩ := bO.1 hc
        simp only [sI, Prod.mk.injEq] at hc
        obtain ⟨rfl, rfl, rfl⟩ := hc
        obtain ⟨b3, r3⟩ := sb .sliceB hl' h3
        refine ⟨c, ?_, b3, b2, by omega, Nat.le_refl _, fun k hk => ?_⟩
        · simp only [Instr.sliceBounds, Sem.run_bind, Result.andThen_ok, r2 c hn, Option.isSome_none, Bool.false_eq_true, if_false, r3 h' (Nat.le_refl _), Sem.run_pure]
        · obtain ⟨z, hz, hk⟩ := bO.1 hk
          have := hcap z hz
          simp only [sI] at hk; omega
    | none =>
      rw [hhi' rfl]
      simp only at hc
      cases lo with
      | none =>
        simp only [sI, Prod.mk.injEq] at hc
        obtain ⟨rfl, rfl, rfl⟩ := hc
        refine ⟨c, ?_, by omega, Nat.le_refl _, hn, Nat.le_refl _, fun k hk => by have := hcap k hk; omega⟩
        rw [hlo' rfl]
        simp only [Instr.sliceBounds, Sem.run_bind, Result.andThen_ok, Sem.run_pure]
      | some ll =>
        obtain ⟨uL, rfl, hl'⟩ := hlo ll rfl
        simp only at hc
        obtain ⟨l', h3, hc⟩ := bO.1 hc
        simp only [sI, Prod.mk.injEq] at hc
        obtain ⟨rfl, rfl, rfl⟩ := hc
        obtain ⟨b3, r3⟩ := sb .sliceB hl' h3
        refine ⟨c, ?_, b3, Nat.le_refl _, hn, Nat.le_refl _, fun k hk => ?_⟩
        · simp only [Instr.sliceBounds, Sem.run_bind, Result.andThen_ok, Option.isSome_none, Bool.false_eq_true, if_false, r3 _ (Nat.le_refl _), Sem.run_pure]
        · obtain ⟨z, hz, hk⟩ := bO.1 hk
          have := hcap z hz
          simp only [sI] at hk; omega
theorem VR.sl_empty {e e' : Nat} {cap : Option Nat} {u : Value} (h : VR g w (.sl e [] cap) u) : VR g w (.sl e' [] cap) u := by
  obtain ⟨a, c, f, rfl, h1, h2, _⟩ := h.sl_inv
  exact .fv _ _ (.sl e' [] cap a c f h1 h2 (by simp) (by simp) (by simp) (by simp))
theorem VR.sl_e {e e' : Nat} {xs : List (List AV)} {cap : Option Nat} {u : Value} (h : VR g w (.sl e xs cap) u) (hh : (e' == e || xs.isEmpty) = true) : VR g w (.sl e' xs cap) u := by
  rcases Bool.or_eq_true_iff.1 hh with hh | hh
  · rw [beq_iff_eq] at hh; subst hh; exact h
  · cases xs with
    | nil => exact h.sl_empty
    | cons => cases hh
theorem opt_map_vr {fr : Fr} {act : Act} (F : FRel g w fr act) (lo : Option Operand) : (∀ a, (lo.map cx).map (ev fr) = some a → ∃ u, lo.map act.eval = some u ∧ VR g w a u) ∧ ((lo.map cx).map (ev fr) = none → lo.map act.eval = none) := by
  cases lo with
  | none => exact ⟨fun a h => (by cases h), fun _ => rfl⟩
  | some x => exact ⟨fun a h => by simp at h; subst h; exact ⟨_, rfl, ev_vr F x⟩, fun h => by cases h⟩
theorem slice_run {e t : Nat} {x r : AV} {u : Value} {lo hi mx : Option AV} {ul uh um : Option Value} {et : TypeId} (ht : P.underlying t = some (.slice et)) (he : tsize P et = some e) (hx : VR g w x u)
    (hlo : (∀ a, lo = some a → ∃ u, ul = some u ∧ VR g w a u) ∧ (lo = none → ul = none)) (hhi : (∀ a, hi = some a → ∃ u, uh = some u ∧ VR g w a u) ∧ (hi = none → uh = none))
    (hmx : (∀ a, mx = some a → ∃ u, um = some u ∧ VR g w a u) ∧ (mx = none → um = none)) (h : slice e x lo hi mx = some r) : ∃ v, (Instr.sliceAt t u ul uh um).run P w = .ok v w ∧ VR g w r v := by
  unfold slice at h
  split at h
  · rename_i e' xs cap
    by_cases hee : (e == e' || xs.isEmpty) = true
    case neg => rw [Bool.eq_false_iff.mpr hee] at h; cases h
    rw [hee] at h
    simp only [cond_true] at h
    have hx' := hx.sl_e hee
    obtain ⟨⟨l, hh, q⟩, hc, h⟩ := bO.1 h
    simp only [sI] at h; subst h
    obtain ⟨a, c, f, rfl, h1, h2, h3, h4, h5, h6⟩ := hx'.sl_inv
    obtain ⟨m, hr, b1, b2, b3, b4, b5⟩ := cuts_run (P := P) (w := w) h2 h1 hlo.1 hlo.2 hhi.1 hhi.2 hmx.1 hmx.2 hc true
    refine ⟨.slice (if m = l then a else a.map (·.add (l * e))) (hh - l) (m - l), ?_, ?_⟩
    · simp only [Instr.sliceAt, Instr.slice, Sem.run_bind, run_underlying ht, Result.andThen_ok, hr, run_sizeOf' he, Sem.run_pure]
    · have hlen : ((xs.drop l).take (hh - l)).length = hh - l := by simp; omega
      have := FV.sl (S := g.S) (w := w) e ((xs.drop l).take (hh - l)) q (if m = l then a else a.map (·.add (l * e))) (m - l) (fun j k => f (l + j) k) (by omega) (fun k hk => b5 k hk) (fun y hy => h3 y (List.mem_of_mem_drop (List.mem_of_mem_take hy))) ?_ ?_ ?_
      · rw [hlen] at this; exact .fv _ _ this
      · intro hne
        have hpos : 0 < hh - l := by rw [← hlen]; exact List.length_pos_iff.2 hne
        obtain ⟨ad, rfl, g1, g2⟩ := h4 (by intro e; subst e; simp at b2; omega)
        rw [if_neg (by omega)]
        refine ⟨ad.add (l * e), rfl, fun h => by rw [add_block]; exact g1 h, fun j k hj hk => ?_⟩
        rw [add_add, ← g2 (l + j) k (by rw [hlen] at hj; omega) hk]
        congr 2; rw [Nat.add_mul]; omega
      · intro j k hj hk; exact h5 _ _ (by rw [hlen] at hj; omega) hk
      · intro j y k b hy hb
        rw [List.getElem?_take] at hy
        split at hy
        · rw [List.getElem?_drop] at hy; exact h6 _ _ _ _ hy hb
        · cases hy
  · rename_i q off n e' cap
    by_cases hee : e = e'
    case neg => rw [beq_of_ne hee] at h; cases h
    subst hee
    simp only [beq_self_eq_true, cond_true] at h
    obtain ⟨⟨l, hh, q'⟩, hc, h⟩ := bO.1 h
    simp only [sI] at h; subst h
    obtain ⟨o, c, rfl, h0, h1, h2, h3, h4⟩ := hx.own_inv
    obtain ⟨m, hr, b1, b2, b3, b4, b5⟩ := cuts_run (P := P) (w := w) h2 h1 hlo.1 hlo.2 hhi.1 hhi.2 hmx.1 hmx.2 hc true
    refine ⟨.slice (if m = l then some ⟨g.ρ q, o, none⟩ else some ⟨g.ρ q, o + l * e, none⟩) (hh - l) (m - l), ?_, ?_⟩
    · simp only [Instr.sliceAt, Instr.slice, Sem.run_bind, run_underlying ht, Result.andThen_ok, hr, run_sizeOf' he, Sem.run_pure, Option.map_some, add_none]
    · by_cases hm : m = l
      · rw [if_pos hm]
        exact .own q _ _ _ _ _ _ h0 (by omega) (fun k hk => b5 k hk) (fun hz => by omega) (fun hz => by omega)
      · rw [if_neg hm]
        have hc0 : c ≠ 0 := by omega
        refine .own q _ _ _ _ _ _ h0 (by omega) (fun k hk => b5 k hk) (fun _ => by rw [h3 hc0]; omega) (fun _ => ?_)
        have := h4 hc0
        have h7 : (l + (m - l)) * e ≤ c * e := Nat.mul_le_mul_right e (by omega)
        rw [Nat.add_mul] at h7
        omega
  · cases h
theorem sliceS_run {t : Nat} {x r : AV} {u : Value} {lo hi : Option AV} {ul uh : Option Value} (ht : P.underlying t = some .string) (hx : VR g w x u)
    (hlo : (∀ a, lo = some a → ∃ u, ul = some u ∧ VR g w a u) ∧ (lo = none → ul = none)) (hhi : (∀ a, hi = some a → ∃ u, uh = some u ∧ VR g w a u) ∧ (hi = none → uh = none))
    (h : sliceS x lo hi = some r) : ∃ v, (Instr.sliceAt t u ul uh none).run P w = .ok v w ∧ VR g w r v := by
  unfold sliceS at h
  split at h
  · rename_i s
    have e := hx.lit_inv; subst e
    obtain ⟨⟨l, hh, q⟩, hc, h⟩ := bO.1 h
    simp only [sI] at h; subst h
    obtain ⟨m, hr, b1, b2, b3, b4, b5⟩ := cuts_run (P := P) (w := w) (c := s.size) (um := none) (fun k hk => by cases hk) (Nat.le_refl _) hlo.1 hlo.2 hhi.1 hhi.2 (fun a h => by cases h) (fun _ => rfl) hc false
    refine ⟨.string (s.extract l hh), ?_, .fv _ _ (.lit _)⟩
    simp [Instr.sliceAt, Instr.slice, run_underlying ht, hr]
  · cases h
end
end Go.Ai
namespace Go.Ai
section
variable {P : Program} {g : G} {w : World} {H : List AO} {o : Oper} {act : Act} {id : Nat}
theorem rowAt_inv {r : Nat} {p : List AV × TypeId} (h : rowAt H r = some p) : H[r]? = some (.row p.1 p.2) := by
  unfold rowAt at h
  split at h
  · rename_i cs t he; simp only [sI] at h; subst h; exact he
  · cases h
theorem Rel.row (R : Rel g w H) {r : Nat} {cs : List AV} {t : TypeId} (h : H[r]? = some (.row cs t)) : ∃ arr, w.heap[g.ρ r]? = some (.cells arr t (0, 0)) ∧ arr.size = g.σ r ∧ cs.length + g.δ r ≤ arr.size ∧
    VRs g w cs ((arr.toList.drop (g.δ r)).take cs.length) ∧ (∀ v ∈ arr.toList, v.oneCell' = true) ∧ ¬ g.S (g.ρ r) := by
  obtain ⟨arr, h1, h2, h3, h4, h5, h6⟩ := R.obj r cs t h
  refine ⟨arr, h1, h2, h3, ⟨by simp; omega, fun i a v ha hv => ?_⟩, fun v hv => ?_, h6⟩
  · rw [List.getElem?_take] at hv
    split at hv
    · refine h4 i a v ha ?_
      rw [List.getElem?_drop, Array.getElem?_toList, Nat.add_comm] at hv; exact hv
    · cases hv
  · obtain ⟨i, hi, rfl⟩ := List.mem_iff_getElem.1 hv
    exact h5 i _ (by simp)
theorem load_run {t : TypeId} {n : Option Nat} {x r : AV} {u : Value} (R : Rel g w H) (hn : nOf P t = some n) (hx : VR g w x u) (h : load H n x = some r) : ∃ v, (Instr.loadAt t u).run P w = .ok v w ∧ VR g w r v := by
  obtain ⟨k, hk, hh⟩ := nOf_inv hn
  unfold load at h
  have fin : ∀ (a : Addr) (cs : List AV) (vs : List Value), VRs g w cs vs → (∀ (j : Nat) (v : Value), vs[j]? = some v → w.cell? (a.add j) = some v) → part n cs = some r → ∃ v, (Instr.loadAt t (.pointer (some a))).run P w = .ok v w ∧ VR g w r v := by
    intro a cs vs hv hc hp
    rcases part_vr hv hp with ⟨rfl, v, hv0, hr⟩ | ⟨k', rfl, hle, hr⟩
    · rcases hh with ⟨_, ha⟩ | ⟨e, _⟩
      · refine ⟨v, ?_, hr⟩
        have := hc 0 v hv0
        have e0 : a.add 0 = a := by simp [Addr.add]
        rw [e0] at this
        simp [Instr.loadAt, Instr.sureAddr, loadVar, run_isAgg' ha, this]
      · cases e
    · rcases hh with ⟨e, _⟩ | ⟨e, ha⟩
      · cases e
      · cases e
        refine ⟨_, ?_, hr⟩
        have hl : (vs.take k).length = k := by simp [hle]
        have := run_loadCells_list (P := P) w a (vs.take k) (fun j v hj => hc j v (by rw [List.getElem?_take] at hj; split at hj; exact hj; cases hj))
        rw [hl] at this
        simp [Instr.loadAt, Instr.sureAddr, loadVar, run_isAgg' ha, run_sizeOf' hk, this]
  split at h
  · rename_i q off
    obtain ⟨p, hp, h⟩ := bO.1 h
    obtain ⟨rfl, _⟩ := hx.ptr_inv
    obtain ⟨arr, h1, h2, h3, h4, h5, h6⟩ := R.row (rowAt_inv hp)
    refine fin _ _ _ (h4.drop off) (fun j v hj => ?_) h
    rw [List.getElem?_drop, List.getElem?_take] at hj
    split at hj
    · rw [List.getElem?_drop, Array.getElem?_toList] at hj
      rw [add_none, cell_row h1, show off + g.δ q + j = g.δ q + (off + j) by omega]; exact hj
    · cases hj
  · rename_i xs
    obtain ⟨ad, f, rfl, h1, h2, h3, h4⟩ := hx.ip_inv
    refine fin ad xs ((List.range xs.length).map f) ⟨by simp, fun i a v ha hv => ?_⟩ (fun j v hj => ?_) h
    · have hi : i < xs.length := (List.getElem?_eq_some_iff.1 ha).1
      simp [hi] at hv; subst hv
      exact .fv _ _ (h4 i a ha)
    · have hi : j < xs.length := by have := (List.getElem?_eq_some_iff.1 hj).1; simpa using this
      simp [hi] at hj; subst hj
      exact h2 j hi
  · cases h
theorem run_storeVar' {t : TypeId} {n : Nat} {v : Value} {b off : Nat} {arr : Array Value} {e : TypeId} (hn : tsize P t = some n) (hv : v.cells.size = n) (hb : w.heap[b]? = some (.cells arr e (0, 0))) (hl : off + n ≤ arr.size)
    (h1 : ∀ u ∈ v.cells.toList, u.oneCell' = true) : (Instr.storeAt t (.pointer (some ⟨b, off, none⟩)) v).run P w = .ok () (w.setRow b (arr.toList.take off ++ v.cells.toList ++ arr.toList.drop (off + n)).toArray) := by
  have := run_storeCells_at P b off e v.cells.toList 0 arr w hb (by simp; omega) h1
  simp only [Nat.add_zero, Array.length_toList, hv] at this
  simp [Instr.storeAt, Instr.sureAddr, storeVar, run_sizeOf' hn, hv, this]
theorem row_patch {L vs : List Value} {d off n : Nat} (h : off + d ≤ L.length) : (L.take (off + d) ++ vs ++ L.drop (off + d + n)).drop d = (L.drop d).take off ++ vs ++ (L.drop d).drop (off + n) := by
  have hl : d ≤ (L.take (off + d)).length := by simp; omega
  rw [List.append_assoc, List.drop_append_of_le_length hl, List.drop_take, List.drop_drop, show off + d - d = off by omega, show d + (off + n) = off + d + n by omega, List.append_assoc]
theorem store_ok {t : TypeId} {n : Nat} {a x : AV} {u v : Value} {H' : List AO} (R : Rel g w H) (hn : tsize P t = some n) (ha : VR g w a u) (hx : VR g w x v) (h : storeAt H n a x = some H') :
    ∃ w', (Instr.storeAt t u v).run P w = .ok () w' ∧ Rel g w' H' ∧ Stp g w H g w' H' := by
  unfold storeAt at h
  split at h
  · rename_i r off
    obtain ⟨⟨cs, e⟩, hp, h⟩ := bO.1 h
    by_cases hc : ((cellsOf x).length == n && (cellsOf x).all cellA && Nat.ble (off + n) cs.length) = true
    case neg => rw [Bool.eq_false_iff.mpr hc] at h; cases h
    rw [hc] at h
    simp only [cond_true, sI] at h; subst h
    simp only [Bool.and_eq_true, beq_iff_eq] at hc
    obtain ⟨⟨c1, c2⟩, c3⟩ := hc
    have c3 := Nat.le_of_ble_eq_true c3
    obtain ⟨rfl, _⟩ := ha.ptr_inv
    have hr : H[r]? = some (.row cs e) := rowAt_inv hp
    obtain ⟨arr, h1, h2, h3, h4, h5, h6⟩ := R.row hr
    obtain ⟨k1, k2⟩ := cells_vr hx c2
    have hsz : v.cells.size = n := by rw [← c1, k1.1]; simp
    refine ⟨_, run_storeVar' hn hsz h1 (by omega) k2, ?_⟩
    have hlen : (arr.toList.take (off + g.δ r) ++ v.cells.toList ++ arr.toList.drop (off + g.δ r + n)).length = arr.size := by
      simp [hsz, Nat.min_eq_left (show off + g.δ r ≤ arr.size by omega)]; omega
    refine Rel.write (arr' := (arr.toList.take (off + g.δ r) ++ v.cells.toList ++ arr.toList.drop (off + g.δ r + n)).toArray) R hr rfl rfl rfl (by simp [World.setRow]) (setRow_heap _ _ _ _ _ _ h1) (by simp only [List.size_toArray]; rw [hlen]; exact h2) ?_ ?_ ?_ (fun b hb => setRow_other _ _ _ _ hb)
    · simp only [List.size_toArray]; rw [hlen]; simp [c1, Nat.min_eq_left (show off ≤ cs.length by omega)]; omega
    · have hp := row_patch (L := arr.toList) (d := g.δ r) (off := off) (n := n) (vs := v.cells.toList) (by simp; omega)
      generalize arr.toList.drop (g.δ r) = A at h4 hp
      have e1 : A.take off = (A.take cs.length).take off := by rw [List.take_take, Nat.min_eq_left (by omega)]
      have e2 : VRs g w (cs.take off ++ cellsOf x ++ cs.drop (off + n)) (A.take off ++ v.cells.toList ++ (A.take cs.length).drop (off + n)) := by
        rw [e1]; exact ((h4.take off).append k1).append (h4.drop (off + n))
      intro j y z hy hz
      refine e2.2 j y z hy ?_
      simp only [List.getElem?_toArray] at hz
      rw [Nat.add_comm j, ← List.getElem?_drop, hp] at hz
      have hAl : off ≤ A.length := by
        have := h4.1
        rw [List.length_take] at this
        omega
      rw [List.getElem?_append] at hz ⊢
      split
      · rename_i hj; rw [if_pos hj] at hz; exact hz
      · rename_i hj; rw [if_neg hj] at hz
        have hj2 : j < (cs.take off ++ cellsOf x ++ cs.drop (off + n)).length := (List.getElem?_eq_some_iff.1 hy).1
        rw [List.getElem?_drop, List.getElem?_take]
        rw [List.getElem?_drop] at hz
        have hl1 : (A.take off ++ v.cells.toList).length = off + n := by simp [hsz]; omega
        have hl2 : (cs.take off ++ cellsOf x ++ cs.drop (off + n)).length = cs.length := by simp [c1]; omega
        rw [hl2] at hj2
        rw [hl1] at hj
        rw [if_pos, hz]
        rw [hl1]; omega
    · intro j y hy
      have hm := List.mem_of_getElem? (show (arr.toList.take (off + g.δ r) ++ v.cells.toList ++ arr.toList.drop (off + g.δ r + n))[j]? = some y by simpa using hy)
      rcases List.mem_append.1 hm with hm | hm
      · rcases List.mem_append.1 hm with hm | hm
        · exact h5 y (List.mem_of_mem_take hm)
        · exact k2 y hm
      · exact h5 y (List.mem_of_mem_drop hm)
  · cases h
theorem zeros_inv {t : TypeId} {z : List AV} (h : zeros P t = some z) : ∃ i v, P.info? t = some i ∧ i.zero = some v ∧ v.cells.size = i.size ∧ z.length = i.size ∧ (∀ (g : G) (w : World), VRs g w z v.cells.toList) ∧ ∀ u ∈ v.cells.toList, u.oneCell' = true := by
  unfold zeros at h
  obtain ⟨i, hi, h⟩ := bO.1 h
  obtain ⟨v, hv, h⟩ := bO.1 h
  split at h
  · rename_i hc
    simp only [sI] at h; subst h
    simp only [Bool.and_eq_true, beq_iff_eq] at hc
    have V : ∀ (g : G) (w : World), VRs g w (v.cells.toList.map (ofV 4)) v.cells.toList := by
      intro g w
      refine ⟨by simp, fun i a u h1 h2 => ?_⟩
      rw [List.getElem?_map, h2] at h1
      simp only [Option.map_some, sI] at h1
      subst h1; exact .fv _ _ (ofV_fv _ _ 4 u)
    refine ⟨i, v, hi, hv, hc.2, by simp [hc.2], V, fun u hu => ?_⟩
    obtain ⟨j, hj, rfl⟩ := List.mem_iff_getElem.1 hu
    have hm : ofV 4 v.cells.toList[j] ∈ v.cells.toList.map (ofV 4) := List.mem_map.2 ⟨_, hu, rfl⟩
    have hca := List.all_eq_true.1 hc.1 _ hm
    generalize v.cells.toList[j] = q at hca
    cases q <;> first
      | rfl
      | (simp [ofV, cellA] at hca; done)
  · cases h
theorem alloc_ok {t : TypeId} {z : List AV} (R : Rel g w H) (hid : id ≤ H.length) (hd : ¬ g.D id) (hz : zeros P t = some z) :
    ∃ v w', (Instr.alloc t true (.tuple #[])).run P w = .ok v w' ∧ After g w H id (.val (.ptr id 0) (some (.row z t))) false v w' := by
  obtain ⟨i, v, h1, h2, h3, h4, h5, h6⟩ := zeros_inv hz
  obtain ⟨a, b⟩ := R.new (arr := v.cells) (t := t) hid hd (by omega) (fun j a u ha hu => (h5 g w).2 j a u ha (by simpa using hu)) (fun j u hu => h6 u (List.mem_of_getElem? (show v.cells.toList[j]? = some u by simpa using hu)))
  refine ⟨.pointer (some ⟨w.heap.size, 0, none⟩), w.alloc (.cells v.cells t), ?_, rfl, _, fun r h => h, ?_, a, b⟩
  · simp [Instr.alloc, zeroValue, typeInfo, h1, h2, newVar, newRow]
  · have := VR.ptr (g := g.new id w.heap.size v.cells.size) (w := w.alloc (.cells v.cells t)) id 0 (.inr rfl)
    simpa [G.new] using this
theorem box_ok {t : TypeId} {x : AV} {v : Value} (R : Rel g w H) (hid : id ≤ H.length) (hd : ¬ g.D id) (hx : VR g w x v) (hc : (cellsOf x).all cellA = true) :
    ∃ u w', (Instr.box t v).run P w = .ok u w' ∧ After g w H id (.val (.ptr id 0) (some (.row (cellsOf x) t))) false u w' := by
  obtain ⟨k1, k2⟩ := cells_vr hx hc
  obtain ⟨a, b⟩ := R.new (arr := v.cells) (t := t) hid hd (by rw [k1.1]; simp) (fun j a u ha hu => k1.2 j a u ha (by simpa using hu)) (fun j u hu => k2 u (List.mem_of_getElem? (show v.cells.toList[j]? = some u by simpa using hu)))
  refine ⟨.pointer (some ⟨w.heap.size, 0, none⟩), w.alloc (.cells v.cells t), ?_, rfl, _, fun r h => h, ?_, a, b⟩
  · simp [Instr.box, newVar, newRow]
  · have := VR.ptr (g := g.new id w.heap.size v.cells.size) (w := w.alloc (.cells v.cells t)) id 0 (.inr rfl)
    simpa [G.new] using this
theorem fill_run (place : Nat → Option (Nat × Nat)) : ∀ (ps : List (Nat × Nat × AV)) (qs : List (Nat × Value)) (zs : List AV) (vs : Array Value) (cs : List AV),
    ps.length = qs.length → (∀ (j : Nat) (p : Nat × Nat × AV) (q : Nat × Value), ps[j]? = some p → qs[j]? = some q → place q.1 = some (p.1, p.2.1) ∧ VR g w p.2.2 q.2) → VRs g w zs vs.toList → (∀ u ∈ vs.toList, u.oneCell' = true) → fill zs ps = some cs →
    ∃ us, Instr.fill place vs qs = some us ∧ VRs g w cs us.toList ∧ ∀ u ∈ us.toList, u.oneCell' = true
  | [], [], zs, vs, cs, _, _, hz, h1, h => by
    simp only [fill, sI] at h; subst h
    exact ⟨vs, rfl, hz, h1⟩
  | [], q :: qs, _, _, _, hl, _, _, _, _ => by simp at hl
  | p :: ps, [], _, _, _, hl, _, _, _, _ => by simp at hl
  | (off, n, a) :: ps, (i, v) :: qs, zs, vs, cs, hl, hp, hz, h1, h => by
    simp only [fill] at h
    by_cases hc : ((cellsOf a).length == n && (cellsOf a).all cellA && Nat.ble (off + n) zs.length) = true
    case neg => rw [Bool.eq_false_iff.mpr hc] at h; cases h
    rw [hc] at h
    simp only [cond_true] at h
    simp only [Bool.and_eq_true, beq_iff_eq] at hc
    obtain ⟨⟨c1, c2⟩, c3⟩ := hc
    have c3 := Nat.le_of_ble_eq_true c3
    obtain ⟨p1, p2⟩ := hp 0 _ _ rfl rfl
    obtain ⟨k1, k2⟩ := cells_vr p2 c2
    have hsz : v.cells.size = n := by rw [← c1, k1.1]; simp
    have hvs : zs.length = vs.size := by rw [hz.1]; simp
    obtain ⟨g1, g2⟩ := Great.foldl_set off v.cells.toList 0 vs
    have hnew : ((v.cells.toList.zipIdx 0).foldl (fun cs (x : Value × Nat) => cs.setIfInBounds (off + x.2) x.1) vs).toList = vs.toList.take off ++ v.cells.toList ++ vs.toList.drop (off + n) := by
      apply List.ext_getElem?
      intro k
      rw [Array.getElem?_toList, g2 k]
      simp only [Nat.add_zero, Array.length_toList, hsz]
      rw [List.getElem?_append, List.getElem?_append]
      simp only [List.length_take, Array.length_toList, List.length_append, hsz, Nat.min_eq_left (show off ≤ vs.size by omega)]
      by_cases ha : k < off
      · rw [if_neg (by omega), if_pos (by omega), if_pos ha, List.getElem?_take, if_pos ha]; simp
      · by_cases hb : k < off + n
        · rw [if_pos ⟨by omega, hb, by omega⟩, if_pos hb, if_neg ha]
        · rw [if_neg (by omega), if_neg hb, List.getElem?_drop]; simp; congr 1; omega
    obtain ⟨us, u1, u2, u3⟩ := fill_run place ps qs (zs.take off ++ cellsOf a ++ zs.drop (off + n)) ((v.cells.toList.zipIdx 0).foldl (fun cs (x : Value × Nat) => cs.setIfInBounds (off + x.2) x.1) vs) cs
      (by simpa using hl) (fun j p q hj hq => hp (j + 1) p q (by simpa using hj) (by simpa using hq)) (by rw [hnew]; exact ((hz.take off).append k1).append (hz.drop (off + n)))
      (by
        rw [hnew]
        intro u hu
        rcases List.mem_append.1 hu with hu | hu
        · rcases List.mem_append.1 hu with hu | hu
          · exact h1 u (List.mem_of_mem_take hu)
          · exact k2 u hu
        · exact h1 u (List.mem_of_mem_drop hu)) h
    refine ⟨us, ?_, u2, u3⟩
    rw [Instr.fill, p1]
    simp only
    rw [if_neg (by simp [hsz]; omega), ← u1]
    congr 1
    rw [← Array.foldl_toList, Array.toList_zipIdx]
end
end Go.Ai
namespace Go.Ai
section
variable {P : Program} {g : G} {w : World} {H : List AO} {o : Oper} {act : Act} {id : Nat}
theorem setRow_same (w : World) (b : Nat) (arr : Array Value) : (w.setRow b arr).os = w.os ∧ (w.setRow b arr).tape = w.tape ∧ (w.setRow b arr).output = w.output ∧ (w.setRow b arr).heap.size = w.heap.size := by simp [World.setRow]
theorem flatten_len {e : Nat} : ∀ {xs : List (List AV)}, (∀ x ∈ xs, x.length = e) → xs.flatten.length = xs.length * e
  | [], _ => by simp
  | x :: xs, h => by
    simp only [List.flatten_cons, List.length_append, List.length_cons]
    rw [flatten_len (fun y hy => h y (List.mem_cons_of_mem _ hy)), h x (by simp), Nat.add_mul]; omega
theorem flatten_get {e : Nat} : ∀ {xs : List (List AV)}, (∀ x ∈ xs, x.length = e) → ∀ (i : Nat) (a : AV), xs.flatten[i]? = some a → ∃ x, xs[i / e]? = some x ∧ x[i % e]? = some a ∧ i / e < xs.length ∧ i % e < e
  | [], _, i, a, h => by simp at h
  | x :: xs, hx, i, a, h => by
    have hl : x.length = e := hx x (by simp)
    simp only [List.flatten_cons] at h
    rw [List.getElem?_append] at h
    split at h
    · rename_i hi
      rw [hl] at hi
      rw [Nat.div_eq_of_lt hi, Nat.mod_eq_of_lt hi]
      exact ⟨x, rfl, h, by simp, hi⟩
    · rename_i hi
      rw [hl] at hi h
      have he : 0 < e := by
        rcases Nat.eq_zero_or_pos e with h0 | h0
        · exfalso
          have := flatten_len (e := e) (xs := xs) (fun y hy => hx y (List.mem_cons_of_mem _ hy))
          have h2 := (List.getElem?_eq_some_iff.1 h).1
          rw [this, h0] at h2; simp at h2
        · exact h0
      obtain ⟨y, h1, h2, h3, h4⟩ := flatten_get (fun y hy => hx y (List.mem_cons_of_mem _ hy)) (i - e) a h
      have hd : i / e = (i - e) / e + 1 := by rw [Nat.div_eq_sub_div he (by omega)]
      have hm : i % e = (i - e) % e := by rw [Nat.mod_eq_sub_mod (by omega)]
      rw [hd, hm]
      exact ⟨y, by simpa using h1, h2, by simp; omega, h4⟩
theorem sl_cells {e : Nat} {xs : List (List AV)} {cap : Option Nat} {u : Value} (hx : VR g w (.sl e xs cap) u) : ∃ a c news, u = .slice a xs.length c ∧ xs.length ≤ c ∧ (∀ k, cap = some k → c = k) ∧ VRs g w xs.flatten news ∧ news.length = xs.length * e ∧
    (∀ v ∈ news, v.oneCell' = true) ∧ (xs ≠ [] → ∃ ad, a = some ad ∧ ∀ (j : Nat) (v : Value), news[j]? = some v → w.cell? (ad.add j) = some v) := by
  obtain ⟨a, c, f, rfl, h1, h2, h3, h4, h5, h6⟩ := hx.sl_inv
  have hl := flatten_len h3
  have hlt : ∀ i, i < xs.length * e → i / e < xs.length ∧ i % e < e := by
    intro i hi
    have he : 0 < e := by
      rcases Nat.eq_zero_or_pos e with h | h
      · subst h; simp at hi
      · exact h
    exact ⟨(Nat.div_lt_iff_lt_mul he).2 hi, Nat.mod_lt _ he⟩
  refine ⟨a, c, (List.range (xs.length * e)).map fun i => f (i / e) (i % e), rfl, h1, h2, ⟨by simp [hl], fun i b v hb hv => ?_⟩, by simp, fun v hv => ?_, fun hne => ?_⟩
  · obtain ⟨x, e1, e2, e3, e4⟩ := flatten_get h3 i b hb
    have hi : i < xs.length * e := by rw [← hl]; exact (List.getElem?_eq_some_iff.1 hb).1
    simp [hi] at hv; subst hv
    exact .fv _ _ (h6 _ _ _ _ e1 e2)
  · obtain ⟨i, hi, rfl⟩ := List.mem_map.1 hv
    have := hlt i (by simpa using hi)
    exact h5 _ _ this.1 this.2
  · obtain ⟨ad, rfl, _, g2⟩ := h4 hne
    refine ⟨ad, rfl, fun j v hj => ?_⟩
    have hi : j < xs.length * e := by have := (List.getElem?_eq_some_iff.1 hj).1; simpa using this
    simp [hi] at hj; subst hj
    have := hlt j hi
    rw [← g2 _ _ this.1 this.2]; congr 2; rw [Nat.mul_comm, Nat.div_add_mod]
theorem elems_run {e m : Nat} {y : AV} {ns : List AV} {u : Value} (R : Rel g w H) (hy : VR g w y u) (h : elems H e y = some (m, ns)) : ∃ news, VRs g w ns news ∧ news.length = m * e ∧ (∀ v ∈ news, v.oneCell' = true) ∧
    (∀ w', (Builtin.lenOf u).run P w' = .ok m w') ∧ ∀ w', w'.heap = w.heap → (Builtin.firstCells e m u).run P w' = .ok news.toArray w' := by
  unfold elems at h
  split at h
  · rename_i e' xs cap
    by_cases hee : (e == e' || xs.isEmpty) = true
    case neg => rw [Bool.eq_false_iff.mpr hee] at h; cases h
    rw [hee] at h
    simp only [cond_true, sI, Prod.mk.injEq] at h
    obtain ⟨rfl, rfl⟩ := h
    obtain ⟨a, c, news, rfl, h1, h2, h3, h4, h5, h6⟩ := sl_cells (hy.sl_e hee)
    refine ⟨news, h3, h4, h5, fun w' => rfl, fun w' hw => ?_⟩
    cases xs with
    | nil =>
      have : news = [] := List.eq_nil_of_length_eq_zero (by simpa using h4)
      subst this
      cases a with
      | none => exact run_firstCells_none w' e 0 _ c
      | some ad => exact run_firstCells_some w' e 0 ad _ c [] (by simp) (by simp)
    | cons x xs =>
      obtain ⟨ad, rfl, h7⟩ := h6 (by simp)
      exact run_firstCells_some w' e _ ad _ c news h4 (fun j v hj => by rw [← h7 j v hj]; simp [World.cell?, hw])
  · rename_i r off n e' cap
    by_cases hee : e = e'
    case neg => rw [beq_of_ne hee] at h; cases h
    subst hee
    simp only [beq_self_eq_true, cond_true] at h
    obtain ⟨⟨cs, t⟩, hp, h⟩ := bO.1 h
    by_cases hb : Nat.ble (off + n * e) cs.length = true
    case neg => rw [Bool.eq_false_iff.mpr hb] at h; cases h
    rw [hb] at h
    simp only [cond_true, sI, Prod.mk.injEq] at h
    obtain ⟨rfl, rfl⟩ := h
    have hb := Nat.le_of_ble_eq_true hb
    have hr : H[r]? = some (.row cs t) := rowAt_inv hp
    obtain ⟨arr, h1, h2, h3, h4, h5, h6⟩ := R.row hr
    obtain ⟨o, c, rfl, k0, k1, k2, k3, k4⟩ := hy.own_inv
    have hl : ((((arr.toList.drop (g.δ r)).take cs.length).drop off).take (n * e)).length = n * e := by simp; omega
    refine ⟨(((arr.toList.drop (g.δ r)).take cs.length).drop off).take (n * e), (h4.drop off).take _, hl, fun v hv => h5 v (List.mem_of_mem_drop (List.mem_of_mem_take (List.mem_of_mem_drop (List.mem_of_mem_take hv)))), fun w' => rfl, fun w' hw => ?_⟩
    refine run_firstCells_some w' e n _ n c _ hl (fun j v hj => ?_)
    have hj' : j < n * e := by rw [← hl]; exact (List.getElem?_eq_some_iff.1 hj).1
    have hn : c ≠ 0 := by
      intro h0
      have : n = 0 := by omega
      subst this; simp at hj'
    rw [k3 hn, add_none]
    rw [List.getElem?_take, if_pos hj', List.getElem?_drop, List.getElem?_take] at hj
    split at hj
    · rw [List.getElem?_drop, Array.getElem?_toList] at hj
      rw [cell_row (w := w') (by rw [hw]; exact h1), show off + g.δ r + j = g.δ r + (off + j) by omega]; exact hj
    · cases hj
  · rename_i s
    by_cases he : e = 1
    case neg => rw [beq_of_ne he] at h; cases h
    subst he
    simp only [beq_self_eq_true, cond_true, sI, Prod.mk.injEq] at h
    obtain ⟨rfl, rfl⟩ := h
    have e := hy.lit_inv; subst e
    refine ⟨s.data.toList.map fun b => .int .u8 b.toNat, ⟨by simp, fun i a v h1 h2 => ?_⟩, by simp, by simp [Value.oneCell'], fun w' => rfl, fun w' _ => ?_⟩
    · rw [List.getElem?_map] at h1 h2
      cases hs : s.data.toList[i]? with
      | none => rw [hs] at h1; cases h1
      | some b => rw [hs] at h1 h2; simp at h1 h2; subst h1; subst h2; exact .fv _ _ (.lit _)
    · have : s.extract 0 s.size = s := by
        apply ByteArray.ext
        simp only [ByteArray.data_extract]
        exact Array.extract_size
      simp only [Builtin.firstCells, this, Sem.run_pure]
      congr 1
      apply Array.ext'
      simp
  · cases h
section
variable {t u ty et : TypeId} {i : TypeInfo} {z : Value} (ht : P.underlying t = some (.slice et)) (hu : P.underlying u = some .string ∨ ∃ e2, P.underlying u = some (.slice e2)) (hi : P.info? et = some i) (hz : i.zero = some z)
include ht hu hi hz
theorem run_append_zero {base : Option Addr} {n c : Nat} {y : Value} (hn : n ≤ c) (hl : ∀ w' : World, (Builtin.lenOf y).run P w' = .ok 0 w') (hf : (Builtin.firstCells i.size 0 y).run P w = .ok #[] w) :
    (Builtin.append_ #[t, u] ty #[.slice base n c, y]).run P w = .ok (.slice base n c) w := by
  rcases hu with hd | ⟨e2, hd⟩
  all_goals
    cases base with
    | none => simp [Builtin.append_, run_underlying ht, run_underlying hd, sizeOf, typeInfo, hi, hl, hn, hf]
    | some a => simp [Builtin.append_, run_underlying ht, run_underlying hd, sizeOf, typeInfo, hi, hl, hn, hf, storeCells]
theorem run_append_in {b off n c m : Nat} {y : Value} {news : List Value} {arr : Array Value} {e' : TypeId} (hn : n + m ≤ c) (hl : ∀ w' : World, (Builtin.lenOf y).run P w' = .ok m w') (hf : (Builtin.firstCells i.size m y).run P w = .ok news.toArray w)
    (hb : w.heap[b]? = some (.cells arr e' (0, 0))) (hfit : off + n * i.size + news.length ≤ arr.size) (h1 : ∀ v ∈ news, v.oneCell' = true) :
    (Builtin.append_ #[t, u] ty #[.slice (some ⟨b, off, none⟩) n c, y]).run P w = .ok (.slice (some ⟨b, off, none⟩) (n + m) c) (w.setRow b (arr.toList.take (off + n * i.size) ++ news ++ arr.toList.drop (off + n * i.size + news.length)).toArray) := by
  have hst := run_storeCells_at P b (off + n * i.size) e' news 0 arr w hb (by simpa using hfit) h1
  simp only [Nat.add_zero] at hst
  rcases hu with hd | ⟨e2, hd⟩ <;> simp [Builtin.append_, run_underlying ht, run_underlying hd, sizeOf, typeInfo, hi, hl, hn, hf, add_none, hst]
theorem run_append_out {base : Option Addr} {n c m : Nat} {x y : Value} {olds news : List Value} (hx : x = .slice base n c) (hn : c < n + m) (hl : ∀ w' : World, (Builtin.lenOf y).run P w' = .ok m w') (hf : (Builtin.firstCells i.size m y).run P w.drew = .ok news.toArray w.drew)
    (ho : (Builtin.firstCells i.size n x).run P w.drew = .ok olds.toArray w.drew) (hby : (n + m) * i.bytes ≤ 140737488355328) (h63 : (n + m : Nat) ≤ 9223372036854775807) :
    (Builtin.append_ #[t, u] ty #[x, y]).run P w = .ok (.slice (some ⟨w.heap.size, 0, none⟩) (n + m) (grownCap w (n + m) c et))
        (w.drew.alloc (.cells (olds.toArray ++ news.toArray ++ Builtin.zeroCells z.cells (grownCap w (n + m) c et - (n + m))) et)) := by
  subst hx
  have hn' : ¬ (n + m ≤ c) := by omega
  have h63' : ¬ (9223372036854775807 < ((n : Int) + (m : Int))) := by omega
  have h48' : ¬ (281474976710656 < Builtin.nextslicecap (n + m) c * i.bytes) := by have := growslice_fits (need := n + m) (old := c) (bytes := i.bytes) hn hby; omega
  rcases hu with hd | ⟨e2, hd⟩ <;> simp [Builtin.append_, run_underlying ht, run_underlying hd, sizeOf, typeInfo, zeroValue, hi, hz, hl, hn', h63', h48', Question.forced, hf, ho, newRow, grownCap]
  all_goals (congr 2; apply Array.ext'; simp)
end
theorem Stp.drew (g : G) (w : World) (H : List AO) : Stp g w H g w.drew H := Stp.world rfl rfl rfl rfl
theorem VRs.mono {g' : G} {w' : World} {xs : List AV} {vs : List Value} (h : VRs g w xs vs) (hv : ∀ a v, VR g w a v → VR g' w' a v) : VRs g' w' xs vs := ⟨h.1, fun i a v h1 h2 => hv a v (h.2 i a v h1 h2)⟩
theorem zeroCells_one {z : Array Value} (h : ∀ u ∈ z.toList, u.oneCell' = true) (n : Nat) : ∀ u ∈ (Builtin.zeroCells z n).toList, u.oneCell' = true := by
  intro u hu
  simp only [Builtin.zeroCells, Array.toList_map, Array.toList_range, List.mem_map, List.mem_range] at hu
  obtain ⟨i, hi, rfl⟩ := hu
  have hp : 0 < z.size := by
    rcases Nat.eq_zero_or_pos z.size with h | h
    · rw [h] at hi; simp at hi
    · exact h
  have hm := Nat.mod_lt i hp
  rw [getElem!_pos z (i % z.size) hm]
  exact h _ (by simp)
theorem append_ok {e bytes : Nat} {t u ty et : TypeId} {x y : AV} {v v' : Value} {out : Out} {i : TypeInfo} {zs : List AV} (R : Rel g w H) (hid : id ≤ H.length) (hd : ¬ g.D id)
    (ht : P.underlying t = some (.slice et)) (hu : P.underlying u = some .string ∨ ∃ e2, P.underlying u = some (.slice e2)) (hi : P.info? et = some i) (hz : zeros P et = some zs) (he : i.size = e) (hb : i.bytes = bytes) (he0 : 0 < e) (hb0 : 0 < bytes)
    (hx : VR g w x v) (hy : VR g w y v') (h : append H id e bytes et x y = some out) :
    ∃ r w', (Builtin.append_ #[t, u] ty #[v, v']).run P w = .ok r w' ∧ After g w H id out false r w' := by
  obtain ⟨i', z, hi', hz1, hz2, _, _, hz3⟩ := zeros_inv hz
  rw [hi] at hi'; cases hi'
  subst he; subst hb
  unfold append at h
  obtain ⟨⟨m, ns⟩, hel, h⟩ := bO.1 h
  obtain ⟨news, n1, n2, n3, n4, n5⟩ := elems_run (P := P) R hy hel
  by_cases hm : m = 0
  · subst hm
    simp only [beq_self_eq_true, cond_true] at h
    have hnil : news = [] := List.eq_nil_of_length_eq_zero (by simpa using n2)
    subst hnil
    have hf : (Builtin.firstCells i.size 0 v').run P w = .ok #[] w := n5 w rfl
    split at h
    · simp only [sI] at h; subst h
      obtain ⟨a, c, f, rfl, h1, _⟩ := hx.sl_inv
      exact ⟨_, _, run_append_zero ht hu hi hz1 h1 n4 hf, rfl, g, rfl, hx, R, Stp.refl⟩
    · simp only [sI] at h; subst h
      obtain ⟨o, c, rfl, _, h1, _⟩ := hx.own_inv
      exact ⟨_, _, run_append_zero ht hu hi hz1 h1 n4 hf, rfl, g, rfl, hx, R, Stp.refl⟩
    · cases h
  rw [beq_of_ne hm] at h
  simp only [cond_false] at h
  have small : ∀ k, k * i.bytes ≤ 140737488355328 → k ≤ 9223372036854775807 := fun k hk => by have := Nat.le_mul_of_pos_right k hb0; omega
  have out : ∀ (base : Option Addr) (n c : Nat) (cs : List AV) (olds : List Value), v = .slice base n c → n ≤ c → c < n + m → VRs g w cs olds → olds.length = n * i.size → (∀ v ∈ olds, v.oneCell' = true) →
      (∀ w' : World, w'.heap = w.heap → (Builtin.firstCells i.size n v).run P w' = .ok olds.toArray w') → (n + m) * i.bytes ≤ 140737488355328 →
      ∃ (c' : Nat) (arr : Array Value), (Builtin.append_ #[t, u] ty #[v, v']).run P w = .ok (.slice (some ⟨w.heap.size, 0, none⟩) (n + m) c') (w.drew.alloc (.cells arr et)) ∧ n + m ≤ c' ∧ arr.size = c' * i.size ∧
        (cs ++ ns).length ≤ arr.size ∧ (∀ (j : Nat) (a : AV) (v : Value), (cs ++ ns)[j]? = some a → arr[j]? = some v → VR g w a v) ∧ ∀ (j : Nat) (v : Value), arr[j]? = some v → v.oneCell' = true := by
    intro base n c cs olds hv hnc hlt hcs hol ho1 hof hby
    have hge := grownCap_ge w (n + m) c et
    refine ⟨_, _, run_append_out ht hu hi hz1 hv hlt n4 (n5 w.drew rfl) (hof w.drew rfl) hby (small _ hby), hge, ?_, ?_, fun j a u ha hu' => ?_, fun j u hu' => ?_⟩
    · simp only [Array.size_append, List.size_toArray, size_zeroCells, hz2, hol, n2, ← Nat.add_mul]
      congr 1; omega
    · simp only [Array.size_append, List.size_toArray, List.length_append, hcs.1, n1.1]; omega
    · refine (hcs.append n1).2 j a u ha ?_
      have hj : j < (cs ++ ns).length := (List.getElem?_eq_some_iff.1 ha).1
      have hj2 : j < (olds ++ news).length := by simpa [hcs.1, n1.1] using hj
      rw [← Array.getElem?_toList] at hu'
      simp only [Array.toList_append] at hu'
      rwa [List.getElem?_append_left (by simpa using hj2)] at hu'
    · have hm' := List.mem_of_getElem? (show ((olds.toArray ++ news.toArray ++ Builtin.zeroCells z.cells (grownCap w (n + m) c et - (n + m))).toList)[j]? = some u by rw [Array.getElem?_toList]; exact hu')
      simp only [Array.toList_append, List.mem_append] at hm'
      rcases hm' with (hm' | hm') | hm'
      · exact ho1 u hm'
      · exact n3 u hm'
      · exact zeroCells_one hz3 _ u hm'
  cases x with
  | sl e' xs cap =>
    cases cap with
    | none => cases h
    | some c0 =>
      simp only at h
      by_cases hc : (c0 == xs.length && (i.size == e' || xs.isEmpty) && Nat.ble ((xs.length + m) * i.bytes) 140737488355328) = true
      case neg => rw [Bool.eq_false_iff.mpr hc] at h; cases h
      rw [hc] at h
      simp only [cond_true, sI] at h; subst h
      simp only [Bool.and_eq_true, beq_iff_eq] at hc
      obtain ⟨⟨rfl, hee⟩, hble⟩ := hc
      have hble := Nat.le_of_ble_eq_true hble
      obtain ⟨a, c, olds, rfl, h1, h2, h3, h4, h5, h6⟩ := sl_cells (hx.sl_e hee)
      have hcc := h2 _ rfl
      subst hcc
      have ho : ∀ w' : World, w'.heap = w.heap → (Builtin.firstCells i.size xs.length (.slice a xs.length xs.length)).run P w' = .ok olds.toArray w' := by
        intro w' hw
        cases xs with
        | nil =>
          have : olds = [] := List.eq_nil_of_length_eq_zero (by simpa using h4)
          subst this
          cases a with
          | none => exact run_firstCells_none w' _ _ _ _
          | some ad => exact run_firstCells_some w' _ _ ad _ _ [] (by simp) (by simp)
        | cons x xs =>
          obtain ⟨ad, rfl, h7⟩ := h6 (by simp)
          exact run_firstCells_some w' _ _ ad _ _ olds h4 (fun j v hj => by rw [← h7 j v hj]; simp [World.cell?, hw])
      obtain ⟨c', arr, r1, r2, r3, r4, r5, r6⟩ := out a _ _ _ olds rfl h1 (by omega) h3 h4 h5 ho hble
      obtain ⟨q1, q2⟩ := (R.world (w' := w.drew) rfl).new (arr := arr) (t := et) hid hd r4 (fun j a v ha hv => (Stp.drew g w H).vr (r5 j a v ha hv)) r6
      refine ⟨_, _, r1, rfl, _, fun r h => h, ?_, q1, (Stp.drew g w H).trans q2⟩
      have := VR.own (g := g.new id w.heap.size arr.size) (w := w.drew.alloc (.cells arr et)) id 0 (xs.length + m) i.size none 0 c' (.inr rfl) r2 (fun k hk => by cases hk) (fun _ => by simp [G.new]) (fun _ => by simp [G.new, r3])
      simpa [G.new] using this
  | own r off n e' cap =>
    simp only at h
    obtain ⟨⟨cs, t'⟩, hp, h⟩ := bO.1 h
    by_cases hc : (i.size == e' && t' == et && Nat.ble (off + n * i.size) cs.length && Nat.ble ((n + m) * i.bytes) 140737488355328) = true
    case neg => rw [Bool.eq_false_iff.mpr hc] at h; cases h
    rw [hc] at h
    simp only [cond_true, sI] at h; subst h
    simp only [Bool.and_eq_true, beq_iff_eq] at hc
    obtain ⟨⟨⟨rfl, rfl⟩, hcl⟩, hble⟩ := hc
    have hble := Nat.le_of_ble_eq_true hble
    have hcl := Nat.le_of_ble_eq_true hcl
    have hr : H[r]? = some (.row cs t') := rowAt_inv hp
    obtain ⟨arr, a1, a2, a3, a4, a5, a6⟩ := R.row hr
    obtain ⟨o, c, rfl, k0, k1, k2, k3, k4⟩ := hx.own_inv
    have b4 : VRs g w ((cs.drop off).take (n * i.size)) ((arr.toList.drop (off + g.δ r)).take (n * i.size)) := by
      have := (a4.drop off).take (n * i.size)
      have e : (((arr.toList.drop (g.δ r)).take cs.length).drop off).take (n * i.size) = (arr.toList.drop (off + g.δ r)).take (n * i.size) := by
        rw [List.drop_take, List.take_take, Nat.min_eq_left (by omega), List.drop_drop, Nat.add_comm]
      rwa [e] at this
    have hol : ((arr.toList.drop (off + g.δ r)).take (n * i.size)).length = n * i.size := by rw [List.length_take, List.length_drop, Array.length_toList]; omega
    have hcl0 : ((cs.drop off).take (n * i.size)).length = n * i.size := by rw [List.length_take, List.length_drop]; omega
    generalize hcs0 : (cs.drop off).take (n * i.size) = cs0 at b4 hcl0 ⊢
    by_cases hroom : n + m ≤ c
    · have hc0 : c ≠ 0 := by omega
      have ho := k3 hc0
      subst ho
      have h4 := k4 hc0
      have hfit : (n + m) * i.size ≤ c * i.size := Nat.mul_le_mul_right _ hroom
      rw [Nat.add_mul] at hfit
      have hrun := run_append_in (P := P) (w := w) (ty := ty) ht hu hi hz1 (b := g.ρ r) (off := off + g.δ r) hroom n4 (n5 w rfl) a1 (by rw [n2, a2]; omega) n3
      have hlen : (arr.toList.take (off + g.δ r + n * i.size) ++ news ++ arr.toList.drop (off + g.δ r + n * i.size + news.length)).length = arr.size := by
        simp only [List.length_append, List.length_take, List.length_drop, Array.length_toList]; omega
      obtain ⟨s1, s2, s3, s4⟩ := setRow_same w (g.ρ r) (arr.toList.take (off + g.δ r + n * i.size) ++ news ++ arr.toList.drop (off + g.δ r + n * i.size + news.length)).toArray
      obtain ⟨q1, q2⟩ := Rel.move (d := off + g.δ r) (arr' := (arr.toList.take (off + g.δ r + n * i.size) ++ news ++ arr.toList.drop (off + g.δ r + n * i.size + news.length)).toArray) (cs' := cs0 ++ ns) (t' := t') R hr s1 s2 s3 (by rw [s4]; exact Nat.le_refl _) (.inl rfl) (setRow_heap _ _ _ _ _ _ a1)
        (by simp only [List.size_toArray]; rw [hlen]; simp only [List.length_append, n1.1, hcl0]; omega)
        (fun j a v ha hv => by
          refine (b4.append n1).2 j a v ha ?_
          have hj : j < (cs0 ++ ns).length := (List.getElem?_eq_some_iff.1 ha).1
          have hj2 : j < ((arr.toList.drop (off + g.δ r)).take (n * i.size) ++ news).length := by rw [List.length_append, n1.1, hcl0] at hj; rw [List.length_append, hol]; exact hj
          simp only [List.getElem?_toArray] at hv
          rw [Nat.add_comm j, ← List.getElem?_drop, List.append_assoc, List.drop_append_of_le_length (by rw [List.length_take, Array.length_toList]; omega), List.drop_take, show off + g.δ r + n * i.size - (off + g.δ r) = n * i.size by omega, ← List.append_assoc] at hv
          rwa [List.getElem?_append_left hj2] at hv)
        (fun j v hv => by
          have hm' := List.mem_of_getElem? (show (arr.toList.take (off + g.δ r + n * i.size) ++ news ++ arr.toList.drop (off + g.δ r + n * i.size + news.length))[j]? = some v by simpa using hv)
          simp only [List.mem_append] at hm'
          rcases hm' with (hm' | hm') | hm'
          · exact a5 v (List.mem_of_mem_take hm')
          · exact n3 v hm'
          · exact a5 v (List.mem_of_mem_drop hm'))
        (fun b _ hb => setRow_other _ _ _ _ hb)
      refine ⟨_, _, hrun, rfl, _, ?_, q1, q2⟩
      have := VR.own (g := g.newD H.length (g.ρ r) (arr.toList.take (off + g.δ r + n * i.size) ++ news ++ arr.toList.drop (off + g.δ r + n * i.size + news.length)).toArray.size (off + g.δ r)) (w := w.setRow (g.ρ r) (arr.toList.take (off + g.δ r + n * i.size) ++ news ++ arr.toList.drop (off + g.δ r + n * i.size + news.length)).toArray)
        H.length 0 (n + m) i.size none (off + g.δ r) c (.inr rfl) hroom (fun k hk => by cases hk) (fun _ => by simp [G.newD]) (fun _ => by simp only [G.newD, if_true, List.size_toArray]; rw [hlen, a2]; omega)
      simpa only [G.newD, if_true] using this
    · have ho : ∀ w' : World, w'.heap = w.heap → (Builtin.firstCells i.size n (.slice (some ⟨g.ρ r, o, none⟩) n c)).run P w' = .ok ((arr.toList.drop (off + g.δ r)).take (n * i.size)).toArray w' := by
        intro w' hw
        refine run_firstCells_some w' i.size n _ n c _ hol (fun j v hj => ?_)
        have hj' : j < n * i.size := by rw [← hol]; exact (List.getElem?_eq_some_iff.1 hj).1
        have hn : c ≠ 0 := by
          intro h0
          have : n = 0 := by omega
          subst this; simp at hj'
        rw [k3 hn, add_none]
        rw [List.getElem?_take, if_pos hj', List.getElem?_drop] at hj
        rw [cell_row (w := w') (by rw [hw]; exact a1)]; simpa using hj
      obtain ⟨c', arr', r1, r2, r3, r4, r5, r6⟩ := out _ n c cs0 _ rfl k1 (by omega) b4 hol (fun v hv => a5 v (List.mem_of_mem_drop (List.mem_of_mem_take hv))) ho hble
      have hab : g.ρ r < w.heap.size := R.blt (.of hr)
      obtain ⟨q1, q2⟩ := Rel.move (d := 0) (w' := w.drew.alloc (.cells arr' t')) (arr' := arr') (cs' := cs0 ++ ns) (t' := t') (b := w.heap.size) R hr rfl rfl rfl (by simp) (.inr (Nat.le_refl _)) (heap_alloc_at w.drew _) r4 r5 r6 (fun b hb _ => heap_alloc_lt w.drew _ hb)
      refine ⟨_, _, r1, rfl, _, ?_, q1, q2⟩
      have := VR.own (g := g.newD H.length w.heap.size arr'.size 0) (w := w.drew.alloc (.cells arr' t')) H.length 0 (n + m) i.size none 0 c' (.inr rfl) r2 (fun k hk => by cases hk) (fun _ => by simp [G.newD]) (fun _ => by simp [G.newD, r3])
      simpa [G.newD] using this
  | _ => cases h
end
end Go.Ai
