/- The abstract interpreter: what single operations tell, as equations. No condition. -/
import Derived.Test.YtoemnjclhheeoaaA26
import Derived.IntWalk
namespace Go.Ai
set_option linter.unusedVariables false
set_option linter.unusedSimpArgs false
set_option linter.unusedSectionVars false
section
variable {call : CallF} {mt : MtF} {md : FuncId → Md} {H : List AO} {id : Nat} {fr : Fr}

/-! ### Frames -/
theorem get_nil (t : Nat) : get [] t = .any := rfl
theorem get_cons (k : Nat) (a : AV) (r : Fr) (t : Nat) : get ((k, a) :: r) t = if k = t then a else get r t := by
  simp only [get]; by_cases h : k = t <;> simp [h, beq_of_ne]
theorem put_nil (t : Nat) (a : AV) : put [] t a = [(t, a)] := rfl
theorem put_cons (k : Nat) (b : AV) (r : Fr) (t : Nat) (a : AV) : put ((k, b) :: r) t a = if t < k then (t, a) :: (k, b) :: r else if k = t then (t, a) :: r else (k, b) :: put r t a := by
  simp only [put]
  by_cases h : t < k
  · have : Nat.blt t k = true := by rw [Nat.blt_eq]; exact h
    simp [h, this]
  · have : Nat.blt t k = false := by rw [← Bool.not_eq_true, Nat.blt_eq]; exact h
    simp only [this, cond_false, h, if_false]
    by_cases e : k = t <;> simp [e, beq_of_ne]
theorem keep_nil (l : List Nat) : keep l [] = [] := rfl
theorem keep_cons (l : List Nat) (k : Nat) (b : AV) (r : Fr) : keep l ((k, b) :: r) = if k ∈ l then (k, b) :: keep l r else keep l r := by
  unfold keep; rw [List.filter_cons]; by_cases h : k ∈ l <;> simp [h]
theorem putD_some (d : Nat) (a : AV) : putD fr (some d) a = put fr d a := rfl
theorem putD_none (a : AV) : putD fr none a = fr := rfl
theorem ev_s (t : Nat) : ev fr (.s t) = get fr t := rfl
theorem ev_k (a : AV) : ev fr (.k a) = a := rfl

/-! ### Operations -/
theorem core_mv (x : X) : core call mt md H id (.mv x) fr = some (.val (ev fr x) none) := rfl
theorem core_pick (c a b : X) : core call mt md H id (.pick c a b) fr = bindO (asBool (ev fr c)) fun t => some (.val (pickV t (ev fr a) (ev fr b)) none) := rfl
theorem core_alloc (z : List AV) (t : TypeId) : core call mt md H id (.alloc z t) fr = some (.val (.ptr id 0) (some (.row z t))) := rfl
theorem core_load (n : Option Nat) (a : X) : core call mt md H id (.load n a) fr = valO (load H n (ev fr a)) := rfl
def wrO (v : AV) (x : Option (List AO)) : Option Out := x.bind fun H' => some (.wr v H')
theorem wrO_some (v : AV) (H' : List AO) : wrO v (some H') = some (.wr v H') := rfl
theorem core_store (n : Nat) (a x : X) : core call mt md H id (.store n a x) fr = wrO .any (storeAt H n (ev fr a) (ev fr x)) := rfl
theorem core_clr (e : Nat) (z : List AV) (x : X) : core call mt md H id (.clr e z x) fr = wrO (.tup []) (clrAt H e z (ev fr x)) := rfl
theorem core_nilck (x : X) : core call mt md H id (.nilck x) fr = valO (nilck (ev fr x)) := rfl
theorem core_bin (op : BinOp) (x y : X) : core call mt md H id (.bin op x y) fr = valO (bin op (ev fr x) (ev fr y)) := rfl
theorem core_binb (op : BinOp) (x y : X) : core call mt md H id (.binb op x y) fr = valO (binb op (ev fr x) (ev fr y)) := rfl
theorem core_un (op : UnOp) (x : X) : core call mt md H id (.un op x) fr = valO (unop op (ev fr x)) := rfl
theorem core_fadr (off : Nat) (x : X) : core call mt md H id (.fadr off x) fr = valO (fadr off (ev fr x)) := rfl
theorem core_iadr (e : Nat) (x i : X) : core call mt md H id (.iadr e x i) fr = valO (iadr e (ev fr x) (ev fr i)) := rfl
theorem core_sli (e : Nat) (x : X) (lo hi mx : Option X) : core call mt md H id (.sli e x lo hi mx) fr = valO (slice e (ev fr x) (lo.map (ev fr)) (hi.map (ev fr)) (mx.map (ev fr))) := rfl
theorem core_len (x : X) : core call mt md H id (.len x) fr = valO (lenV (ev fr x)) := rfl
theorem core_lenS (x : X) : core call mt md H id (.lenS x) fr = valO (lenS (ev fr x)) := rfl
theorem core_idxS (x i : X) : core call mt md H id (.idxS x i) fr = valO (idxS (ev fr x) (ev fr i)) := rfl
theorem core_app (e bytes : Nat) (t : TypeId) (x y : X) : core call mt md H id (.app e bytes t x y) fr = append H id e bytes t (ev fr x) (ev fr y) := rfl
theorem core_mki (t : TypeId) (x : X) : core call mt md H id (.mki t x) fr = some (.val (.iface t (ev fr x)) none) := rfl
theorem core_call (g : FuncId) (a b : List AV) (args : List X) : core call mt md H id (.call (.k (.fn (.func g) a b)) args) fr = callV call md g (a ++ args.map (ev fr) ++ b) H id := rfl
def extV (i : Nat) : AV → Option AV
  | .tup xs => xs[i]?
  | _ => none
theorem core_extV (x : X) (i : Nat) : core call mt md H id (.ext x i) fr = valO (extV i (ev fr x)) := by
  simp only [core]; generalize ev fr x = a; cases a <;> rfl
def fldV (off : Nat) (n : Option Nat) : AV → Option AV
  | .agg cs => part n (cs.drop off)
  | _ => none
theorem core_fld (off : Nat) (n : Option Nat) (x : X) : core call mt md H id (.fld off n x) fr = valO (fldV off n (ev fr x)) := by
  simp only [core]; generalize ev fr x = a; cases a <;> rfl
def mksV (id e bytes : Nat) (zero : List AV) (t : TypeId) : AV → AV → Option Out
  | .lit (.int .i64 l), .lit (.int .i64 c) => bif (decide (0 ≤ l) && decide (l ≤ c) && decide (c * bytes ≤ 140737488355328) && decide (c ≤ 140737488355328)) then some (.val (.own id 0 l.toNat e (some c.toNat)) (some (.row (reps l.toNat zero) t))) else none
  | _, _ => none
theorem core_mks (e bytes : Nat) (zero : List AV) (t : TypeId) (l c : X) : core call mt md H id (.mks e bytes zero t l c) fr = mksV id e bytes zero t (ev fr l) (ev fr c) := rfl

/-! ### Values -/
theorem bin_eql (k : IntKind) (a b : Int) : bin .eql (litI k a) (litI k b) = some (litB (a == b)) := by simp [bin, litI, binI]
theorem bin_neq (k : IntKind) (a b : Int) : bin .neq (litI k a) (litI k b) = some (litB (a != b)) := by simp [bin, litI, binI]
theorem bin_lss (k : IntKind) (a b : Int) : bin .lss (litI k a) (litI k b) = some (litB (decide (a < b))) := by simp [bin, litI, binI]
theorem bin_leq (k : IntKind) (a b : Int) : bin .leq (litI k a) (litI k b) = some (litB (decide (a ≤ b))) := by simp [bin, litI, binI]
theorem bin_gtr (k : IntKind) (a b : Int) : bin .gtr (litI k a) (litI k b) = some (litB (decide (b < a))) := by simp [bin, litI, binI]
theorem bin_geq (k : IntKind) (a b : Int) : bin .geq (litI k a) (litI k b) = some (litB (decide (b ≤ a))) := by simp [bin, litI, binI]
theorem bin_add (k : IntKind) (a b : Int) : bin .add (litI k a) (litI k b) = some (litI k (k.wrap (a + b))) := by simp [bin, litI, binI]
theorem bin_sub (k : IntKind) (a b : Int) : bin .sub (litI k a) (litI k b) = some (litI k (k.wrap (a - b))) := by simp [bin, litI, binI]
theorem bin_mul (k : IntKind) (a b : Int) : bin .mul (litI k a) (litI k b) = some (litI k (k.wrap (a * b))) := by simp [bin, litI, binI]
theorem unop_not (b : Bool) : unop .not (litB b) = some (litB !b) := rfl
theorem asBool_lit (b : Bool) : asBool (litB b) = some b := rfl
theorem asG_lit (b : Bool) : asG (litB b) = some (some b) := rfl
theorem asG_undef : asG (.lit undef) = some none := rfl
theorem pickV_lit (c p q : Bool) : pickV c (litB p) (litB q) = litB (bif c then p else q) := rfl
theorem lenV_sl (e : Nat) (xs : List (List AV)) (c : Option Nat) : lenV (.sl e xs c) = some (litI .i64 xs.length) := rfl
theorem lenV_own (r off n e : Nat) (c : Option Nat) : lenV (.own r off n e c) = some (litI .i64 n) := rfl
theorem load_ip (xs : List AV) : load H none (.ip xs) = xs.head? := rfl
theorem wrap_small {z : Int} (h1 : -9223372036854775808 ≤ z) (h2 : z ≤ 9223372036854775807) : IntKind.wrap .i64 z = z := by
  rw [IntKind.wrap_i64]; omega
/-- An index that is a natural number. -/
theorem iadr_sl (e : Nat) (xs : List (List AV)) (c : Option Nat) (k : IntKind) (z : Int) : iadr e (.sl e xs c) (litI k z) = if 0 ≤ z then (xs[z.toNat]?).map .ip else none := by
  simp only [iadr, idx, litI]
  by_cases h : 0 ≤ z
  · by_cases h2 : z < xs.length
    · have h3 : z.toNat < xs.length := by omega
      simp [h, h2, List.getElem?_eq_getElem h3]
    · have h3 : xs.length ≤ z.toNat := by omega
      simp [h, h2, List.getElem?_eq_none h3]
  · simp [h]
theorem iadr_own (e r off n : Nat) (c : Option Nat) (k : IntKind) (z : Int) : iadr e (.own r off n e c) (litI k z) = if 0 ≤ z ∧ z < n then some (.ptr r (off + z.toNat * e)) else none := by
  simp only [iadr, idx, litI]
  by_cases h : 0 ≤ z <;> by_cases h2 : z < (n : Int) <;> simp [h, h2]
end
end Go.Ai
