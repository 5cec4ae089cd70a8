/- The abstract interpreter: slices of ints that grow, are sorted and made lean. No condition. -/
import Derived.Test.YtoemnjclhheeoaaA31
namespace Go.Ai
set_option linter.unusedVariables false
set_option linter.unusedSimpArgs false

/-- Ints as cells. -/
def cellsI (l : List Int) : List AV := l.map (litI .i64)
theorem cellsI_len (l : List Int) : (cellsI l).length = l.length := by simp [cellsI]

/-- A slice of ints that is made by appending alone, and the heap then, where it was empty before. -/
def outA : List Int → AV
  | [] => .sl 0 [] (some 0)
  | x :: l => .own l.length 0 (l.length + 1) 1 none
def outH (t : TypeId) : List Int → List AO
  | [] => []
  | x :: l => List.replicate l.length .dead ++ [.row (cellsI (x :: l)) t]
theorem outH_len (t : TypeId) (l : List Int) : (outH t l).length = l.length := by cases l <;> simp [outH]
theorem outH_get (t : TypeId) (x : Int) (l : List Int) : (outH t (x :: l))[l.length]? = some (.row (cellsI (x :: l)) t) := by simp [outH]
theorem lenV_outA (l : List Int) : lenV (outA l) = some (litI .i64 l.length) := by cases l <;> simp [outA, lenV]

theorem outH_snoc (t : TypeId) (x y : Int) (l : List Int) : setL (outH t (x :: l)) l.length .dead ++ [.row (cellsI (x :: l) ++ [litI .i64 y]) t] = outH t (x :: l ++ [y]) := by
  have : outH t (x :: l ++ [y]) = List.replicate (l.length + 1) .dead ++ [.row (cellsI (x :: l ++ [y])) t] := by simp [outH]
  rw [this]
  have e : cellsI (x :: l ++ [y]) = cellsI (x :: l) ++ [litI .i64 y] := by simp [cellsI]
  rw [e]
  congr 1
  simp only [setL, outH]
  rw [List.set_append_right _ _ (by simp)]
  simp [List.replicate_succ']

theorem append_out {t : TypeId} {l : List Int} {y : Int} {c : Option Nat} (h : l.length < 1099511627776) {d : Option Nat} {fr : Fr} {k : Fr → List AO → Option S} :
    opS (append (outH t l) (outH t l).length 1 8 t (outA l) (.sl 1 [[litI .i64 y]] c)) d fr (outH t l) k = k (putD fr d (outA (l ++ [y]))) (outH t (l ++ [y])) := by
  cases l with
  | nil => rfl
  | cons x l =>
    have h1 : rowAt (outH t (x :: l)) l.length = some (cellsI (x :: l), t) := by unfold rowAt; rw [outH_get]
    have h2 : (cellsI (x :: l)).take ((l.length + 1) * 1) = cellsI (x :: l) := List.take_of_length_le (by simp [cellsI])
    have h3 : Nat.ble ((l.length + 1) * 1) (cellsI (x :: l)).length = true := Nat.ble_eq_true_of_le (by simp [cellsI])
    have h4 : Nat.ble ((l.length + 1 + 1) * 8) 140737488355328 = true := Nat.ble_eq_true_of_le (by simp at h; omega)
    have e : append (outH t (x :: l)) (outH t (x :: l)).length 1 8 t (outA (x :: l)) (.sl 1 [[litI .i64 y]] c) = some (.wr (.own (outH t (x :: l)).length 0 (l.length + 1 + 1) 1 none) (setL (outH t (x :: l)) l.length .dead ++ [.row (cellsI (x :: l) ++ [litI .i64 y]) t])) := by
      simp only [append, elems, outA, BEq.rfl, Bool.true_or, cond_true, Option.bind_some, List.length_cons, List.length_nil, Nat.zero_add, Nat.reduceBEq, cond_false, h1, h2, h3, h4, Bool.and_self, List.flatten_cons, List.flatten_nil, List.append_nil]
    rw [e, opS_wr, outH_snoc, outH_len]
    congr 1
    simp [outA]

/-- A literal of one element. -/
def bsV (H : List AO) (z a : AV) : Option Out := (fill (reps 1 [z]) [(0 * 1, 1, a)]).bind fun cs =>
  (mapL (frz H frzF) cs).bind fun p => bif p.2.isEmpty then some (.val (.sl 1 (chunks 1 1 p.1) (some 1)) none) else none
theorem core_bslice1 {call : CallF} {mt : MtF} {md : FuncId → Md} {H : List AO} {id : Nat} {fr : Fr} {t : TypeId} (x : X) (z : AV) :
    core call mt md H id (.bslice false 1 1 [z] [(0, x)] t) fr = bsV H z (ev fr x) := rfl
theorem bsV_int (H : List AO) (z : AV) (k : IntKind) (n : Int) : bsV H z (litI k n) = some (.val (.sl 1 [[litI k n]] (some 1)) none) := rfl

/-! ### The library's three -/
theorem sortG_row {H : List AO} {r off : Nat} {cap : Option Nat} {t : TypeId} {pre post : List AV} {l : List Int} (hr : H[r]? = some (.row (pre ++ cellsI l ++ post) t)) (ho : pre.length = off) (h0 : l ≠ []) (hb : l.length ≤ 1099511627776) :
    sortG [.own r off l.length 1 cap] H = some (.ret (.tup []), setL H r (.row (pre ++ cellsI (sortI l) ++ post) t)) := by
  have hn : (l.length == 0) = false := by simpa using h0
  have hble : Nat.ble l.length 1099511627776 = true := Nat.ble_eq_true_of_le hb
  have hrow : rowAt H r = some (pre ++ cellsI l ++ post, t) := by unfold rowAt; rw [hr]
  have h2 : Nat.ble (off + l.length) (pre ++ cellsI l ++ post).length = true := Nat.ble_eq_true_of_le (by simp [cellsI]; omega)
  have h3 : ((pre ++ cellsI l ++ post).drop off).take l.length = cellsI l := by
    rw [← ho, List.append_assoc, List.drop_left', List.take_left']
    · simp [cellsI]
    · rfl
  have h4 : intsOf (cellsI l) = some l := intsOf_map l
  have h5 : (pre ++ cellsI l ++ post).take off = pre := by rw [List.append_assoc, List.take_left' ho]
  have h6 : (pre ++ cellsI l ++ post).drop (off + l.length) = post := by rw [List.drop_left']; simp [cellsI, ho]
  have h7 : Nat.ble (sortI l).length l.length = true := Nat.ble_eq_true_of_le (by rw [sortI_len]; exact Nat.le_refl _)
  have e : sortG [.own r off l.length 1 cap] H = intsG sortI (fun _ _ _ _ => .tup []) [.own r off l.length 1 cap] H := rfl
  rw [e]
  simp only [intsG, BEq.rfl, hble, Bool.and_self, cond_true, hn, cond_false, hrow, Option.bind_some, h2, h3, h4, h5, h6, sortI_len, Nat.sub_self, List.replicate_zero, List.append_nil]
  rw [show Nat.ble l.length l.length = true from Nat.ble_eq_true_of_le (Nat.le_refl _)]
  rfl

theorem compI_len : ∀ l : List Int, (compI' l).length ≤ l.length
  | [] => Nat.le_refl _
  | [x] => Nat.le_refl _
  | x :: y :: r => by
    have := compI_len (y :: r)
    simp only [compI']
    cases x == y
    · simp only [cond_false, List.length_cons] at this ⊢; omega
    · simp only [cond_true, List.length_cons] at this ⊢; omega
theorem compI_ne : ∀ l : List Int, l ≠ [] → compI' l ≠ []
  | [], h => absurd rfl h
  | [x], _ => by simp [compI']
  | x :: y :: r, _ => by
    have := compI_ne (y :: r) (by simp)
    simp only [compI']
    cases x == y
    · simp
    · simpa using this

theorem compactG_row {H : List AO} {r off : Nat} {cap : Option Nat} {t : TypeId} {pre post : List AV} {l : List Int} (hr : H[r]? = some (.row (pre ++ cellsI l ++ post) t)) (ho : pre.length = off) (h0 : l ≠ []) (hb : l.length ≤ 1099511627776) :
    compactG [.own r off l.length 1 cap] H = some (.ret (.own r off (compI' l).length 1 cap), setL H r (.row (pre ++ cellsI (compI' l ++ List.replicate (l.length - (compI' l).length) 0) ++ post) t)) := by
  have hn : (l.length == 0) = false := by simpa using h0
  have hble : Nat.ble l.length 1099511627776 = true := Nat.ble_eq_true_of_le hb
  have hrow : rowAt H r = some (pre ++ cellsI l ++ post, t) := by unfold rowAt; rw [hr]
  have h2 : Nat.ble (off + l.length) (pre ++ cellsI l ++ post).length = true := Nat.ble_eq_true_of_le (by simp [cellsI]; omega)
  have h3 : ((pre ++ cellsI l ++ post).drop off).take l.length = cellsI l := by
    rw [← ho, List.append_assoc, List.drop_left', List.take_left']
    · simp [cellsI]
    · rfl
  have h4 : intsOf (cellsI l) = some l := intsOf_map l
  have h5 : (pre ++ cellsI l ++ post).take off = pre := by rw [List.append_assoc, List.take_left' ho]
  have h6 : (pre ++ cellsI l ++ post).drop (off + l.length) = post := by rw [List.drop_left']; simp [cellsI, ho]
  have h7 : Nat.ble (compI' l).length l.length = true := Nat.ble_eq_true_of_le (compI_len l)
  have e : compactG [.own r off l.length 1 cap] H = intsG compI' (fun r off cap n => .own r off n 1 cap) [.own r off l.length 1 cap] H := rfl
  rw [e]
  simp only [intsG, BEq.rfl, hble, Bool.and_self, cond_true, hn, cond_false, hrow, Option.bind_some, h2, h3, h4, h5, h6, h7]
  rfl
end Go.Ai
