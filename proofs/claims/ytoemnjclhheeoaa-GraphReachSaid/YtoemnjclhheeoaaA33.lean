/- The abstract interpreter: objects of which the rest of the heap is not told. No condition. -/
import Derived.Test.YtoemnjclhheeoaaA32
namespace Go.Ai
set_option linter.unusedVariables false
set_option linter.unusedSimpArgs false

theorem rowAt_of {H : List AO} {r : Nat} {cs : List AV} {t : TypeId} (h : H[r]? = some (.row cs t)) : rowAt H r = some (cs, t) := by unfold rowAt; rw [h]
theorem getH_set_ne {H : List AO} {r q : Nat} {o : AO} (h : r ≠ q) : (setL H r o)[q]? = H[q]? := by simp [setL, List.getElem?_set, h]
theorem getH_set_eq {H : List AO} {r : Nat} {o x : AO} (h : H[r]? = some x) : (setL H r o)[r]? = some o := by
  have := (List.getElem?_eq_some_iff.1 h).1
  simp [setL, List.getElem?_set, this]
theorem getH_app {H : List AO} {q : Nat} {o x : AO} (h : H[q]? = some x) : (H ++ [o])[q]? = some x := by
  rw [List.getElem?_append_left (List.getElem?_eq_some_iff.1 h).1]; exact h
theorem getH_last (H : List AO) (o : AO) : (H ++ [o])[H.length]? = some o := by simp
theorem setL_len (H : List AO) (r : Nat) (o : AO) : (setL H r o).length = H.length := by simp [setL]

/-- One cell is read. -/
theorem load_ptr {H : List AO} {r off : Nat} {cs : List AV} {t : TypeId} (h : H[r]? = some (.row cs t)) : load H none (.ptr r off) = cs[off]? := by
  simp only [load, rowAt_of h, Option.bind_some, part, List.head?_drop]
/-- One cell is written. -/
theorem store_ptr {H : List AO} {r off : Nat} {cs : List AV} {t : TypeId} {x : AV} (h : H[r]? = some (.row cs t)) (ho : off < cs.length) (hx : cellsOf x = [x]) (hc : cellA x = true) :
    storeAt H 1 (.ptr r off) x = some (setL H r (.row (cs.set off x) t)) := by
  have hb : Nat.ble (off + 1) cs.length = true := Nat.ble_eq_true_of_le ho
  simp only [storeAt, rowAt_of h, Option.bind_some, hx, List.length_cons, List.length_nil, Nat.zero_add, BEq.rfl, List.all_cons, List.all_nil, hc, hb, Bool.and_self, cond_true]
  congr 3
  rw [List.set_eq_take_append_cons_drop, if_pos ho]
  simp
theorem cellsOf_int (k : IntKind) (n : Int) : cellsOf (litI k n) = [litI k n] := rfl
theorem cellsOf_bool (b : Bool) : cellsOf (litB b) = [litB b] := rfl
theorem cellA_int (k : IntKind) (n : Int) : cellA (litI k n) = true := rfl
theorem cellA_bool (b : Bool) : cellA (litB b) = true := rfl

/-- A slice of one object is appended to one of another. -/
theorem append_own {H : List AO} {id r n q m e bytes : Nat} {c c' : Option Nat} {cs ds : List AV} {t u : TypeId} (hr : H[r]? = some (.row cs t)) (hq : H[q]? = some (.row ds u)) (hm : 0 < m) (hn : n * e ≤ cs.length) (hd : m * e ≤ ds.length) (hb : (n + m) * bytes ≤ 140737488355328) :
    append H id e bytes t (.own r 0 n e c) (.own q 0 m e c') = some (.wr (.own H.length 0 (n + m) e none) (setL H r .dead ++ [.row (cs.take (n * e) ++ ds.take (m * e)) t])) := by
  have hm' : (m == 0) = false := by simpa using (show m ≠ 0 by omega)
  have h1 : Nat.ble (n * e) cs.length = true := Nat.ble_eq_true_of_le hn
  have h2 : Nat.ble (0 + m * e) ds.length = true := Nat.ble_eq_true_of_le (by omega)
  have h3 : Nat.ble ((n + m) * bytes) 140737488355328 = true := Nat.ble_eq_true_of_le hb
  simp only [append, elems, BEq.rfl, cond_true, rowAt_of hq, h2, Option.bind_some, hm', cond_false, rowAt_of hr, Bool.and_self, h1, h3, List.drop_zero]
theorem append_none {H : List AO} {id r off n e e' bytes : Nat} {c c' : Option Nat} {t : TypeId} : append H id e bytes t (.own r off n e c) (.sl e' [] c') = some (.val (.own r off n e c) none) := by
  simp [append, elems]
theorem append_none' {H : List AO} {id e e' e'' bytes : Nat} {xs : List (List AV)} {c c' : Option Nat} {t : TypeId} : append H id e bytes t (.sl e'' xs c) (.sl e' [] c') = some (.val (.sl e'' xs c) none) := by
  simp [append, elems]

theorem slice_own_to {e r off n : Nat} {c : Option Nat} {k : IntKind} {z : Int} (h0 : 0 ≤ z) (h1 : z ≤ n) : slice e (.own r off n e c) none (some (litI k z)) none = some (.own r off z.toNat e c) := by
  simp only [slice, BEq.rfl, cond_true, cuts, bound, litI, h0, h1, decide_true, Bool.and_self, Option.bind_some]
  simp
end Go.Ai
