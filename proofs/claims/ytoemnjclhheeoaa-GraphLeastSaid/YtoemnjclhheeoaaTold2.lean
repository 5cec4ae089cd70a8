/- Layer 7: container/heap over a row of ints, told. No condition. -/
import Derived.Test.YtoemnjclhheeoaaTold1
namespace Go.Proofs.Ytoemnjclhheeoaa.Ai
open Go Go.Ai
set_option linter.unusedSimpArgs false
set_option linter.unusedVariables false

/-- A row of ints, told whole. -/
def rowC (l : List Int) (c : Option Nat) : AV := .sl 1 (l.map fun i => [litI .i64 i]) c
theorem lenV_rowC (l : List Int) (c : Option Nat) : lenV (rowC l c) = some (litI .i64 l.length) := by simp [rowC, lenV]
theorem iadr_rowC (l : List Int) (c : Option Nat) (n : Nat) : iadr 1 (rowC l c) (litI .i64 n) = (l[n]?).map fun r => .ip [litI .i64 r] := by
  rw [rowC, iadr_sl]; simp [Function.comp_def]
theorem getI {l : List Int} {n : Nat} (h : n < l.length) : l[n]? = some (l.getD n 0) := by
  rw [List.getD_eq_getElem?_getD, List.getElem?_eq_getElem h]; rfl

theorem cells_whole (l : List Int) : (cellsI l).all whole = true := by
  rw [List.all_eq_true]; intro a ha
  obtain ⟨b, _, rfl⟩ := List.mem_map.1 ha; rfl

/-- An own row of ints, frozen. -/
theorem frz_ints {H : List AO} {p k n : Nat} {l : List Int} {z : List AV} {c : Option Nat} {t : TypeId} (h : H[p]? = some (.row (cellsI l ++ z) t)) (hz : z.all whole = true) (hn : n = l.length) : frz H (k + 2) (.own p 0 n 1 c) = some (rowC l c, [p]) := by
  subst hn
  rw [frz_own h (by simp [cellsI]) (by rw [List.all_append, cells_whole, hz]; rfl)]
  rw [List.take_left' (by simp [cellsI])]
  simp [rowC, cellsI, Function.comp_def]

theorem less_tells (l : List Int) (c : Option Nat) (i j : Nat) (hi : i < l.length) (hj : j < l.length) : cw 60 [rowC l c, litI .i64 i, litI .i64 j] [] = some (.ret (litB (decide (l.getD i 0 < l.getD j 0))), []) := by
  refine cw_of fn60 (c := c60) rfl rfl rfl rfl ?_
  simp -implicitDefEqProofs only [c60, codeW_seq, codeW_reg, codeW_cond, codeW_block, codeW_loop, codeW_skip, codeW_exit, codeW_ret, thenS_normal, thenS_if, thenS_ret, thenS_exit, thenS_pan, thenS_none, blockS_normal, blockS_exit, blockS_ret, blockS_pan, blockS_if, condS_some, ifS_true, ifS_false, opS_val, opS_new, opS_wr, opS_fz, opS_pan, bindO_some, runS_nil, runS_cons, runS_guard, gS_t, gS_f, gS_undef, asG_lit, asG_undef, core_mv, core_pick, core_alloc, core_load, core_store, core_clr, core_nilck, core_bin, core_binb, core_un, core_fadr, core_iadr, core_sli, core_len, core_lenS, core_idxS, core_app, core_mki, core_call, core_extV, core_fld, core_mks, wrO_some, valO_some, lenV_sl, lenV_own, bin_eql, bin_neq, bin_lss, bin_leq, bin_gtr, bin_geq, bin_add, bin_sub, bin_mul, unop_not, asBool_lit, pickV_lit, load_ip, iadr_sl, iadr_own, ev_s, ev_k, get_cons, get_nil, put_cons, put_nil, putD_some, putD_none, keep_cons, keep_nil, initFr, Nat.reduceEqDiff, Nat.reduceLT, Nat.reduceAdd, if_true, if_false, List.mem_cons, List.not_mem_nil, or_false, false_or, or_true, true_or, or_self, ↓reduceIte, Nat.zero_add, decide_false, decide_true, Nat.reduceBEq, beq_self_eq_true, BEq.rfl, Option.map_some, Option.map_none, List.head?_cons, List.map_cons, List.map_nil, List.append_nil, List.nil_append, List.cons_append, Bool.not_true, Bool.not_false, cond_true, cond_false, Int.natCast_nonneg, Int.toNat_natCast, Int.ofNat_toNat, core_bslice1, bsV_int, codeW_drawn, headS_cons, headS_nil, headS_guard, hS_val, hS_new, tailS_nil, tailS_cons, tailS_guard, tlS_val, tlS_new, tlS_wr, tlS_fz, tlS_pan, anyMk_cons, anyMk_nil, makes, binb_eql, binb_neq, List.isEmpty_nil, List.isEmpty_cons, Bool.or_false, Bool.false_or, Bool.or_true, Bool.true_or, pickV_t, pickV_f, core_inv, core_callS, fnV_func, core_tas, tasV_iface, nilck_ptr, extV_tup, fldV_agg, List.getElem?_cons_zero, List.getElem?_cons_succ, iadr_rowC, getI hi, getI hj]
  rfl

def swapL (l : List Int) (i j : Nat) : List Int := (l.set i (l.getD j 0)).set j (l.getD i 0)
theorem swapL_len (l : List Int) (i j : Nat) : (swapL l i j).length = l.length := by simp [swapL]

theorem cellsZ_get {l : List Int} {z : List AV} {n : Nat} (h : n < l.length) : (cellsI l ++ z)[n]? = some (litI .i64 (l.getD n 0)) := by
  rw [List.getElem?_append_left (by simpa [cellsI] using h), cellsI_get, getI h]; rfl
theorem cellsZ_set {l : List Int} {z : List AV} {n : Nat} {x : Int} (h : n < l.length) : (cellsI l ++ z).set n (litI .i64 x) = cellsI (l.set n x) ++ z := by
  rw [List.set_append_left _ _ (by simpa [cellsI] using h)]; simp [cellsI]

theorem swap_tells {H : List AO} {p : Nat} {l : List Int} {z : List AV} {d : List Obj1} (O : Own H ((p, cellsI l ++ z, 3) :: d)) (i j : Nat) (hi : i < l.length) (hj : j < l.length) :
    ∃ H', cw 61 [.own p 0 l.length 1 none, litI .i64 i, litI .i64 j] H = some (.ret (.tup []), H') ∧ H'.length = H.length ∧ Own H' ((p, cellsI (swapL l i j) ++ z, 3) :: d) := by
  have O1 := O.set (cellsI (l.set i (l.getD j 0)) ++ z) 3
  have O2 := O1.set (cellsI (swapL l i j) ++ z) 3
  refine ⟨_, cw_of fn61 (c := c61) (H := H) (r := (.ret (.tup []), setL (setL H p (.row (cellsI (l.set i (l.getD j 0)) ++ z) 3)) p (.row (cellsI (swapL l i j) ++ z) 3))) rfl rfl rfl rfl ?_, by simp [setL_len], O2⟩
  have s1 : storeAt H 1 (.ptr p i) (litI .i64 (l.getD j 0)) = some (setL H p (.row (cellsI (l.set i (l.getD j 0)) ++ z) 3)) := by
    rw [store_ptr O.head (by simp [cellsI]; omega) rfl rfl, cellsZ_set hi]
  have s2 : storeAt (setL H p (.row (cellsI (l.set i (l.getD j 0)) ++ z) 3)) 1 (.ptr p j) (litI .i64 (l.getD i 0)) = some (setL (setL H p (.row (cellsI (l.set i (l.getD j 0)) ++ z) 3)) p (.row (cellsI (swapL l i j) ++ z) 3)) := by
    rw [store_ptr O1.head (by simp [cellsI]; omega) rfl rfl, cellsZ_set (by simpa using hj)]; rfl
  have hi' : (i : Int) < l.length := by omega
  have hj' : (j : Int) < l.length := by omega
  simp -implicitDefEqProofs only [c61, codeW_seq, codeW_reg, codeW_cond, codeW_block, codeW_loop, codeW_skip, codeW_exit, codeW_ret, thenS_normal, thenS_if, thenS_ret, thenS_exit, thenS_pan, thenS_none, blockS_normal, blockS_exit, blockS_ret, blockS_pan, blockS_if, condS_some, ifS_true, ifS_false, opS_val, opS_new, opS_wr, opS_fz, opS_pan, bindO_some, runS_nil, runS_cons, runS_guard, gS_t, gS_f, gS_undef, asG_lit, asG_undef, core_mv, core_pick, core_alloc, core_load, core_store, core_clr, core_nilck, core_bin, core_binb, core_un, core_fadr, core_iadr, core_sli, core_len, core_lenS, core_idxS, core_app, core_mki, core_call, core_extV, core_fld, core_mks, wrO_some, valO_some, lenV_sl, lenV_own, bin_eql, bin_neq, bin_lss, bin_leq, bin_gtr, bin_geq, bin_add, bin_sub, bin_mul, unop_not, asBool_lit, pickV_lit, load_ip, iadr_sl, iadr_own, ev_s, ev_k, get_cons, get_nil, put_cons, put_nil, putD_some, putD_none, keep_cons, keep_nil, initFr, Nat.reduceEqDiff, Nat.reduceLT, Nat.reduceAdd, if_true, if_false, List.mem_cons, List.not_mem_nil, or_false, false_or, or_true, true_or, or_self, ↓reduceIte, Nat.zero_add, decide_false, decide_true, Nat.reduceBEq, beq_self_eq_true, BEq.rfl, Option.map_some, Option.map_none, List.head?_cons, List.map_cons, List.map_nil, List.append_nil, List.nil_append, List.cons_append, Bool.not_true, Bool.not_false, cond_true, cond_false, Int.natCast_nonneg, Int.toNat_natCast, Int.ofNat_toNat, core_bslice1, bsV_int, codeW_drawn, headS_cons, headS_nil, headS_guard, hS_val, hS_new, tailS_nil, tailS_cons, tailS_guard, tlS_val, tlS_new, tlS_wr, tlS_fz, tlS_pan, anyMk_cons, anyMk_nil, makes, binb_eql, binb_neq, List.isEmpty_nil, List.isEmpty_cons, Bool.or_false, Bool.false_or, Bool.or_true, Bool.true_or, pickV_t, pickV_f, core_inv, core_callS, fnV_func, core_tas, tasV_iface, nilck_ptr, extV_tup, fldV_agg, List.getElem?_cons_zero, List.getElem?_cons_succ, hi', hj', and_self, load_ptr O.head, cellsZ_get hi, cellsZ_get hj, Nat.mul_one, s1, s2]
  rfl

theorem mt_Len : lookM mtl 38 "Len" = some (14, some none) := rfl
theorem mt_Less : lookM mtl 38 "Less" = some (60, some none) := rfl
theorem mt_Swap : lookM mtl 38 "Swap" = some (61, some none) := rfl
theorem mt_Pop : lookM mtl 38 "Pop" = some (62, none) := rfl
theorem mt_Push : lookM mtl 38 "Push" = some (63, none) := rfl

theorem len_tells (l : List Int) (c : Option Nat) : cw 14 [rowC l c] [] = some (.ret (litI .i64 l.length), []) := by
  refine cw_of fn14 (c := c14) rfl rfl rfl rfl ?_
  simp -implicitDefEqProofs only [c14, codeW_seq, codeW_reg, codeW_cond, codeW_block, codeW_loop, codeW_skip, codeW_exit, codeW_ret, thenS_normal, thenS_if, thenS_ret, thenS_exit, thenS_pan, thenS_none, blockS_normal, blockS_exit, blockS_ret, blockS_pan, blockS_if, condS_some, ifS_true, ifS_false, opS_val, opS_new, opS_wr, opS_fz, opS_pan, bindO_some, runS_nil, runS_cons, runS_guard, gS_t, gS_f, gS_undef, asG_lit, asG_undef, core_mv, core_pick, core_alloc, core_load, core_store, core_clr, core_nilck, core_bin, core_binb, core_un, core_fadr, core_iadr, core_sli, core_len, core_lenS, core_idxS, core_app, core_mki, core_call, core_extV, core_fld, core_mks, wrO_some, valO_some, lenV_sl, lenV_own, bin_eql, bin_neq, bin_lss, bin_leq, bin_gtr, bin_geq, bin_add, bin_sub, bin_mul, unop_not, asBool_lit, pickV_lit, load_ip, iadr_sl, iadr_own, ev_s, ev_k, get_cons, get_nil, put_cons, put_nil, putD_some, putD_none, keep_cons, keep_nil, initFr, Nat.reduceEqDiff, Nat.reduceLT, Nat.reduceAdd, if_true, if_false, List.mem_cons, List.not_mem_nil, or_false, false_or, or_true, true_or, or_self, ↓reduceIte, Nat.zero_add, decide_false, decide_true, Nat.reduceBEq, beq_self_eq_true, BEq.rfl, Option.map_some, Option.map_none, List.head?_cons, List.map_cons, List.map_nil, List.append_nil, List.nil_append, List.cons_append, Bool.not_true, Bool.not_false, cond_true, cond_false, Int.natCast_nonneg, Int.toNat_natCast, Int.ofNat_toNat, core_bslice1, bsV_int, codeW_drawn, headS_cons, headS_nil, headS_guard, hS_val, hS_new, tailS_nil, tailS_cons, tailS_guard, tlS_val, tlS_new, tlS_wr, tlS_fz, tlS_pan, anyMk_cons, anyMk_nil, makes, binb_eql, binb_neq, List.isEmpty_nil, List.isEmpty_cons, Bool.or_false, Bool.false_or, Bool.or_true, Bool.true_or, pickV_t, pickV_f, core_inv, core_callS, fnV_func, core_tas, tasV_iface, nilck_ptr, extV_tup, fldV_agg, List.getElem?_cons_zero, List.getElem?_cons_succ, lenV_rowC]
  rfl

/-- The box of the row at q, the row's object p. -/
abbrev rd (q p : Nat) (l : List Int) (z : List AV) : List Obj1 := [(q, [.own p 0 l.length 1 none], 33), (p, cellsI l ++ z, 3)]

section
variable {H : List AO} {q p : Nat} {l : List Int} {z : List AV} {d : List Obj1} {id : Nat}
theorem rd_p (O : Own H (rd q p l z ++ d)) : H[p]? = some (.row (cellsI l ++ z) 3) := O.get (p, cellsI l ++ z, 3) (by simp)

theorem less_inv (O : Own H (rd q p l z ++ d)) (hz : z.all whole = true) (i j : Nat) (hi : i < l.length) (hj : j < l.length) :
    invV cw (lookM mtl) mds (.iface 38 (.ptr q 0)) "Less" [litI .i64 i, litI .i64 j] H id = some (.val (litB (decide (l.getD i 0 < l.getD j 0))) none) := by
  rw [invV_d mt_Less (load_ptr0 O.head)]
  refine callV_flat (p := ([rowC l none, litI .i64 i, litI .i64 j], [p])) rfl ?_ (less_tells l none i j hi hj)
  simp only [mapL, show frzF = 14 + 2 from rfl, frz_ints (rd_p O) hz rfl, Option.bind_some]
  rfl
theorem len_inv (O : Own H (rd q p l z ++ d)) (hz : z.all whole = true) :
    invV cw (lookM mtl) mds (.iface 38 (.ptr q 0)) "Len" [] H id = some (.val (litI .i64 l.length) none) := by
  rw [invV_d mt_Len (load_ptr0 O.head)]
  refine callV_flat (p := ([rowC l none], [p])) rfl ?_ (len_tells l none)
  simp only [mapL, show frzF = 14 + 2 from rfl, frz_ints (rd_p O) hz rfl, Option.bind_some]
  rfl
theorem swap_inv (O : Own H (rd q p l z ++ d)) (i j : Nat) (hi : i < l.length) (hj : j < l.length) :
    ∃ H', invV cw (lookM mtl) mds (.iface 38 (.ptr q 0)) "Swap" [litI .i64 i, litI .i64 j] H id = some (.wr (.tup []) H') ∧ H'.length = H.length ∧ Own H' (rd q p (swapL l i j) z ++ d) := by
  have O' : Own H ((p, cellsI l ++ z, 3) :: (q, [.own p 0 l.length 1 none], 33) :: d) := O.perm (List.Perm.swap ..)
  obtain ⟨H', h1, h2, h3⟩ := swap_tells O' i j hi hj
  refine ⟨H', ?_, h2, ?_⟩
  · rw [invV_d mt_Swap (load_ptr0 O.head)]
    exact callV_same rfl h1 h2
  · refine (h3.perm (List.Perm.swap ..)).perm (List.Perm.of_eq ?_)
    simp only [rd, swapL_len]
    rfl
end

/-! ### down -/
def downL : Nat → List Int → Nat → Nat → List Int
  | 0, l, _, _ => l
  | k + 1, l, i, n => if n ≤ 2 * i + 1 then l else
    if l.getD (if 2 * i + 2 < n ∧ l.getD (2 * i + 2) 0 < l.getD (2 * i + 1) 0 then 2 * i + 2 else 2 * i + 1) 0 < l.getD i 0
    then downL k (swapL l i (if 2 * i + 2 < n ∧ l.getD (2 * i + 2) 0 < l.getD (2 * i + 1) 0 then 2 * i + 2 else 2 * i + 1)) (if 2 * i + 2 < n ∧ l.getD (2 * i + 2) 0 < l.getD (2 * i + 1) 0 then 2 * i + 2 else 2 * i + 1) n
    else l
theorem downL_len : ∀ (k : Nat) (l : List Int) (i n : Nat), (downL k l i n).length = l.length
  | 0, _, _, _ => rfl
  | k + 1, l, i, n => by
    rw [downL]
    repeat' split
    all_goals first
      | rfl
      | rw [downL_len, swapL_len]

theorem wrap_mid {z : Int} (h1 : 0 ≤ z) (h2 : z < 4611686018427387904) : IntKind.wrap .i64 z = z := by rw [wrap_small] <;> omega

theorem down_loop (q p : Nat) (d : List Obj1) (z : List AV) (hz : z.all whole = true) (i0 : AV) (n : Nat) : ∀ (k : Nat) (l : List Int) (i : Nat) (H : List AO), n ≤ l.length → l.length ≤ 1000 → i < n + 1 → i ≤ l.length - 1 → n ≤ i + k → 0 < l.length → Own H (rd q p l z ++ d) →
    ∃ H' fr', loopW (codeW cw (lookM mtl) mds c21l0) [0, 1, 2, 7] [(0, .iface 38 (.ptr q 0)), (1, i0), (2, litI .i64 n), (7, litI .i64 i)] H = some (EX.exit 0, fr', H') ∧ get fr' 1 = i0 ∧ (∃ i' : Nat, get fr' 7 = litI .i64 i') ∧ H'.length = H.length ∧ Own H' (rd q p (downL k l i n) z ++ d) := by
  intro k
  induction k with
  | zero =>
    intro l i H hn hl hi hil hk h0 O
    have hw1 : IntKind.wrap .i64 (2 * (i : Int)) = ((2 * i : Nat) : Int) := by rw [wrap_mid] <;> omega
    have hw2 : IntKind.wrap .i64 (((2 * i : Nat) : Int) + 1) = ((2 * i + 1 : Nat) : Int) := by rw [wrap_mid] <;> omega
    have h1 : (n : Int) ≤ ((2 * i + 1 : Nat) : Int) := by omega
    refine ⟨H, _, loopW_out (fr' := [(0, .iface 38 (.ptr q 0)), (1, i0), (2, litI .i64 n), (7, litI .i64 i), (8, litI .i64 ((2 * i + 1 : Nat) : Int)), (21, litB true)]) ?_ (by simp), rfl, ⟨i, rfl⟩, rfl, O⟩
    simp -implicitDefEqProofs only [c21l0, codeW_seq, codeW_reg, codeW_cond, codeW_block, codeW_loop, codeW_skip, codeW_exit, codeW_ret, thenS_normal, thenS_if, thenS_ret, thenS_exit, thenS_pan, thenS_none, blockS_normal, blockS_exit, blockS_ret, blockS_pan, blockS_if, condS_some, ifS_true, ifS_false, opS_val, opS_new, opS_wr, opS_fz, opS_pan, bindO_some, runS_nil, runS_cons, runS_guard, gS_t, gS_f, gS_undef, asG_lit, asG_undef, core_mv, core_pick, core_alloc, core_load, core_store, core_clr, core_nilck, core_bin, core_binb, core_un, core_fadr, core_iadr, core_sli, core_len, core_lenS, core_idxS, core_app, core_mki, core_call, core_extV, core_fld, core_mks, wrO_some, valO_some, lenV_sl, lenV_own, bin_eql, bin_neq, bin_lss, bin_leq, bin_gtr, bin_geq, bin_add, bin_sub, bin_mul, unop_not, asBool_lit, pickV_lit, load_ip, iadr_sl, iadr_own, ev_s, ev_k, get_cons, get_nil, put_cons, put_nil, putD_some, putD_none, keep_cons, keep_nil, initFr, Nat.reduceEqDiff, Nat.reduceLT, Nat.reduceAdd, if_true, if_false, List.mem_cons, List.not_mem_nil, or_false, false_or, or_true, true_or, or_self, ↓reduceIte, Nat.zero_add, decide_false, decide_true, Nat.reduceBEq, beq_self_eq_true, BEq.rfl, Option.map_some, Option.map_none, List.head?_cons, List.map_cons, List.map_nil, List.append_nil, List.nil_append, List.cons_append, Bool.not_true, Bool.not_false, cond_true, cond_false, Int.natCast_nonneg, Int.toNat_natCast, Int.ofNat_toNat, core_bslice1, bsV_int, codeW_drawn, headS_cons, headS_nil, headS_guard, hS_val, hS_new, tailS_nil, tailS_cons, tailS_guard, tlS_val, tlS_new, tlS_wr, tlS_fz, tlS_pan, anyMk_cons, anyMk_nil, makes, binb_eql, binb_neq, List.isEmpty_nil, List.isEmpty_cons, Bool.or_false, Bool.false_or, Bool.or_true, Bool.true_or, pickV_t, pickV_f, core_inv, core_callS, fnV_func, core_tas, tasV_iface, nilck_ptr, extV_tup, fldV_agg, List.getElem?_cons_zero, List.getElem?_cons_succ, hw1, hw2, h1]
  | succ k ih =>
    intro l i H hn hl hi hil hk h0 O
    have hw1 : IntKind.wrap .i64 (2 * (i : Int)) = ((2 * i : Nat) : Int) := by rw [wrap_mid] <;> omega
    have hw2 : IntKind.wrap .i64 (((2 * i : Nat) : Int) + 1) = ((2 * i + 1 : Nat) : Int) := by rw [wrap_mid] <;> omega
    have hw3 : IntKind.wrap .i64 (((2 * i + 1 : Nat) : Int) + 1) = ((2 * i + 2 : Nat) : Int) := by rw [wrap_mid] <;> omega
    rw [downL]
    by_cases hc : n ≤ 2 * i + 1
    · rw [if_pos hc]
      have h1 : (n : Int) ≤ ((2 * i + 1 : Nat) : Int) := by omega
      refine ⟨H, _, loopW_out (fr' := [(0, .iface 38 (.ptr q 0)), (1, i0), (2, litI .i64 n), (7, litI .i64 i), (8, litI .i64 ((2 * i + 1 : Nat) : Int)), (21, litB true)]) ?_ (by simp), rfl, ⟨i, rfl⟩, rfl, O⟩
      simp -implicitDefEqProofs only [c21l0, codeW_seq, codeW_reg, codeW_cond, codeW_block, codeW_loop, codeW_skip, codeW_exit, codeW_ret, thenS_normal, thenS_if, thenS_ret, thenS_exit, thenS_pan, thenS_none, blockS_normal, blockS_exit, blockS_ret, blockS_pan, blockS_if, condS_some, ifS_true, ifS_false, opS_val, opS_new, opS_wr, opS_fz, opS_pan, bindO_some, runS_nil, runS_cons, runS_guard, gS_t, gS_f, gS_undef, asG_lit, asG_undef, core_mv, core_pick, core_alloc, core_load, core_store, core_clr, core_nilck, core_bin, core_binb, core_un, core_fadr, core_iadr, core_sli, core_len, core_lenS, core_idxS, core_app, core_mki, core_call, core_extV, core_fld, core_mks, wrO_some, valO_some, lenV_sl, lenV_own, bin_eql, bin_neq, bin_lss, bin_leq, bin_gtr, bin_geq, bin_add, bin_sub, bin_mul, unop_not, asBool_lit, pickV_lit, load_ip, iadr_sl, iadr_own, ev_s, ev_k, get_cons, get_nil, put_cons, put_nil, putD_some, putD_none, keep_cons, keep_nil, initFr, Nat.reduceEqDiff, Nat.reduceLT, Nat.reduceAdd, if_true, if_false, List.mem_cons, List.not_mem_nil, or_false, false_or, or_true, true_or, or_self, ↓reduceIte, Nat.zero_add, decide_false, decide_true, Nat.reduceBEq, beq_self_eq_true, BEq.rfl, Option.map_some, Option.map_none, List.head?_cons, List.map_cons, List.map_nil, List.append_nil, List.nil_append, List.cons_append, Bool.not_true, Bool.not_false, cond_true, cond_false, Int.natCast_nonneg, Int.toNat_natCast, Int.ofNat_toNat, core_bslice1, bsV_int, codeW_drawn, headS_cons, headS_nil, headS_guard, hS_val, hS_new, tailS_nil, tailS_cons, tailS_guard, tlS_val, tlS_new, tlS_wr, tlS_fz, tlS_pan, anyMk_cons, anyMk_nil, makes, binb_eql, binb_neq, List.isEmpty_nil, List.isEmpty_cons, Bool.or_false, Bool.false_or, Bool.or_true, Bool.true_or, pickV_t, pickV_f, core_inv, core_callS, fnV_func, core_tas, tasV_iface, nilck_ptr, extV_tup, fldV_agg, List.getElem?_cons_zero, List.getElem?_cons_succ, hw1, hw2, h1]
    · rw [if_neg hc]
      have h1 : ¬ (n : Int) ≤ ((2 * i + 1 : Nat) : Int) := by omega
      have h2 : ¬ ((2 * i + 1 : Nat) : Int) < 0 := by omega
      generalize hj : (if 2 * i + 2 < n ∧ l.getD (2 * i + 2) 0 < l.getD (2 * i + 1) 0 then 2 * i + 2 else 2 * i + 1) = j
      have hjn : j < n := by rw [← hj]; split <;> omega
      have hij : i < j := by rw [← hj]; split <;> omega
      have L2 := fun id => less_inv (id := id) O hz j i (by omega) (by omega)
      have hlt : (decide (((2 * i + 2 : Nat) : Int) < n)) = decide (2 * i + 2 < n) := by congr 1; simp only [eq_iff_iff]; omega
      by_cases hs : l.getD j 0 < l.getD i 0
      · rw [if_pos hs]
        obtain ⟨H1, s1, s2, s3⟩ := swap_inv (id := H.length) O i j (by omega) (by omega)
        obtain ⟨H', fr', k1, k2, k3, k4, k5⟩ := ih (swapL l i j) j H1 (by rw [swapL_len]; exact hn) (by rw [swapL_len]; exact hl) (by omega) (by rw [swapL_len]; omega) (by omega) (by rw [swapL_len]; exact h0) s3
        refine ⟨H', fr', loopW_round ?_ k1, k2, k3, by omega, k5⟩
        by_cases c2 : 2 * i + 2 < n
        · have L1 := fun id => less_inv (id := id) O hz (2 * i + 2) (2 * i + 1) (by omega) (by omega)
          by_cases c3 : l.getD (2 * i + 2) 0 < l.getD (2 * i + 1) 0
          · have : 2 * i + 2 = j := by rw [← hj, if_pos ⟨c2, c3⟩]
            subst this
            simp only [decide_eq_true hs] at L2
            simp only [decide_eq_true c3] at L1
            simp -implicitDefEqProofs only [c21l0, codeW_seq, codeW_reg, codeW_cond, codeW_block, codeW_loop, codeW_skip, codeW_exit, codeW_ret, thenS_normal, thenS_if, thenS_ret, thenS_exit, thenS_pan, thenS_none, blockS_normal, blockS_exit, blockS_ret, blockS_pan, blockS_if, condS_some, ifS_true, ifS_false, opS_val, opS_new, opS_wr, opS_fz, opS_pan, bindO_some, runS_nil, runS_cons, runS_guard, gS_t, gS_f, gS_undef, asG_lit, asG_undef, core_mv, core_pick, core_alloc, core_load, core_store, core_clr, core_nilck, core_bin, core_binb, core_un, core_fadr, core_iadr, core_sli, core_len, core_lenS, core_idxS, core_app, core_mki, core_call, core_extV, core_fld, core_mks, wrO_some, valO_some, lenV_sl, lenV_own, bin_eql, bin_neq, bin_lss, bin_leq, bin_gtr, bin_geq, bin_add, bin_sub, bin_mul, unop_not, asBool_lit, pickV_lit, load_ip, iadr_sl, iadr_own, ev_s, ev_k, get_cons, get_nil, put_cons, put_nil, putD_some, putD_none, keep_cons, keep_nil, initFr, Nat.reduceEqDiff, Nat.reduceLT, Nat.reduceAdd, if_true, if_false, List.mem_cons, List.not_mem_nil, or_false, false_or, or_true, true_or, or_self, ↓reduceIte, Nat.zero_add, decide_false, decide_true, Nat.reduceBEq, beq_self_eq_true, BEq.rfl, Option.map_some, Option.map_none, List.head?_cons, List.map_cons, List.map_nil, List.append_nil, List.nil_append, List.cons_append, Bool.not_true, Bool.not_false, cond_true, cond_false, Int.natCast_nonneg, Int.toNat_natCast, Int.ofNat_toNat, core_bslice1, bsV_int, codeW_drawn, headS_cons, headS_nil, headS_guard, hS_val, hS_new, tailS_nil, tailS_cons, tailS_guard, tlS_val, tlS_new, tlS_wr, tlS_fz, tlS_pan, anyMk_cons, anyMk_nil, makes, binb_eql, binb_neq, List.isEmpty_nil, List.isEmpty_cons, Bool.or_false, Bool.false_or, Bool.or_true, Bool.true_or, pickV_t, pickV_f, core_inv, core_callS, fnV_func, core_tas, tasV_iface, nilck_ptr, extV_tup, fldV_agg, List.getElem?_cons_zero, List.getElem?_cons_succ, hw1, hw2, hw3, h1, h2, hlt, c2, L1, L2, s1]
          · have : 2 * i + 1 = j := by rw [← hj, if_neg (fun h => c3 h.2)]
            subst this
            simp only [decide_eq_true hs] at L2
            simp only [decide_eq_false c3] at L1
            simp -implicitDefEqProofs only [c21l0, codeW_seq, codeW_reg, codeW_cond, codeW_block, codeW_loop, codeW_skip, codeW_exit, codeW_ret, thenS_normal, thenS_if, thenS_ret, thenS_exit, thenS_pan, thenS_none, blockS_normal, blockS_exit, blockS_ret, blockS_pan, blockS_if, condS_some, ifS_true, ifS_false, opS_val, opS_new, opS_wr, opS_fz, opS_pan, bindO_some, runS_nil, runS_cons, runS_guard, gS_t, gS_f, gS_undef, asG_lit, asG_undef, core_mv, core_pick, core_alloc, core_load, core_store, core_clr, core_nilck, core_bin, core_binb, core_un, core_fadr, core_iadr, core_sli, core_len, core_lenS, core_idxS, core_app, core_mki, core_call, core_extV, core_fld, core_mks, wrO_some, valO_some, lenV_sl, lenV_own, bin_eql, bin_neq, bin_lss, bin_leq, bin_gtr, bin_geq, bin_add, bin_sub, bin_mul, unop_not, asBool_lit, pickV_lit, load_ip, iadr_sl, iadr_own, ev_s, ev_k, get_cons, get_nil, put_cons, put_nil, putD_some, putD_none, keep_cons, keep_nil, initFr, Nat.reduceEqDiff, Nat.reduceLT, Nat.reduceAdd, if_true, if_false, List.mem_cons, List.not_mem_nil, or_false, false_or, or_true, true_or, or_self, ↓reduceIte, Nat.zero_add, decide_false, decide_true, Nat.reduceBEq, beq_self_eq_true, BEq.rfl, Option.map_some, Option.map_none, List.head?_cons, List.map_cons, List.map_nil, List.append_nil, List.nil_append, List.cons_append, Bool.not_true, Bool.not_false, cond_true, cond_false, Int.natCast_nonneg, Int.toNat_natCast, Int.ofNat_toNat, core_bslice1, bsV_int, codeW_drawn, headS_cons, headS_nil, headS_guard, hS_val, hS_new, tailS_nil, tailS_cons, tailS_guard, tlS_val, tlS_new, tlS_wr, tlS_fz, tlS_pan, anyMk_cons, anyMk_nil, makes, binb_eql, binb_neq, List.isEmpty_nil, List.isEmpty_cons, Bool.or_false, Bool.false_or, Bool.or_true, Bool.true_or, pickV_t, pickV_f, core_inv, core_callS, fnV_func, core_tas, tasV_iface, nilck_ptr, extV_tup, fldV_agg, List.getElem?_cons_zero, List.getElem?_cons_succ, hw1, hw2, hw3, h1, h2, hlt, c2, L1, L2, s1]
        · have : 2 * i + 1 = j := by rw [← hj, if_neg (fun h => c2 h.1)]
          subst this
          simp only [decide_eq_true hs] at L2
          simp -implicitDefEqProofs only [c21l0, codeW_seq, codeW_reg, codeW_cond, codeW_block, codeW_loop, codeW_skip, codeW_exit, codeW_ret, thenS_normal, thenS_if, thenS_ret, thenS_exit, thenS_pan, thenS_none, blockS_normal, blockS_exit, blockS_ret, blockS_pan, blockS_if, condS_some, ifS_true, ifS_false, opS_val, opS_new, opS_wr, opS_fz, opS_pan, bindO_some, runS_nil, runS_cons, runS_guard, gS_t, gS_f, gS_undef, asG_lit, asG_undef, core_mv, core_pick, core_alloc, core_load, core_store, core_clr, core_nilck, core_bin, core_binb, core_un, core_fadr, core_iadr, core_sli, core_len, core_lenS, core_idxS, core_app, core_mki, core_call, core_extV, core_fld, core_mks, wrO_some, valO_some, lenV_sl, lenV_own, bin_eql, bin_neq, bin_lss, bin_leq, bin_gtr, bin_geq, bin_add, bin_sub, bin_mul, unop_not, asBool_lit, pickV_lit, load_ip, iadr_sl, iadr_own, ev_s, ev_k, get_cons, get_nil, put_cons, put_nil, putD_some, putD_none, keep_cons, keep_nil, initFr, Nat.reduceEqDiff, Nat.reduceLT, Nat.reduceAdd, if_true, if_false, List.mem_cons, List.not_mem_nil, or_false, false_or, or_true, true_or, or_self, ↓reduceIte, Nat.zero_add, decide_false, decide_true, Nat.reduceBEq, beq_self_eq_true, BEq.rfl, Option.map_some, Option.map_none, List.head?_cons, List.map_cons, List.map_nil, List.append_nil, List.nil_append, List.cons_append, Bool.not_true, Bool.not_false, cond_true, cond_false, Int.natCast_nonneg, Int.toNat_natCast, Int.ofNat_toNat, core_bslice1, bsV_int, codeW_drawn, headS_cons, headS_nil, headS_guard, hS_val, hS_new, tailS_nil, tailS_cons, tailS_guard, tlS_val, tlS_new, tlS_wr, tlS_fz, tlS_pan, anyMk_cons, anyMk_nil, makes, binb_eql, binb_neq, List.isEmpty_nil, List.isEmpty_cons, Bool.or_false, Bool.false_or, Bool.or_true, Bool.true_or, pickV_t, pickV_f, core_inv, core_callS, fnV_func, core_tas, tasV_iface, nilck_ptr, extV_tup, fldV_agg, List.getElem?_cons_zero, List.getElem?_cons_succ, hw1, hw2, hw3, h1, h2, hlt, c2, L2, s1]
      · rw [if_neg hs]
        by_cases c2 : 2 * i + 2 < n
        · have L1 := fun id => less_inv (id := id) O hz (2 * i + 2) (2 * i + 1) (by omega) (by omega)
          by_cases c3 : l.getD (2 * i + 2) 0 < l.getD (2 * i + 1) 0
          · have : 2 * i + 2 = j := by rw [← hj, if_pos ⟨c2, c3⟩]
            subst this
            simp only [decide_eq_false hs] at L2
            simp only [decide_eq_true c3] at L1
            refine ⟨H, _, loopW_out (fr' := [(0, .iface 38 (.ptr q 0)), (1, i0), (2, litI .i64 n), (7, litI .i64 i), (9, litI .i64 ((2 * i + 2 : Nat) : Int)), (39, litB true)]) ?_ (by simp), rfl, ⟨i, rfl⟩, rfl, O⟩
            simp -implicitDefEqProofs only [c21l0, codeW_seq, codeW_reg, codeW_cond, codeW_block, codeW_loop, codeW_skip, codeW_exit, codeW_ret, thenS_normal, thenS_if, thenS_ret, thenS_exit, thenS_pan, thenS_none, blockS_normal, blockS_exit, blockS_ret, blockS_pan, blockS_if, condS_some, ifS_true, ifS_false, opS_val, opS_new, opS_wr, opS_fz, opS_pan, bindO_some, runS_nil, runS_cons, runS_guard, gS_t, gS_f, gS_undef, asG_lit, asG_undef, core_mv, core_pick, core_alloc, core_load, core_store, core_clr, core_nilck, core_bin, core_binb, core_un, core_fadr, core_iadr, core_sli, core_len, core_lenS, core_idxS, core_app, core_mki, core_call, core_extV, core_fld, core_mks, wrO_some, valO_some, lenV_sl, lenV_own, bin_eql, bin_neq, bin_lss, bin_leq, bin_gtr, bin_geq, bin_add, bin_sub, bin_mul, unop_not, asBool_lit, pickV_lit, load_ip, iadr_sl, iadr_own, ev_s, ev_k, get_cons, get_nil, put_cons, put_nil, putD_some, putD_none, keep_cons, keep_nil, initFr, Nat.reduceEqDiff, Nat.reduceLT, Nat.reduceAdd, if_true, if_false, List.mem_cons, List.not_mem_nil, or_false, false_or, or_true, true_or, or_self, ↓reduceIte, Nat.zero_add, decide_false, decide_true, Nat.reduceBEq, beq_self_eq_true, BEq.rfl, Option.map_some, Option.map_none, List.head?_cons, List.map_cons, List.map_nil, List.append_nil, List.nil_append, List.cons_append, Bool.not_true, Bool.not_false, cond_true, cond_false, Int.natCast_nonneg, Int.toNat_natCast, Int.ofNat_toNat, core_bslice1, bsV_int, codeW_drawn, headS_cons, headS_nil, headS_guard, hS_val, hS_new, tailS_nil, tailS_cons, tailS_guard, tlS_val, tlS_new, tlS_wr, tlS_fz, tlS_pan, anyMk_cons, anyMk_nil, makes, binb_eql, binb_neq, List.isEmpty_nil, List.isEmpty_cons, Bool.or_false, Bool.false_or, Bool.or_true, Bool.true_or, pickV_t, pickV_f, core_inv, core_callS, fnV_func, core_tas, tasV_iface, nilck_ptr, extV_tup, fldV_agg, List.getElem?_cons_zero, List.getElem?_cons_succ, hw1, hw2, hw3, h1, h2, hlt, c2, L1, L2]
          · have : 2 * i + 1 = j := by rw [← hj, if_neg (fun h => c3 h.2)]
            subst this
            simp only [decide_eq_false hs] at L2
            simp only [decide_eq_false c3] at L1
            refine ⟨H, _, loopW_out (fr' := [(0, .iface 38 (.ptr q 0)), (1, i0), (2, litI .i64 n), (7, litI .i64 i), (9, litI .i64 ((2 * i + 1 : Nat) : Int)), (39, litB true)]) ?_ (by simp), rfl, ⟨i, rfl⟩, rfl, O⟩
            simp -implicitDefEqProofs only [c21l0, codeW_seq, codeW_reg, codeW_cond, codeW_block, codeW_loop, codeW_skip, codeW_exit, codeW_ret, thenS_normal, thenS_if, thenS_ret, thenS_exit, thenS_pan, thenS_none, blockS_normal, blockS_exit, blockS_ret, blockS_pan, blockS_if, condS_some, ifS_true, ifS_false, opS_val, opS_new, opS_wr, opS_fz, opS_pan, bindO_some, runS_nil, runS_cons, runS_guard, gS_t, gS_f, gS_undef, asG_lit, asG_undef, core_mv, core_pick, core_alloc, core_load, core_store, core_clr, core_nilck, core_bin, core_binb, core_un, core_fadr, core_iadr, core_sli, core_len, core_lenS, core_idxS, core_app, core_mki, core_call, core_extV, core_fld, core_mks, wrO_some, valO_some, lenV_sl, lenV_own, bin_eql, bin_neq, bin_lss, bin_leq, bin_gtr, bin_geq, bin_add, bin_sub, bin_mul, unop_not, asBool_lit, pickV_lit, load_ip, iadr_sl, iadr_own, ev_s, ev_k, get_cons, get_nil, put_cons, put_nil, putD_some, putD_none, keep_cons, keep_nil, initFr, Nat.reduceEqDiff, Nat.reduceLT, Nat.reduceAdd, if_true, if_false, List.mem_cons, List.not_mem_nil, or_false, false_or, or_true, true_or, or_self, ↓reduceIte, Nat.zero_add, decide_false, decide_true, Nat.reduceBEq, beq_self_eq_true, BEq.rfl, Option.map_some, Option.map_none, List.head?_cons, List.map_cons, List.map_nil, List.append_nil, List.nil_append, List.cons_append, Bool.not_true, Bool.not_false, cond_true, cond_false, Int.natCast_nonneg, Int.toNat_natCast, Int.ofNat_toNat, core_bslice1, bsV_int, codeW_drawn, headS_cons, headS_nil, headS_guard, hS_val, hS_new, tailS_nil, tailS_cons, tailS_guard, tlS_val, tlS_new, tlS_wr, tlS_fz, tlS_pan, anyMk_cons, anyMk_nil, makes, binb_eql, binb_neq, List.isEmpty_nil, List.isEmpty_cons, Bool.or_false, Bool.false_or, Bool.or_true, Bool.true_or, pickV_t, pickV_f, core_inv, core_callS, fnV_func, core_tas, tasV_iface, nilck_ptr, extV_tup, fldV_agg, List.getElem?_cons_zero, List.getElem?_cons_succ, hw1, hw2, hw3, h1, h2, hlt, c2, L1, L2]
        · have : 2 * i + 1 = j := by rw [← hj, if_neg (fun h => c2 h.1)]
          subst this
          simp only [decide_eq_false hs] at L2
          refine ⟨H, _, loopW_out (fr' := [(0, .iface 38 (.ptr q 0)), (1, i0), (2, litI .i64 n), (7, litI .i64 i), (9, litI .i64 ((2 * i + 1 : Nat) : Int)), (39, litB true)]) ?_ (by simp), rfl, ⟨i, rfl⟩, rfl, O⟩
          simp -implicitDefEqProofs only [c21l0, codeW_seq, codeW_reg, codeW_cond, codeW_block, codeW_loop, codeW_skip, codeW_exit, codeW_ret, thenS_normal, thenS_if, thenS_ret, thenS_exit, thenS_pan, thenS_none, blockS_normal, blockS_exit, blockS_ret, blockS_pan, blockS_if, condS_some, ifS_true, ifS_false, opS_val, opS_new, opS_wr, opS_fz, opS_pan, bindO_some, runS_nil, runS_cons, runS_guard, gS_t, gS_f, gS_undef, asG_lit, asG_undef, core_mv, core_pick, core_alloc, core_load, core_store, core_clr, core_nilck, core_bin, core_binb, core_un, core_fadr, core_iadr, core_sli, core_len, core_lenS, core_idxS, core_app, core_mki, core_call, core_extV, core_fld, core_mks, wrO_some, valO_some, lenV_sl, lenV_own, bin_eql, bin_neq, bin_lss, bin_leq, bin_gtr, bin_geq, bin_add, bin_sub, bin_mul, unop_not, asBool_lit, pickV_lit, load_ip, iadr_sl, iadr_own, ev_s, ev_k, get_cons, get_nil, put_cons, put_nil, putD_some, putD_none, keep_cons, keep_nil, initFr, Nat.reduceEqDiff, Nat.reduceLT, Nat.reduceAdd, if_true, if_false, List.mem_cons, List.not_mem_nil, or_false, false_or, or_true, true_or, or_self, ↓reduceIte, Nat.zero_add, decide_false, decide_true, Nat.reduceBEq, beq_self_eq_true, BEq.rfl, Option.map_some, Option.map_none, List.head?_cons, List.map_cons, List.map_nil, List.append_nil, List.nil_append, List.cons_append, Bool.not_true, Bool.not_false, cond_true, cond_false, Int.natCast_nonneg, Int.toNat_natCast, Int.ofNat_toNat, core_bslice1, bsV_int, codeW_drawn, headS_cons, headS_nil, headS_guard, hS_val, hS_new, tailS_nil, tailS_cons, tailS_guard, tlS_val, tlS_new, tlS_wr, tlS_fz, tlS_pan, anyMk_cons, anyMk_nil, makes, binb_eql, binb_neq, List.isEmpty_nil, List.isEmpty_cons, Bool.or_false, Bool.false_or, Bool.or_true, Bool.true_or, pickV_t, pickV_f, core_inv, core_callS, fnV_func, core_tas, tasV_iface, nilck_ptr, extV_tup, fldV_agg, List.getElem?_cons_zero, List.getElem?_cons_succ, hw1, hw2, hw3, h1, h2, hlt, c2, L2]
end Go.Proofs.Ytoemnjclhheeoaa.Ai

namespace Go.Proofs.Ytoemnjclhheeoaa.Ai
open Go Go.Ai
set_option linter.unusedSimpArgs false
set_option linter.unusedVariables false

section
variable {H : List AO} {q p : Nat} {l : List Int} {z : List AV} {d : List Obj1} {id : Nat}

theorem down_tells (O : Own H (rd q p l z ++ d)) (hz : z.all whole = true) (n : Nat) (hn : n ≤ l.length) (hl : l.length ≤ 1000) (h0 : 0 < l.length) :
    ∃ H' b, cw 21 [.iface 38 (.ptr q 0), litI .i64 0, litI .i64 n] H = some (.ret (litB b), H') ∧ H'.length = H.length ∧ Own H' (rd q p (downL n l 0 n) z ++ d) := by
  obtain ⟨H', fr', L, k2, ⟨i', k3⟩, k4, k5⟩ := down_loop q p d z hz (litI .i64 0) n n l 0 H hn hl (by omega) (by omega) (by omega) h0 O
  rw [show ((0 : Nat) : Int) = 0 from rfl] at L
  refine ⟨H', decide (0 < (i' : Int)), cw_of fn21 (c := c21) (H := H) rfl rfl rfl rfl ?_, k4, k5⟩
  simp -implicitDefEqProofs only [c21, codeW_seq, codeW_reg, codeW_cond, codeW_block, codeW_loop, codeW_skip, codeW_exit, codeW_ret, thenS_normal, thenS_if, thenS_ret, thenS_exit, thenS_pan, thenS_none, blockS_normal, blockS_exit, blockS_ret, blockS_pan, blockS_if, condS_some, ifS_true, ifS_false, opS_val, opS_new, opS_wr, opS_fz, opS_pan, bindO_some, runS_nil, runS_cons, runS_guard, gS_t, gS_f, gS_undef, asG_lit, asG_undef, core_mv, core_pick, core_alloc, core_load, core_store, core_clr, core_nilck, core_bin, core_binb, core_un, core_fadr, core_iadr, core_sli, core_len, core_lenS, core_idxS, core_app, core_mki, core_call, core_extV, core_fld, core_mks, wrO_some, valO_some, lenV_sl, lenV_own, bin_eql, bin_neq, bin_lss, bin_leq, bin_gtr, bin_geq, bin_add, bin_sub, bin_mul, unop_not, asBool_lit, pickV_lit, load_ip, iadr_sl, iadr_own, ev_s, ev_k, get_cons, get_nil, put_cons, put_nil, putD_some, putD_none, keep_cons, keep_nil, initFr, Nat.reduceEqDiff, Nat.reduceLT, Nat.reduceAdd, if_true, if_false, List.mem_cons, List.not_mem_nil, or_false, false_or, or_true, true_or, or_self, ↓reduceIte, Nat.zero_add, decide_false, decide_true, Nat.reduceBEq, beq_self_eq_true, BEq.rfl, Option.map_some, Option.map_none, List.head?_cons, List.map_cons, List.map_nil, List.append_nil, List.nil_append, List.cons_append, Bool.not_true, Bool.not_false, cond_true, cond_false, Int.natCast_nonneg, Int.toNat_natCast, Int.ofNat_toNat, core_bslice1, bsV_int, codeW_drawn, headS_cons, headS_nil, headS_guard, hS_val, hS_new, tailS_nil, tailS_cons, tailS_guard, tlS_val, tlS_new, tlS_wr, tlS_fz, tlS_pan, anyMk_cons, anyMk_nil, makes, binb_eql, binb_neq, List.isEmpty_nil, List.isEmpty_cons, Bool.or_false, Bool.false_or, Bool.or_true, Bool.true_or, pickV_t, pickV_f, core_inv, core_callS, fnV_func, core_tas, tasV_iface, nilck_ptr, extV_tup, fldV_agg, List.getElem?_cons_zero, List.getElem?_cons_succ, L, get_put, k2, k3]
  simp only [Option.bind_some, fin, fn21, res, resL, resV, get_keep_mem (show 6 ∈ [6] by simp), get_put, if_true]

/-! ### up -/
def upL : Nat → List Int → Nat → List Int
  | 0, l, _ => l
  | k + 1, l, j => if j = 0 then l else if l.getD j 0 < l.getD ((j - 1) / 2) 0 then upL k (swapL l ((j - 1) / 2) j) ((j - 1) / 2) else l
theorem upL_len : ∀ (k : Nat) (l : List Int) (j : Nat), (upL k l j).length = l.length
  | 0, _, _ => rfl
  | k + 1, l, j => by
    rw [upL]
    repeat' split
    all_goals first
      | rfl
      | rw [upL_len, swapL_len]

theorem half {j : Nat} (h : 0 < j) : (((j : Int) - 1).tdiv 2) = (((j - 1) / 2 : Nat) : Int) := by
  rw [show (j : Int) - 1 = ((j - 1 : Nat) : Int) by omega]
  rfl

theorem up_loop (q p : Nat) (d : List Obj1) (z : List AV) (hz : z.all whole = true) : ∀ (k : Nat) (l : List Int) (j : Nat) (H : List AO), j < l.length → l.length ≤ 1000 → j ≤ k → Own H (rd q p l z ++ d) →
    ∃ H' fr', loopW (codeW cw (lookM mtl) mds c22l0) [0, 1] [(0, .iface 38 (.ptr q 0)), (1, litI .i64 j)] H = some (EX.exit 0, fr', H') ∧ H'.length = H.length ∧ Own H' (rd q p (upL (k + 1) l j) z ++ d) := by
  have zero : ∀ (k : Nat) (l : List Int) (H : List AO), Own H (rd q p l z ++ d) →
      ∃ H' fr', loopW (codeW cw (lookM mtl) mds c22l0) [0, 1] [(0, .iface 38 (.ptr q 0)), (1, litI .i64 (0 : Nat))] H = some (EX.exit 0, fr', H') ∧ H'.length = H.length ∧ Own H' (rd q p (upL (k + 1) l 0) z ++ d) := by
    intro k l H O
    refine ⟨H, _, loopW_out (fr' := [(0, .iface 38 (.ptr q 0)), (1, litI .i64 (0 : Nat)), (4, litI .i64 0), (17, litB true)]) ?_ (by simp), rfl, by rw [upL, if_pos rfl]; exact O⟩
    have e1 : IntKind.wrap .i64 (((0 : Nat) : Int) - 1) = -1 := by decide
    have e2 : IntKind.wrap .i64 ((-1 : Int).tdiv 2) = 0 := by decide
    have e3 : ((0 : Int) == ((0 : Nat) : Int)) = true := by decide
    simp -implicitDefEqProofs only [c22l0, codeW_seq, codeW_reg, codeW_cond, codeW_block, codeW_loop, codeW_skip, codeW_exit, codeW_ret, thenS_normal, thenS_if, thenS_ret, thenS_exit, thenS_pan, thenS_none, blockS_normal, blockS_exit, blockS_ret, blockS_pan, blockS_if, condS_some, ifS_true, ifS_false, opS_val, opS_new, opS_wr, opS_fz, opS_pan, bindO_some, runS_nil, runS_cons, runS_guard, gS_t, gS_f, gS_undef, asG_lit, asG_undef, core_mv, core_pick, core_alloc, core_load, core_store, core_clr, core_nilck, core_bin, core_binb, core_un, core_fadr, core_iadr, core_sli, core_len, core_lenS, core_idxS, core_app, core_mki, core_call, core_extV, core_fld, core_mks, wrO_some, valO_some, lenV_sl, lenV_own, bin_eql, bin_neq, bin_lss, bin_leq, bin_gtr, bin_geq, bin_add, bin_sub, bin_mul, unop_not, asBool_lit, pickV_lit, load_ip, iadr_sl, iadr_own, ev_s, ev_k, get_cons, get_nil, put_cons, put_nil, putD_some, putD_none, keep_cons, keep_nil, initFr, Nat.reduceEqDiff, Nat.reduceLT, Nat.reduceAdd, if_true, if_false, List.mem_cons, List.not_mem_nil, or_false, false_or, or_true, true_or, or_self, ↓reduceIte, Nat.zero_add, decide_false, decide_true, Nat.reduceBEq, beq_self_eq_true, BEq.rfl, Option.map_some, Option.map_none, List.head?_cons, List.map_cons, List.map_nil, List.append_nil, List.nil_append, List.cons_append, Bool.not_true, Bool.not_false, cond_true, cond_false, Int.natCast_nonneg, Int.toNat_natCast, Int.ofNat_toNat, core_bslice1, bsV_int, codeW_drawn, headS_cons, headS_nil, headS_guard, hS_val, hS_new, tailS_nil, tailS_cons, tailS_guard, tlS_val, tlS_new, tlS_wr, tlS_fz, tlS_pan, anyMk_cons, anyMk_nil, makes, binb_eql, binb_neq, List.isEmpty_nil, List.isEmpty_cons, Bool.or_false, Bool.false_or, Bool.or_true, Bool.true_or, pickV_t, pickV_f, core_inv, core_callS, fnV_func, core_tas, tasV_iface, nilck_ptr, extV_tup, fldV_agg, List.getElem?_cons_zero, List.getElem?_cons_succ, e1, bin_quo .i64 (show (2 : Int) ≠ 0 by decide), e2, e3]
  intro k
  induction k with
  | zero =>
    intro l j H hj hl hk O
    have : j = 0 := by omega
    subst this
    exact zero 0 l H O
  | succ k ih =>
    intro l j H hj hl hk O
    by_cases h0 : j = 0
    · subst h0; exact zero _ l H O
    · rw [upL, if_neg h0]
      have e1 : IntKind.wrap .i64 ((j : Int) - 1) = (j : Int) - 1 := by rw [wrap_mid] <;> omega
      have e2 : IntKind.wrap .i64 (((j : Int) - 1).tdiv 2) = (((j - 1) / 2 : Nat) : Int) := by rw [half (by omega), wrap_mid] <;> omega
      have e3 : ((((j - 1) / 2 : Nat) : Int) == (j : Int)) = false := by rw [beq_eq_false_iff_ne]; omega
      have L1 := fun id => less_inv (id := id) O hz j ((j - 1) / 2) hj (by omega)
      by_cases hs : l.getD j 0 < l.getD ((j - 1) / 2) 0
      · rw [if_pos hs]
        simp only [decide_eq_true hs] at L1
        obtain ⟨H1, s1, s2, s3⟩ := swap_inv (id := H.length) O ((j - 1) / 2) j (by omega) (by omega)
        obtain ⟨H', fr', k1, k2, k3⟩ := ih (swapL l ((j - 1) / 2) j) ((j - 1) / 2) H1 (by rw [swapL_len]; omega) (by rw [swapL_len]; exact hl) (by omega) s3
        refine ⟨H', fr', loopW_round ?_ k1, by omega, k3⟩
        simp -implicitDefEqProofs only [c22l0, codeW_seq, codeW_reg, codeW_cond, codeW_block, codeW_loop, codeW_skip, codeW_exit, codeW_ret, thenS_normal, thenS_if, thenS_ret, thenS_exit, thenS_pan, thenS_none, blockS_normal, blockS_exit, blockS_ret, blockS_pan, blockS_if, condS_some, ifS_true, ifS_false, opS_val, opS_new, opS_wr, opS_fz, opS_pan, bindO_some, runS_nil, runS_cons, runS_guard, gS_t, gS_f, gS_undef, asG_lit, asG_undef, core_mv, core_pick, core_alloc, core_load, core_store, core_clr, core_nilck, core_bin, core_binb, core_un, core_fadr, core_iadr, core_sli, core_len, core_lenS, core_idxS, core_app, core_mki, core_call, core_extV, core_fld, core_mks, wrO_some, valO_some, lenV_sl, lenV_own, bin_eql, bin_neq, bin_lss, bin_leq, bin_gtr, bin_geq, bin_add, bin_sub, bin_mul, unop_not, asBool_lit, pickV_lit, load_ip, iadr_sl, iadr_own, ev_s, ev_k, get_cons, get_nil, put_cons, put_nil, putD_some, putD_none, keep_cons, keep_nil, initFr, Nat.reduceEqDiff, Nat.reduceLT, Nat.reduceAdd, if_true, if_false, List.mem_cons, List.not_mem_nil, or_false, false_or, or_true, true_or, or_self, ↓reduceIte, Nat.zero_add, decide_false, decide_true, Nat.reduceBEq, beq_self_eq_true, BEq.rfl, Option.map_some, Option.map_none, List.head?_cons, List.map_cons, List.map_nil, List.append_nil, List.nil_append, List.cons_append, Bool.not_true, Bool.not_false, cond_true, cond_false, Int.natCast_nonneg, Int.toNat_natCast, Int.ofNat_toNat, core_bslice1, bsV_int, codeW_drawn, headS_cons, headS_nil, headS_guard, hS_val, hS_new, tailS_nil, tailS_cons, tailS_guard, tlS_val, tlS_new, tlS_wr, tlS_fz, tlS_pan, anyMk_cons, anyMk_nil, makes, binb_eql, binb_neq, List.isEmpty_nil, List.isEmpty_cons, Bool.or_false, Bool.false_or, Bool.or_true, Bool.true_or, pickV_t, pickV_f, core_inv, core_callS, fnV_func, core_tas, tasV_iface, nilck_ptr, extV_tup, fldV_agg, List.getElem?_cons_zero, List.getElem?_cons_succ, e1, bin_quo .i64 (show (2 : Int) ≠ 0 by decide), e2, e3, L1, s1]
      · rw [if_neg hs]
        simp only [decide_eq_false hs] at L1
        refine ⟨H, _, loopW_out (fr' := [(0, .iface 38 (.ptr q 0)), (1, litI .i64 j), (4, litI .i64 (((j - 1) / 2 : Nat) : Int)), (17, litB true)]) ?_ (by simp), rfl, O⟩
        simp -implicitDefEqProofs only [c22l0, codeW_seq, codeW_reg, codeW_cond, codeW_block, codeW_loop, codeW_skip, codeW_exit, codeW_ret, thenS_normal, thenS_if, thenS_ret, thenS_exit, thenS_pan, thenS_none, blockS_normal, blockS_exit, blockS_ret, blockS_pan, blockS_if, condS_some, ifS_true, ifS_false, opS_val, opS_new, opS_wr, opS_fz, opS_pan, bindO_some, runS_nil, runS_cons, runS_guard, gS_t, gS_f, gS_undef, asG_lit, asG_undef, core_mv, core_pick, core_alloc, core_load, core_store, core_clr, core_nilck, core_bin, core_binb, core_un, core_fadr, core_iadr, core_sli, core_len, core_lenS, core_idxS, core_app, core_mki, core_call, core_extV, core_fld, core_mks, wrO_some, valO_some, lenV_sl, lenV_own, bin_eql, bin_neq, bin_lss, bin_leq, bin_gtr, bin_geq, bin_add, bin_sub, bin_mul, unop_not, asBool_lit, pickV_lit, load_ip, iadr_sl, iadr_own, ev_s, ev_k, get_cons, get_nil, put_cons, put_nil, putD_some, putD_none, keep_cons, keep_nil, initFr, Nat.reduceEqDiff, Nat.reduceLT, Nat.reduceAdd, if_true, if_false, List.mem_cons, List.not_mem_nil, or_false, false_or, or_true, true_or, or_self, ↓reduceIte, Nat.zero_add, decide_false, decide_true, Nat.reduceBEq, beq_self_eq_true, BEq.rfl, Option.map_some, Option.map_none, List.head?_cons, List.map_cons, List.map_nil, List.append_nil, List.nil_append, List.cons_append, Bool.not_true, Bool.not_false, cond_true, cond_false, Int.natCast_nonneg, Int.toNat_natCast, Int.ofNat_toNat, core_bslice1, bsV_int, codeW_drawn, headS_cons, headS_nil, headS_guard, hS_val, hS_new, tailS_nil, tailS_cons, tailS_guard, tlS_val, tlS_new, tlS_wr, tlS_fz, tlS_pan, anyMk_cons, anyMk_nil, makes, binb_eql, binb_neq, List.isEmpty_nil, List.isEmpty_cons, Bool.or_false, Bool.false_or, Bool.or_true, Bool.true_or, pickV_t, pickV_f, core_inv, core_callS, fnV_func, core_tas, tasV_iface, nilck_ptr, extV_tup, fldV_agg, List.getElem?_cons_zero, List.getElem?_cons_succ, e1, bin_quo .i64 (show (2 : Int) ≠ 0 by decide), e2, e3, L1]

theorem up_tells (O : Own H (rd q p l z ++ d)) (hz : z.all whole = true) (j : Nat) (hj : j < l.length) (hl : l.length ≤ 1000) :
    ∃ H', cw 22 [.iface 38 (.ptr q 0), litI .i64 j] H = some (.ret (.tup []), H') ∧ H'.length = H.length ∧ Own H' (rd q p (upL (j + 1) l j) z ++ d) := by
  obtain ⟨H', fr', L, k2, k3⟩ := up_loop q p d z hz j l j H hj hl (Nat.le_refl _) O
  refine ⟨H', cw_of fn22 (c := c22) (H := H) rfl rfl rfl rfl ?_, k2, k3⟩
  simp -implicitDefEqProofs only [c22, codeW_seq, codeW_reg, codeW_cond, codeW_block, codeW_loop, codeW_skip, codeW_exit, codeW_ret, thenS_normal, thenS_if, thenS_ret, thenS_exit, thenS_pan, thenS_none, blockS_normal, blockS_exit, blockS_ret, blockS_pan, blockS_if, condS_some, ifS_true, ifS_false, opS_val, opS_new, opS_wr, opS_fz, opS_pan, bindO_some, runS_nil, runS_cons, runS_guard, gS_t, gS_f, gS_undef, asG_lit, asG_undef, core_mv, core_pick, core_alloc, core_load, core_store, core_clr, core_nilck, core_bin, core_binb, core_un, core_fadr, core_iadr, core_sli, core_len, core_lenS, core_idxS, core_app, core_mki, core_call, core_extV, core_fld, core_mks, wrO_some, valO_some, lenV_sl, lenV_own, bin_eql, bin_neq, bin_lss, bin_leq, bin_gtr, bin_geq, bin_add, bin_sub, bin_mul, unop_not, asBool_lit, pickV_lit, load_ip, iadr_sl, iadr_own, ev_s, ev_k, get_cons, get_nil, put_cons, put_nil, putD_some, putD_none, keep_cons, keep_nil, initFr, Nat.reduceEqDiff, Nat.reduceLT, Nat.reduceAdd, if_true, if_false, List.mem_cons, List.not_mem_nil, or_false, false_or, or_true, true_or, or_self, ↓reduceIte, Nat.zero_add, decide_false, decide_true, Nat.reduceBEq, beq_self_eq_true, BEq.rfl, Option.map_some, Option.map_none, List.head?_cons, List.map_cons, List.map_nil, List.append_nil, List.nil_append, List.cons_append, Bool.not_true, Bool.not_false, cond_true, cond_false, Int.natCast_nonneg, Int.toNat_natCast, Int.ofNat_toNat, core_bslice1, bsV_int, codeW_drawn, headS_cons, headS_nil, headS_guard, hS_val, hS_new, tailS_nil, tailS_cons, tailS_guard, tlS_val, tlS_new, tlS_wr, tlS_fz, tlS_pan, anyMk_cons, anyMk_nil, makes, binb_eql, binb_neq, List.isEmpty_nil, List.isEmpty_cons, Bool.or_false, Bool.false_or, Bool.or_true, Bool.true_or, pickV_t, pickV_f, core_inv, core_callS, fnV_func, core_tas, tasV_iface, nilck_ptr, extV_tup, fldV_agg, List.getElem?_cons_zero, List.getElem?_cons_succ, L]
  rfl

/-! ### The row's own Pop and Push -/
theorem mpop_tells {x : Int} (O : Own H (rd q p (l ++ [x]) z ++ d)) (hl : l.length ≤ 1000) :
    ∃ H', cw 62 [.ptr q 0] H = some (.ret (.iface 3 (litI .i64 x)), H') ∧ H'.length = H.length ∧ Own H' (rd q p l (litI .i64 x :: z) ++ d) := by
  have hlen : (l ++ [x]).length = l.length + 1 := by simp
  have hc : cellsI (l ++ [x]) ++ z = cellsI l ++ (litI .i64 x :: z) := by simp [cellsI]
  have O' : Own H ((q, [.own p 0 (l.length + 1) 1 none], 33) :: (p, cellsI l ++ (litI .i64 x :: z), 3) :: d) := by
    have := O
    simp only [rd, hlen, hc] at this
    exact this
  have O1 := O'.set [.own p 0 l.length 1 none] 33
  refine ⟨_, cw_of fn62 (c := c62) (H := H) (r := (.ret (.iface 3 (litI .i64 x)), setL H q (.row [.own p 0 l.length 1 none] 33))) rfl rfl rfl rfl ?_, by simp [setL_len], O1⟩
  have hw : IntKind.wrap .i64 (((l.length + 1 : Nat) : Int) - 1) = (l.length : Int) := by rw [wrap_small] <;> omega
  have hp : H[p]? = some (.row (cellsI l ++ (litI .i64 x :: z)) 3) := O'.get (p, _, 3) (by simp)
  have hx : (cellsI l ++ (litI .i64 x :: z))[l.length]? = some (litI .i64 x) := by rw [List.getElem?_append_right (by simp [cellsI])]; simp [cellsI]
  have h1 : (l.length : Int) < ((l.length + 1 : Nat) : Int) := by omega
  have hs : slice 1 (.own p 0 (l.length + 1) 1 none) none (some (litI .i64 (l.length : Int))) none = some (.own p 0 l.length 1 none) := by
    rw [slice_own_to (by omega) (by omega)]; simp
  have st : storeAt H 1 (.ptr q 0) (.own p 0 l.length 1 none) = some (setL H q (.row [.own p 0 l.length 1 none] 33)) := by
    rw [store_ptr O'.head (by simp) rfl rfl]; rfl
  simp -implicitDefEqProofs only [c62, codeW_seq, codeW_reg, codeW_cond, codeW_block, codeW_loop, codeW_skip, codeW_exit, codeW_ret, thenS_normal, thenS_if, thenS_ret, thenS_exit, thenS_pan, thenS_none, blockS_normal, blockS_exit, blockS_ret, blockS_pan, blockS_if, condS_some, ifS_true, ifS_false, opS_val, opS_new, opS_wr, opS_fz, opS_pan, bindO_some, runS_nil, runS_cons, runS_guard, gS_t, gS_f, gS_undef, asG_lit, asG_undef, core_mv, core_pick, core_alloc, core_load, core_store, core_clr, core_nilck, core_bin, core_binb, core_un, core_fadr, core_iadr, core_sli, core_len, core_lenS, core_idxS, core_app, core_mki, core_call, core_extV, core_fld, core_mks, wrO_some, valO_some, lenV_sl, lenV_own, bin_eql, bin_neq, bin_lss, bin_leq, bin_gtr, bin_geq, bin_add, bin_sub, bin_mul, unop_not, asBool_lit, pickV_lit, load_ip, iadr_sl, iadr_own, ev_s, ev_k, get_cons, get_nil, put_cons, put_nil, putD_some, putD_none, keep_cons, keep_nil, initFr, Nat.reduceEqDiff, Nat.reduceLT, Nat.reduceAdd, if_true, if_false, List.mem_cons, List.not_mem_nil, or_false, false_or, or_true, true_or, or_self, ↓reduceIte, Nat.zero_add, decide_false, decide_true, Nat.reduceBEq, beq_self_eq_true, BEq.rfl, Option.map_some, Option.map_none, List.head?_cons, List.map_cons, List.map_nil, List.append_nil, List.nil_append, List.cons_append, Bool.not_true, Bool.not_false, cond_true, cond_false, Int.natCast_nonneg, Int.toNat_natCast, Int.ofNat_toNat, core_bslice1, bsV_int, codeW_drawn, headS_cons, headS_nil, headS_guard, hS_val, hS_new, tailS_nil, tailS_cons, tailS_guard, tlS_val, tlS_new, tlS_wr, tlS_fz, tlS_pan, anyMk_cons, anyMk_nil, makes, binb_eql, binb_neq, List.isEmpty_nil, List.isEmpty_cons, Bool.or_false, Bool.false_or, Bool.or_true, Bool.true_or, pickV_t, pickV_f, core_inv, core_callS, fnV_func, core_tas, tasV_iface, nilck_ptr, extV_tup, fldV_agg, List.getElem?_cons_zero, List.getElem?_cons_succ, load_ptr0 O'.head, hw, h1, and_self, load_ptr hp, hx, hs, st, Nat.mul_one]
  rfl

/-- The box of a row of ints, whether the row has an object or not. -/
def Rd (H : List AO) (q : Nat) (l : List Int) (d : List Obj1) : Prop :=
  (l = [] ∧ Own H ((q, [.sl 0 [] (some 0)], 33) :: d)) ∨ ∃ p z, z.all whole = true ∧ Own H (rd q p l z ++ d)

theorem mpush_tells {x : Int} (O : Rd H q l d) (hl : l.length ≤ 1000) :
    ∃ H' p, cw 63 [.ptr q 0, .iface 3 (litI .i64 x)] H = some (.ret (.tup []), H') ∧ H.length < H'.length ∧ p = H.length ∧ Own H' (rd q p (l ++ [x]) [] ++ d) := by
  rcases O with ⟨rfl, O⟩ | ⟨p, z, hz, O⟩
  · have O0 := O.new [litI .i64 x] 3
    have O1 := ((O0.perm (List.Perm.swap ..)).set [.own H.length 0 1 1 none] 33)
    refine ⟨_, H.length, cw_of fn63 (c := c63) (H := H) (r := (.ret (.tup []), setL (H ++ [.row [litI .i64 x] 3]) q (.row [.own H.length 0 1 1 none] 33))) rfl rfl rfl rfl ?_, by simp [setL_len], rfl, O1⟩
    have ap : append H H.length 1 8 3 (.sl 0 [] (some 0)) (.sl 1 [[litI .i64 x]] (some 1)) = some (.val (.own H.length 0 1 1 none) (some (.row [litI .i64 x] 3))) := rfl
    have st : storeAt (H ++ [.row [litI .i64 x] 3]) 1 (.ptr q 0) (.own H.length 0 1 1 none) = some (setL (H ++ [.row [litI .i64 x] 3]) q (.row [.own H.length 0 1 1 none] 33)) := by
      rw [store_ptr ((O0.perm (List.Perm.swap ..)).head) (by simp) rfl rfl]; rfl
    simp -implicitDefEqProofs only [c63, codeW_seq, codeW_reg, codeW_cond, codeW_block, codeW_loop, codeW_skip, codeW_exit, codeW_ret, thenS_normal, thenS_if, thenS_ret, thenS_exit, thenS_pan, thenS_none, blockS_normal, blockS_exit, blockS_ret, blockS_pan, blockS_if, condS_some, ifS_true, ifS_false, opS_val, opS_new, opS_wr, opS_fz, opS_pan, bindO_some, runS_nil, runS_cons, runS_guard, gS_t, gS_f, gS_undef, asG_lit, asG_undef, core_mv, core_pick, core_alloc, core_load, core_store, core_clr, core_nilck, core_bin, core_binb, core_un, core_fadr, core_iadr, core_sli, core_len, core_lenS, core_idxS, core_app, core_mki, core_call, core_extV, core_fld, core_mks, wrO_some, valO_some, lenV_sl, lenV_own, bin_eql, bin_neq, bin_lss, bin_leq, bin_gtr, bin_geq, bin_add, bin_sub, bin_mul, unop_not, asBool_lit, pickV_lit, load_ip, iadr_sl, iadr_own, ev_s, ev_k, get_cons, get_nil, put_cons, put_nil, putD_some, putD_none, keep_cons, keep_nil, initFr, Nat.reduceEqDiff, Nat.reduceLT, Nat.reduceAdd, if_true, if_false, List.mem_cons, List.not_mem_nil, or_false, false_or, or_true, true_or, or_self, ↓reduceIte, Nat.zero_add, decide_false, decide_true, Nat.reduceBEq, beq_self_eq_true, BEq.rfl, Option.map_some, Option.map_none, List.head?_cons, List.map_cons, List.map_nil, List.append_nil, List.nil_append, List.cons_append, Bool.not_true, Bool.not_false, cond_true, cond_false, Int.natCast_nonneg, Int.toNat_natCast, Int.ofNat_toNat, core_bslice1, bsV_int, codeW_drawn, headS_cons, headS_nil, headS_guard, hS_val, hS_new, tailS_nil, tailS_cons, tailS_guard, tlS_val, tlS_new, tlS_wr, tlS_fz, tlS_pan, anyMk_cons, anyMk_nil, makes, binb_eql, binb_neq, List.isEmpty_nil, List.isEmpty_cons, Bool.or_false, Bool.false_or, Bool.or_true, Bool.true_or, pickV_t, pickV_f, core_inv, core_callS, fnV_func, core_tas, tasV_iface, nilck_ptr, extV_tup, fldV_agg, List.getElem?_cons_zero, List.getElem?_cons_succ, load_ptr0 O.head, ap, st]
    rfl
  · have hp := rd_p O
    have hpt : H[p]? = some (.row (cellsI l ++ z) 3) := hp
    have ap : append H H.length 1 8 3 (.own p 0 l.length 1 none) (.sl 1 [[litI .i64 x]] (some 1)) = some (.wr (.own H.length 0 (l.length + 1) 1 none) (setL H p .dead ++ [.row (cellsI (l ++ [x])) 3])) := by
      have h2 : (cellsI l ++ z).take (l.length * 1) = cellsI l := by rw [Nat.mul_one, List.take_left' (by simp [cellsI])]
      have h3 : Nat.ble (l.length * 1) (cellsI l ++ z).length = true := Nat.ble_eq_true_of_le (by simp [cellsI])
      have h4 : Nat.ble ((l.length + 1) * 8) 140737488355328 = true := Nat.ble_eq_true_of_le (by omega)
      simp only [append, elems, List.drop_zero, BEq.rfl, Bool.true_or, cond_true, Option.bind_some, List.length_cons, List.length_nil, Nat.zero_add, Nat.reduceBEq, cond_false, rowAt_of hpt, h2, h3, h4, Bool.and_self, List.flatten_cons, List.flatten_nil, List.append_nil]
      simp [cellsI]
    have Ok : Own (setL H p .dead) ((q, [.own p 0 l.length 1 none], 33) :: d) := by
      have := O.perm (d' := (p, cellsI l ++ z, 3) :: (q, [.own p 0 l.length 1 none], 33) :: d) (List.Perm.swap ..)
      exact this.kill
    have On := Ok.new (cellsI (l ++ [x])) 3
    rw [setL_len] at On
    have Os := (On.perm (List.Perm.swap ..)).set [.own H.length 0 (l.length + 1) 1 none] 33
    have hlen : (l ++ [x]).length = l.length + 1 := by simp
    refine ⟨_, H.length, cw_of fn63 (c := c63) (H := H) (r := (.ret (.tup []), setL (setL H p .dead ++ [.row (cellsI (l ++ [x])) 3]) q (.row [.own H.length 0 (l.length + 1) 1 none] 33))) rfl rfl rfl rfl ?_, by simp [setL_len], rfl, ?_⟩
    · have st : storeAt (setL H p .dead ++ [.row (cellsI (l ++ [x])) 3]) 1 (.ptr q 0) (.own H.length 0 (l.length + 1) 1 none) = some (setL (setL H p .dead ++ [.row (cellsI (l ++ [x])) 3]) q (.row [.own H.length 0 (l.length + 1) 1 none] 33)) := by
        rw [store_ptr ((On.perm (List.Perm.swap ..)).head) (by simp) rfl rfl]; rfl
      simp -implicitDefEqProofs only [c63, codeW_seq, codeW_reg, codeW_cond, codeW_block, codeW_loop, codeW_skip, codeW_exit, codeW_ret, thenS_normal, thenS_if, thenS_ret, thenS_exit, thenS_pan, thenS_none, blockS_normal, blockS_exit, blockS_ret, blockS_pan, blockS_if, condS_some, ifS_true, ifS_false, opS_val, opS_new, opS_wr, opS_fz, opS_pan, bindO_some, runS_nil, runS_cons, runS_guard, gS_t, gS_f, gS_undef, asG_lit, asG_undef, core_mv, core_pick, core_alloc, core_load, core_store, core_clr, core_nilck, core_bin, core_binb, core_un, core_fadr, core_iadr, core_sli, core_len, core_lenS, core_idxS, core_app, core_mki, core_call, core_extV, core_fld, core_mks, wrO_some, valO_some, lenV_sl, lenV_own, bin_eql, bin_neq, bin_lss, bin_leq, bin_gtr, bin_geq, bin_add, bin_sub, bin_mul, unop_not, asBool_lit, pickV_lit, load_ip, iadr_sl, iadr_own, ev_s, ev_k, get_cons, get_nil, put_cons, put_nil, putD_some, putD_none, keep_cons, keep_nil, initFr, Nat.reduceEqDiff, Nat.reduceLT, Nat.reduceAdd, if_true, if_false, List.mem_cons, List.not_mem_nil, or_false, false_or, or_true, true_or, or_self, ↓reduceIte, Nat.zero_add, decide_false, decide_true, Nat.reduceBEq, beq_self_eq_true, BEq.rfl, Option.map_some, Option.map_none, List.head?_cons, List.map_cons, List.map_nil, List.append_nil, List.nil_append, List.cons_append, Bool.not_true, Bool.not_false, cond_true, cond_false, Int.natCast_nonneg, Int.toNat_natCast, Int.ofNat_toNat, core_bslice1, bsV_int, codeW_drawn, headS_cons, headS_nil, headS_guard, hS_val, hS_new, tailS_nil, tailS_cons, tailS_guard, tlS_val, tlS_new, tlS_wr, tlS_fz, tlS_pan, anyMk_cons, anyMk_nil, makes, binb_eql, binb_neq, List.isEmpty_nil, List.isEmpty_cons, Bool.or_false, Bool.false_or, Bool.or_true, Bool.true_or, pickV_t, pickV_f, core_inv, core_callS, fnV_func, core_tas, tasV_iface, nilck_ptr, extV_tup, fldV_agg, List.getElem?_cons_zero, List.getElem?_cons_succ, load_ptr0 O.head, ap, st]
      rfl
    · simp only [rd, hlen, List.append_nil]
      exact Os
end

/-! ### heap.Pop, heap.Push -/
/-- What the heap is when its first one is out, and that one: the last of this row. -/
def popL (l : List Int) : List Int := downL (l.length - 1) (swapL l 0 (l.length - 1)) 0 (l.length - 1)
theorem popL_len (l : List Int) : (popL l).length = l.length := by unfold popL; rw [downL_len, swapL_len]
def pushL (l : List Int) (x : Int) : List Int := upL (l.length + 1) (l ++ [x]) l.length
theorem pushL_len (l : List Int) (x : Int) : (pushL l x).length = l.length + 1 := by unfold pushL; rw [upL_len]; simp

section
variable {H : List AO} {q p : Nat} {l : List Int} {z : List AV} {d : List Obj1} {id : Nat}
theorem split_last {l : List Int} {n : Nat} (h : l.length = n + 1) : l = l.take n ++ [l.getD n 0] := by
  have : l.drop n = [l.getD n 0] := by
    rw [List.drop_eq_getElem_cons (by omega), List.drop_eq_nil_of_le (by omega), List.getD_eq_getElem?_getD, List.getElem?_eq_getElem (by omega)]; rfl
  rw [← this, List.take_append_drop]

theorem hpop_tells (O : Own H (rd q p l z ++ d)) (hz : z.all whole = true) (h0 : 0 < l.length) (hl : l.length ≤ 1000) :
    ∃ H' z', cw 15 [.iface 38 (.ptr q 0)] H = some (.ret (.iface 3 (litI .i64 ((popL l).getD (l.length - 1) 0))), H') ∧ H'.length = H.length ∧ z'.all whole = true ∧ Own H' (rd q p ((popL l).take (l.length - 1)) z' ++ d) := by
  have L0 := fun id => len_inv (id := id) O hz
  have hw : IntKind.wrap .i64 ((l.length : Int) - 1) = ((l.length - 1 : Nat) : Int) := by rw [wrap_small] <;> omega
  obtain ⟨H1, s1, s2, s3⟩ := swap_inv (id := H.length) O 0 (l.length - 1) (by omega) (by omega)
  rw [show ((0 : Nat) : Int) = 0 from rfl] at s1
  obtain ⟨H2, b, t1, t2, t3⟩ := down_tells s3 hz (l.length - 1) (by rw [swapL_len]; omega) (by rw [swapL_len]; exact hl) (by rw [swapL_len]; exact h0)
  have c1 := callV_same (md := mds) (id := H1.length) rfl t1 t2
  have hsp := split_last (l := popL l) (n := l.length - 1) (by rw [popL_len]; omega)
  have t3' : Own H2 (rd q p ((popL l).take (l.length - 1) ++ [(popL l).getD (l.length - 1) 0]) z ++ d) := by rw [← hsp]; exact t3
  obtain ⟨H3, u1, u2, u3⟩ := mpop_tells t3' (by rw [List.length_take]; omega)
  have c2 : invV cw (lookM mtl) mds (.iface 38 (.ptr q 0)) "Pop" [] H2 H2.length = some (.wr (.iface 3 (litI .i64 ((popL l).getD (l.length - 1) 0))) H3) := by
    rw [invV_n mt_Pop]
    exact callV_same rfl u1 u2
  refine ⟨H3, _, cw_of fn15 (c := c15) (H := H) rfl rfl rfl rfl ?_, by omega, by simp only [List.all_cons, hz, Bool.and_true]; rfl, u3⟩
  simp -implicitDefEqProofs only [c15, codeW_seq, codeW_reg, codeW_cond, codeW_block, codeW_loop, codeW_skip, codeW_exit, codeW_ret, thenS_normal, thenS_if, thenS_ret, thenS_exit, thenS_pan, thenS_none, blockS_normal, blockS_exit, blockS_ret, blockS_pan, blockS_if, condS_some, ifS_true, ifS_false, opS_val, opS_new, opS_wr, opS_fz, opS_pan, bindO_some, runS_nil, runS_cons, runS_guard, gS_t, gS_f, gS_undef, asG_lit, asG_undef, core_mv, core_pick, core_alloc, core_load, core_store, core_clr, core_nilck, core_bin, core_binb, core_un, core_fadr, core_iadr, core_sli, core_len, core_lenS, core_idxS, core_app, core_mki, core_call, core_extV, core_fld, core_mks, wrO_some, valO_some, lenV_sl, lenV_own, bin_eql, bin_neq, bin_lss, bin_leq, bin_gtr, bin_geq, bin_add, bin_sub, bin_mul, unop_not, asBool_lit, pickV_lit, load_ip, iadr_sl, iadr_own, ev_s, ev_k, get_cons, get_nil, put_cons, put_nil, putD_some, putD_none, keep_cons, keep_nil, initFr, Nat.reduceEqDiff, Nat.reduceLT, Nat.reduceAdd, if_true, if_false, List.mem_cons, List.not_mem_nil, or_false, false_or, or_true, true_or, or_self, ↓reduceIte, Nat.zero_add, decide_false, decide_true, Nat.reduceBEq, beq_self_eq_true, BEq.rfl, Option.map_some, Option.map_none, List.head?_cons, List.map_cons, List.map_nil, List.append_nil, List.nil_append, List.cons_append, Bool.not_true, Bool.not_false, cond_true, cond_false, Int.natCast_nonneg, Int.toNat_natCast, Int.ofNat_toNat, core_bslice1, bsV_int, codeW_drawn, headS_cons, headS_nil, headS_guard, hS_val, hS_new, tailS_nil, tailS_cons, tailS_guard, tlS_val, tlS_new, tlS_wr, tlS_fz, tlS_pan, anyMk_cons, anyMk_nil, makes, binb_eql, binb_neq, List.isEmpty_nil, List.isEmpty_cons, Bool.or_false, Bool.false_or, Bool.or_true, Bool.true_or, pickV_t, pickV_f, core_inv, core_callS, fnV_func, core_tas, tasV_iface, nilck_ptr, extV_tup, fldV_agg, List.getElem?_cons_zero, List.getElem?_cons_succ, L0, hw, s1, c1, c2]
  rfl

theorem hpush_tells {x : Int} (O : Rd H q l d) (hl : l.length < 1000) :
    ∃ H' p, cw 16 [.iface 38 (.ptr q 0), .iface 3 (litI .i64 x)] H = some (.ret (.tup []), H') ∧ H.length < H'.length ∧ H.length ≤ p ∧ Own H' (rd q p (pushL l x) [] ++ d) := by
  obtain ⟨H1, p, s1, s2, s3, s4⟩ := mpush_tells (x := x) O (by omega)
  have hq : q < H.length := by
    rcases O with ⟨_, O⟩ | ⟨p, z, _, O⟩
    · exact O.lt _ (List.mem_cons_self ..)
    · exact O.lt (q, _, 33) (List.mem_cons_self ..)
  have c1 : invV cw (lookM mtl) mds (.iface 38 (.ptr q 0)) "Push" [.iface 3 (litI .i64 x)] H H.length = some (.wr (.tup []) H1) := by
    rw [invV_n mt_Push]
    refine callV_new (r := q) rfl s1 s4.head hq ?_
    show ([AV.own p 0 (l ++ [x]).length 1 none].all (below H.length frzF)) = false
    simp only [List.all_cons, List.all_nil, Bool.and_true, show frzF = 15 + 1 from rfl, below]
    rw [s3, ← Bool.not_eq_true, Nat.blt_eq]; omega
  have hlen : (l ++ [x]).length = l.length + 1 := by simp
  have L0 := fun id => len_inv (id := id) s4 rfl
  simp only [hlen] at L0
  have hw : IntKind.wrap .i64 (((l.length + 1 : Nat) : Int) - 1) = (l.length : Int) := by rw [wrap_small] <;> omega
  obtain ⟨H2, t1, t2, t3⟩ := up_tells s4 rfl l.length (by simp) (by rw [hlen]; omega)
  have c2 := callV_same (md := mds) (id := H1.length) rfl t1 t2
  refine ⟨H2, p, cw_of fn16 (c := c16) (H := H) rfl rfl rfl rfl ?_, by omega, by omega, t3⟩
  simp -implicitDefEqProofs only [c16, codeW_seq, codeW_reg, codeW_cond, codeW_block, codeW_loop, codeW_skip, codeW_exit, codeW_ret, thenS_normal, thenS_if, thenS_ret, thenS_exit, thenS_pan, thenS_none, blockS_normal, blockS_exit, blockS_ret, blockS_pan, blockS_if, condS_some, ifS_true, ifS_false, opS_val, opS_new, opS_wr, opS_fz, opS_pan, bindO_some, runS_nil, runS_cons, runS_guard, gS_t, gS_f, gS_undef, asG_lit, asG_undef, core_mv, core_pick, core_alloc, core_load, core_store, core_clr, core_nilck, core_bin, core_binb, core_un, core_fadr, core_iadr, core_sli, core_len, core_lenS, core_idxS, core_app, core_mki, core_call, core_extV, core_fld, core_mks, wrO_some, valO_some, lenV_sl, lenV_own, bin_eql, bin_neq, bin_lss, bin_leq, bin_gtr, bin_geq, bin_add, bin_sub, bin_mul, unop_not, asBool_lit, pickV_lit, load_ip, iadr_sl, iadr_own, ev_s, ev_k, get_cons, get_nil, put_cons, put_nil, putD_some, putD_none, keep_cons, keep_nil, initFr, Nat.reduceEqDiff, Nat.reduceLT, Nat.reduceAdd, if_true, if_false, List.mem_cons, List.not_mem_nil, or_false, false_or, or_true, true_or, or_self, ↓reduceIte, Nat.zero_add, decide_false, decide_true, Nat.reduceBEq, beq_self_eq_true, BEq.rfl, Option.map_some, Option.map_none, List.head?_cons, List.map_cons, List.map_nil, List.append_nil, List.nil_append, List.cons_append, Bool.not_true, Bool.not_false, cond_true, cond_false, Int.natCast_nonneg, Int.toNat_natCast, Int.ofNat_toNat, core_bslice1, bsV_int, codeW_drawn, headS_cons, headS_nil, headS_guard, hS_val, hS_new, tailS_nil, tailS_cons, tailS_guard, tlS_val, tlS_new, tlS_wr, tlS_fz, tlS_pan, anyMk_cons, anyMk_nil, makes, binb_eql, binb_neq, List.isEmpty_nil, List.isEmpty_cons, Bool.or_false, Bool.false_or, Bool.or_true, Bool.true_or, pickV_t, pickV_f, core_inv, core_callS, fnV_func, core_tas, tasV_iface, nilck_ptr, extV_tup, fldV_agg, List.getElem?_cons_zero, List.getElem?_cons_succ, c1, L0, hw, c2]
  rfl
end
end Go.Proofs.Ytoemnjclhheeoaa.Ai

namespace Go.Proofs.Ytoemnjclhheeoaa.Ai
open Go Go.Ai
set_option linter.unusedSimpArgs false
set_option linter.unusedVariables false

/-- A slice of ints and its object, if it has one. -/
def Sl (A : AV) (l : List Int) (o : List Obj1) : Prop :=
  (A = .sl 0 [] (some 0) ∧ l = [] ∧ o = []) ∨ ∃ p z, z.all whole = true ∧ A = .own p 0 l.length 1 none ∧ o = [(p, cellsI l ++ z, 3)]
theorem Sl.nil : Sl (.sl 0 [] (some 0)) [] [] := .inl ⟨rfl, rfl, rfl⟩
theorem Sl.own (p : Nat) (l : List Int) : Sl (.own p 0 l.length 1 none) l [(p, cellsI l, 3)] := .inr ⟨p, [], rfl, rfl, by simp⟩
theorem Sl.cellA {A : AV} {l : List Int} {o : List Obj1} (h : Sl A l o) : Ai.cellA A = true ∧ cellsOf A = [A] := by
  rcases h with ⟨rfl, _⟩ | ⟨p, z, _, rfl, _⟩ <;> exact ⟨rfl, rfl⟩
theorem Sl.lenV {A : AV} {l : List Int} {o : List Obj1} (h : Sl A l o) : Ai.lenV A = some (litI .i64 l.length) := by
  rcases h with ⟨rfl, rfl, _⟩ | ⟨p, z, _, rfl, _⟩ <;> rfl

theorem app_Sl {A : AV} {l : List Int} {o : List Obj1} {H : List AO} {d : List Obj1} {x : Int} (S : Sl A l o) (O : Own H (o ++ d)) (hl : l.length ≤ 100000) :
    ∃ H', (∀ (D : Option Nat) (fr : Fr) (k : Fr → List AO → Option Ai.S), opS (append H H.length 1 8 3 A (.sl 1 [[litI .i64 x]] (some 1))) D fr H k = k (putD fr D (.own H.length 0 (l ++ [x]).length 1 none)) H') ∧
      Own H' ((H.length, cellsI (l ++ [x]), 3) :: d) ∧ H'.length = H.length + 1 := by
  rcases S with ⟨rfl, rfl, rfl⟩ | ⟨p, z, hz, rfl, rfl⟩
  · exact ⟨H ++ [.row [litI .i64 x] 3], fun D fr k => rfl, O.new [litI .i64 x] 3, by simp⟩
  · have hp : H[p]? = some (.row (cellsI l ++ z) 3) := O.head
    have ap : append H H.length 1 8 3 (.own p 0 l.length 1 none) (.sl 1 [[litI .i64 x]] (some 1)) = some (.wr (.own H.length 0 (l.length + 1) 1 none) (setL H p .dead ++ [.row (cellsI (l ++ [x])) 3])) := by
      have h2 : (cellsI l ++ z).take (l.length * 1) = cellsI l := by rw [Nat.mul_one, List.take_left' (by simp [cellsI])]
      have h3 : Nat.ble (l.length * 1) (cellsI l ++ z).length = true := Nat.ble_eq_true_of_le (by simp [cellsI])
      have h4 : Nat.ble ((l.length + 1) * 8) 140737488355328 = true := Nat.ble_eq_true_of_le (by omega)
      simp only [append, elems, List.drop_zero, BEq.rfl, Bool.true_or, cond_true, Option.bind_some, List.length_cons, List.length_nil, Nat.zero_add, Nat.reduceBEq, cond_false, rowAt_of hp, h2, h3, h4, Bool.and_self, List.flatten_cons, List.flatten_nil, List.append_nil]
      simp [cellsI]
    have On := (Own.kill O).new (cellsI (l ++ [x])) 3
    rw [setL_len] at On
    refine ⟨setL H p .dead ++ [.row (cellsI (l ++ [x])) 3], fun D fr k => ?_, On, by simp [setL_len]⟩
    rw [ap, opS_wr]
    simp

/-- A row of slices: each its value, its ints, its object. -/
abbrev US := List (AV × List Int × List Obj1)
def US.ok (us : US) : Prop := ∀ x ∈ us, Sl x.1 x.2.1 x.2.2
def US.objs (us : US) : List Obj1 := us.flatMap (·.2.2)
def US.ints (us : US) : List (List Int) := us.map (·.2.1)
def US.cells (us : US) : List AV := us.map (·.1)
def noU : AV × List Int × List Obj1 := (.any, [], [])

theorem US.focus : ∀ {us : US} {k : Nat} {x : AV × List Int × List Obj1}, us[k]? = some x → us.objs.Perm (x.2.2 ++ US.objs (us.set k noU))
  | [], k, x, h => by simp at h
  | y :: us, 0, x, h => by
    simp only [List.getElem?_cons_zero, Option.some.injEq] at h; subst h
    simp [US.objs, noU]
  | y :: us, k + 1, x, h => by
    simp only [List.getElem?_cons_succ] at h
    have ih := US.focus h
    simp only [US.objs, List.flatMap_cons, List.set_cons_succ] at ih ⊢
    refine (List.Perm.append_left _ ih).trans ?_
    rw [← List.append_assoc, ← List.append_assoc]
    exact List.Perm.append_right _ List.perm_append_comm
theorem US.refocus {us : US} {k : Nat} (x : AV × List Int × List Obj1) (hk : k < us.length) : (US.objs (us.set k x)).Perm (x.2.2 ++ US.objs (us.set k noU)) := by
  have := US.focus (us := us.set k x) (k := k) (x := x) (by rw [List.getElem?_set_self hk])
  rw [List.set_set] at this
  exact this
theorem US.ok_set {us : US} (h : us.ok) {k : Nat} {x : AV × List Int × List Obj1} (hx : Sl x.1 x.2.1 x.2.2) : US.ok (us.set k x) := by
  intro y hy
  rcases List.mem_or_eq_of_mem_set hy with hy | rfl
  · exact h y hy
  · exact hx

/-- i is put down at each of its needs. -/
def addU (us : List (List Int)) (i : Int) : List Int → List (List Int)
  | [] => us
  | k :: r => addU (us.set k.toNat (us.getD k.toNat [] ++ [i])) i r
theorem addU_len (i : Int) : ∀ (r : List Int) (us : List (List Int)), (addU us i r).length = us.length
  | [], _ => rfl
  | k :: r, us => by rw [addU, addU_len]; simp

theorem load_of {H : List AO} {r off : Nat} {cs : List AV} {t : TypeId} {a : AV} (h : H[r]? = some (.row cs t)) (ha : cs[off]? = some a) : Ai.load H none (.ptr r off) = some a := by rw [load_ptr h, ha]

theorem add_loop (g A5 A6 A8 : AV) (i N u pl : Nat) (l : List Int) (zl : List AV) (m24 m23 : AV) (hi : i < 4611686018427387904) : ∀ (m n : Nat) (us : US) (d : List Obj1) (H : List AO), m + n = l.length → l.length ≤ 1000 → us.length = N → us.ok → (∀ x ∈ us, x.2.1.length ≤ 1000 + n) → (∀ k ∈ l, 0 ≤ k ∧ k < N) →
    Own H ((u, us.cells, 24) :: (pl, cellsI l ++ zl, 3) :: us.objs ++ d) →
    ∃ (us' : US) (H' : List AO), loopW (codeW cw (lookM mtl) mds c8l0) [0, 4, 5, 6, 7, 8, 23, 24, 35, 36, 37] [(0, g), (4, .own u 0 N 1 (some N)), (5, A5), (6, A6), (7, litI .i64 i), (8, A8), (23, m23), (24, m24), (35, .own pl 0 l.length 1 none), (36, litI .i64 l.length), (37, litI .i64 n)] H =
      some (EX.exit 2, [(0, g), (4, .own u 0 N 1 (some N)), (5, A5), (6, A6), (7, litI .i64 i), (8, A8), (23, m23), (24, m24), (35, .own pl 0 l.length 1 none), (36, litI .i64 l.length), (37, litI .i64 l.length), (38, litB false)], H') ∧
      us'.length = N ∧ us'.ok ∧ us'.ints = addU us.ints i (l.drop n) ∧ Own H' ((u, us'.cells, 24) :: (pl, cellsI l ++ zl, 3) :: us'.objs ++ d) := by
  intro m
  induction m with
  | zero =>
    intro n us d H h hl hN hok hus hk O
    have hn : n = l.length := by omega
    subst hn
    refine ⟨us, H, loopW_out ?_ (by simp), hN, hok, by rw [List.drop_length]; rfl, O⟩
    simp -implicitDefEqProofs only [c8l0, codeW_seq, codeW_reg, codeW_cond, codeW_block, codeW_loop, codeW_skip, codeW_exit, codeW_ret, thenS_normal, thenS_if, thenS_ret, thenS_exit, thenS_pan, thenS_none, blockS_normal, blockS_exit, blockS_ret, blockS_pan, blockS_if, condS_some, ifS_true, ifS_false, opS_val, opS_new, opS_wr, opS_fz, opS_pan, bindO_some, runS_nil, runS_cons, runS_guard, gS_t, gS_f, gS_undef, asG_lit, asG_undef, core_mv, core_pick, core_alloc, core_load, core_store, core_clr, core_nilck, core_bin, core_binb, core_un, core_fadr, core_iadr, core_sli, core_len, core_lenS, core_idxS, core_app, core_mki, core_call, core_extV, core_fld, core_mks, wrO_some, valO_some, lenV_sl, lenV_own, bin_eql, bin_neq, bin_lss, bin_leq, bin_gtr, bin_geq, bin_add, bin_sub, bin_mul, unop_not, asBool_lit, pickV_lit, load_ip, iadr_sl, iadr_own, ev_s, ev_k, get_cons, get_nil, put_cons, put_nil, putD_some, putD_none, keep_cons, keep_nil, initFr, Nat.reduceEqDiff, Nat.reduceLT, Nat.reduceAdd, if_true, if_false, List.mem_cons, List.not_mem_nil, or_false, false_or, or_true, true_or, or_self, ↓reduceIte, Nat.zero_add, decide_false, decide_true, Nat.reduceBEq, beq_self_eq_true, BEq.rfl, Option.map_some, Option.map_none, List.head?_cons, List.map_cons, List.map_nil, List.append_nil, List.nil_append, List.cons_append, Bool.not_true, Bool.not_false, cond_true, cond_false, Int.natCast_nonneg, Int.toNat_natCast, Int.ofNat_toNat, core_bslice1, bsV_int, codeW_drawn, headS_cons, headS_nil, headS_guard, hS_val, hS_new, tailS_nil, tailS_cons, tailS_guard, tlS_val, tlS_new, tlS_wr, tlS_fz, tlS_pan, anyMk_cons, anyMk_nil, makes, binb_eql, binb_neq, List.isEmpty_nil, List.isEmpty_cons, Bool.or_false, Bool.false_or, Bool.or_true, Bool.true_or, pickV_t, pickV_f, core_inv, core_callS, fnV_func, core_tas, tasV_iface, nilck_ptr, extV_tup, fldV_agg, List.getElem?_cons_zero, List.getElem?_cons_succ, Int.lt_irrefl]
  | succ m ih =>
    intro n us d H h hl hN hok hus hk O
    have hn : n < l.length := by omega
    have hlt : (n : Int) < l.length := by omega
    have h0 : (0 : Int) ≤ n := by omega
    have hw := wrap1 (show n < 4611686018427387904 by omega)
    have hd : l.drop n = l.getD n 0 :: l.drop (n + 1) := by
      rw [List.drop_eq_getElem_cons hn, List.getD_eq_getElem?_getD, List.getElem?_eq_getElem hn]; rfl
    have hmem : l.getD n 0 ∈ l := by
      rw [List.getD_eq_getElem?_getD, List.getElem?_eq_getElem hn]; exact List.getElem_mem _
    have hkk := hk _ hmem
    have Op : H[pl]? = some (.row (cellsI l ++ zl) 3) := O.get (pl, cellsI l ++ zl, 3) (by simp)
    have hc := cellsZ_get (z := zl) hn
    generalize hK : l.getD n 0 = K at *
    obtain ⟨x, hx⟩ : ∃ x, us[K.toNat]? = some x := ⟨_, List.getElem?_eq_getElem (by omega)⟩
    have hxS : Sl x.1 x.2.1 x.2.2 := hok x (List.mem_of_getElem? hx)
    have hxl : us.cells[K.toNat]? = some x.1 := by simp [US.cells, hx]
    have O1 : Own H (x.2.2 ++ ((u, us.cells, 24) :: (pl, cellsI l ++ zl, 3) :: US.objs (us.set K.toNat noU) ++ d)) := by
      refine O.perm ?_
      have := US.focus hx
      refine (List.Perm.append_right d (List.Perm.cons _ (List.Perm.cons _ this))).trans ?_
      have e : (u, us.cells, 24) :: (pl, cellsI l ++ zl, 3) :: (x.2.2 ++ US.objs (us.set K.toNat noU)) ++ d = [(u, us.cells, 24), (pl, cellsI l ++ zl, 3)] ++ x.2.2 ++ (US.objs (us.set K.toNat noU) ++ d) := by simp
      have e2 : x.2.2 ++ ((u, us.cells, 24) :: (pl, cellsI l ++ zl, 3) :: US.objs (us.set K.toNat noU) ++ d) = x.2.2 ++ [(u, us.cells, 24), (pl, cellsI l ++ zl, 3)] ++ (US.objs (us.set K.toNat noU) ++ d) := by simp
      rw [e, e2]
      exact List.Perm.append_right _ List.perm_append_comm
    have hlx := hus x (List.mem_of_getElem? hx)
    obtain ⟨H1, ap, O2, hl1⟩ := app_Sl (x := (i : Int)) hxS O1 (by omega)
    let y : AV × List Int × List Obj1 := (.own H.length 0 (x.2.1 ++ [(i : Int)]).length 1 none, x.2.1 ++ [(i : Int)], [(H.length, cellsI (x.2.1 ++ [(i : Int)]), 3)])
    have hy : Sl y.1 y.2.1 y.2.2 := Sl.own _ _
    have O3 := ((O2.perm (List.Perm.swap ..)).set (US.cells (us.set K.toNat y)) 24)
    have O4 : Own (setL H1 u (.row (US.cells (us.set K.toNat y)) 24)) ((u, US.cells (us.set K.toNat y), 24) :: (pl, cellsI l ++ zl, 3) :: US.objs (us.set K.toNat y) ++ d) := by
      refine O3.perm (List.Perm.cons _ ?_)
      have := (US.refocus y (show K.toNat < us.length by omega)).symm
      refine List.Perm.trans ?_ (List.Perm.append_right d (List.Perm.cons (pl, cellsI l ++ zl, 3) this))
      exact List.Perm.swap ..
    have st : storeAt H1 1 (.ptr u K.toNat) (.own H.length 0 (x.2.1 ++ [(i : Int)]).length 1 none) = some (setL H1 u (.row (US.cells (us.set K.toNat y)) 24)) := by
      rw [store_ptr (O2.perm (List.Perm.swap ..)).head (by simp [US.cells]; omega) rfl rfl]
      simp [US.cells, y]
    obtain ⟨us', H', L, q1, q2, q3, q4⟩ := ih (n + 1) (us.set K.toNat y) d _ (by omega) hl (by simpa using hN) (US.ok_set hok hy) (fun w hw => by
      rcases List.mem_or_eq_of_mem_set hw with hw | rfl
      · have := hus w hw; omega
      · simp [y]; omega) hk O4
    refine ⟨us', H', loopW_round ?_ L, q1, q2, ?_, q4⟩
    · have hK1 : K < (N : Int) := hkk.2
      simp -implicitDefEqProofs only [c8l0, codeW_seq, codeW_reg, codeW_cond, codeW_block, codeW_loop, codeW_skip, codeW_exit, codeW_ret, thenS_normal, thenS_if, thenS_ret, thenS_exit, thenS_pan, thenS_none, blockS_normal, blockS_exit, blockS_ret, blockS_pan, blockS_if, condS_some, ifS_true, ifS_false, opS_val, opS_new, opS_wr, opS_fz, opS_pan, bindO_some, runS_nil, runS_cons, runS_guard, gS_t, gS_f, gS_undef, asG_lit, asG_undef, core_mv, core_pick, core_alloc, core_load, core_store, core_clr, core_nilck, core_bin, core_binb, core_un, core_fadr, core_iadr, core_sli, core_len, core_lenS, core_idxS, core_app, core_mki, core_call, core_extV, core_fld, core_mks, wrO_some, valO_some, lenV_sl, lenV_own, bin_eql, bin_neq, bin_lss, bin_leq, bin_gtr, bin_geq, bin_add, bin_sub, bin_mul, unop_not, asBool_lit, pickV_lit, load_ip, iadr_sl, iadr_own, ev_s, ev_k, get_cons, get_nil, put_cons, put_nil, putD_some, putD_none, keep_cons, keep_nil, initFr, Nat.reduceEqDiff, Nat.reduceLT, Nat.reduceAdd, if_true, if_false, List.mem_cons, List.not_mem_nil, or_false, false_or, or_true, true_or, or_self, ↓reduceIte, Nat.zero_add, decide_false, decide_true, Nat.reduceBEq, beq_self_eq_true, BEq.rfl, Option.map_some, Option.map_none, List.head?_cons, List.map_cons, List.map_nil, List.append_nil, List.nil_append, List.cons_append, Bool.not_true, Bool.not_false, cond_true, cond_false, Int.natCast_nonneg, Int.toNat_natCast, Int.ofNat_toNat, core_bslice1, bsV_int, codeW_drawn, headS_cons, headS_nil, headS_guard, hS_val, hS_new, tailS_nil, tailS_cons, tailS_guard, tlS_val, tlS_new, tlS_wr, tlS_fz, tlS_pan, anyMk_cons, anyMk_nil, makes, binb_eql, binb_neq, List.isEmpty_nil, List.isEmpty_cons, Bool.or_false, Bool.false_or, Bool.or_true, Bool.true_or, pickV_t, pickV_f, core_inv, core_callS, fnV_func, core_tas, tasV_iface, nilck_ptr, extV_tup, fldV_agg, List.getElem?_cons_zero, List.getElem?_cons_succ, hlt, h0, and_self, Nat.mul_one, load_of Op hc, hkk.1, hK1, load_of O.head hxl, ap, st, hw]
    · rw [q3, hd, addU]
      congr 1
      have : us.ints.getD K.toNat [] = x.2.1 := by simp [US.ints, List.getD_eq_getElem?_getD, hx]
      rw [this]
      simp [US.ints, y]
end Go.Proofs.Ytoemnjclhheeoaa.Ai

namespace Go.Proofs.Ytoemnjclhheeoaa.Ai
open Go Go.Ai
set_option linter.unusedSimpArgs false
set_option linter.unusedVariables false

theorem addU_short (i : Int) : ∀ (r : List Int) (us : List (List Int)) (B : Nat), (∀ x ∈ us, x.length ≤ B) → ∀ x ∈ addU us i r, x.length ≤ B + r.length
  | [], us, B, h, x, hx => by have := h x hx; simpa using this
  | k :: r, us, B, h, x, hx => by
    rw [addU] at hx
    have := addU_short i r (us.set k.toNat (us.getD k.toNat [] ++ [i])) (B + 1) (fun y hy => by
      rcases List.mem_or_eq_of_mem_set hy with hy | rfl
      · have := h y hy; omega
      · simp only [List.length_append, List.length_cons, List.length_nil]
        have : (us.getD k.toNat []).length ≤ B := by
          rw [List.getD_eq_getElem?_getD]
          cases hk : us[k.toNat]? with
          | none => simp
          | some y => exact h y (List.mem_of_getElem? hk)
        omega) x hx
    simp only [List.length_cons]; omega

/-- What the first loop makes of users, wants, ready. -/
def build (g : List (List Int)) : Nat → Nat → List (List Int) × List Int × List Int → List (List Int) × List Int × List Int
  | 0, _, s => s
  | m + 1, n, s => build g m (n + 1) (addU s.1 n (need g n), s.2.1.set n (need g n).length, if need g n = [] then s.2.2 ++ [(n : Int)] else s.2.2)

theorem cellsI_set (l : List Int) (n : Nat) (x : Int) : (cellsI l).set n (litI .i64 x) = cellsI (l.set n x) := by simp [cellsI]

theorem build_loop (g : List (List Int)) (hf : fewG g = true) (u w q : Nat) : ∀ (m n : Nat) (us : US) (ws r : List Int) (R : AV) (ro : List Obj1) (H : List AO), m + n = g.length → us.length = g.length → us.ok → (∀ x ∈ us.ints, x.length ≤ 50 * n) → ws.length = g.length → r.length ≤ n → Sl R r ro →
    Own H ((u, us.cells, 24) :: (w, cellsI ws, 3) :: (q, [R], 33) :: (ro ++ us.objs)) →
    ∃ (us' : US) (R' : AV) (ro' : List Obj1) (H' : List AO), loopW (codeW cw (lookM mtl) mds c8l1) [0, 4, 5, 6, 23, 24] [(0, gA g), (4, .own u 0 g.length 1 (some g.length)), (5, .own w 0 g.length 1 (some g.length)), (6, .ptr q 0), (23, litI .i64 g.length), (24, litI .i64 n)] H =
      some (EX.exit 0, [(0, gA g), (4, .own u 0 g.length 1 (some g.length)), (5, .own w 0 g.length 1 (some g.length)), (6, .ptr q 0), (23, litI .i64 g.length), (24, litI .i64 g.length), (25, litB false)], H') ∧
      us'.length = g.length ∧ us'.ok ∧ us'.ints = (build g m n (us.ints, ws, r)).1 ∧ Sl R' (build g m n (us.ints, ws, r)).2.2 ro' ∧
      Own H' ((u, us'.cells, 24) :: (w, cellsI (build g m n (us.ints, ws, r)).2.1, 3) :: (q, [R'], 33) :: (ro' ++ us'.objs)) := by
  have h20 := few_len hf
  intro m
  induction m with
  | zero =>
    intro n us ws r R ro H h hus hok hsh hws hr hS O
    have hn : n = g.length := by omega
    subst hn
    refine ⟨us, R, ro, H, loopW_out ?_ (by simp), hus, hok, rfl, hS, O⟩
    simp -implicitDefEqProofs only [c8l1, codeW_seq, codeW_reg, codeW_cond, codeW_block, codeW_loop, codeW_skip, codeW_exit, codeW_ret, thenS_normal, thenS_if, thenS_ret, thenS_exit, thenS_pan, thenS_none, blockS_normal, blockS_exit, blockS_ret, blockS_pan, blockS_if, condS_some, ifS_true, ifS_false, opS_val, opS_new, opS_wr, opS_fz, opS_pan, bindO_some, runS_nil, runS_cons, runS_guard, gS_t, gS_f, gS_undef, asG_lit, asG_undef, core_mv, core_pick, core_alloc, core_load, core_store, core_clr, core_nilck, core_bin, core_binb, core_un, core_fadr, core_iadr, core_sli, core_len, core_lenS, core_idxS, core_app, core_mki, core_call, core_extV, core_fld, core_mks, wrO_some, valO_some, lenV_sl, lenV_own, bin_eql, bin_neq, bin_lss, bin_leq, bin_gtr, bin_geq, bin_add, bin_sub, bin_mul, unop_not, asBool_lit, pickV_lit, load_ip, iadr_sl, iadr_own, ev_s, ev_k, get_cons, get_nil, put_cons, put_nil, putD_some, putD_none, keep_cons, keep_nil, initFr, Nat.reduceEqDiff, Nat.reduceLT, Nat.reduceAdd, if_true, if_false, List.mem_cons, List.not_mem_nil, or_false, false_or, or_true, true_or, or_self, ↓reduceIte, Nat.zero_add, decide_false, decide_true, Nat.reduceBEq, beq_self_eq_true, BEq.rfl, Option.map_some, Option.map_none, List.head?_cons, List.map_cons, List.map_nil, List.append_nil, List.nil_append, List.cons_append, Bool.not_true, Bool.not_false, cond_true, cond_false, Int.natCast_nonneg, Int.toNat_natCast, Int.ofNat_toNat, core_bslice1, bsV_int, codeW_drawn, headS_cons, headS_nil, headS_guard, hS_val, hS_new, tailS_nil, tailS_cons, tailS_guard, tlS_val, tlS_new, tlS_wr, tlS_fz, tlS_pan, anyMk_cons, anyMk_nil, makes, binb_eql, binb_neq, List.isEmpty_nil, List.isEmpty_cons, Bool.or_false, Bool.false_or, Bool.or_true, Bool.true_or, pickV_t, pickV_f, core_inv, core_callS, fnV_func, core_tas, tasV_iface, nilck_ptr, extV_tup, fldV_agg, List.getElem?_cons_zero, List.getElem?_cons_succ, Int.lt_irrefl]
  | succ m ih =>
    intro n us ws r R ro H h hus hok hsh hws hr hS O
    have hn : n < g.length := by omega
    have hlt : (n : Int) < g.length := by omega
    have h0 : (0 : Int) ≤ n := by omega
    have hw := wrap1 (show n < 4611686018427387904 by omega)
    obtain ⟨row, hrow⟩ : ∃ row, g[n]? = some row := ⟨_, List.getElem?_eq_getElem hn⟩
    have hneed : needG g row = need g n := by unfold need; rw [hrow]
    have hr40 := few_row hf hrow
    have n40 := need_40 hf n
    rw [build]
    by_cases hnil : needG g row = []
    · have hnd : need g n = [] := hneed ▸ hnil
      rw [hnd, if_pos rfl]
      have hc := fun id => needs_call0 g n row hrow (by omega) H id hnil
      have O1 := ((O.perm (List.Perm.swap ..)).set (cellsI (ws.set n 0)) 3)
      have st : storeAt H 1 (.ptr w n) (litI .i64 0) = some (setL H w (.row (cellsI (ws.set n 0)) 3)) := by
        rw [store_ptr (O.perm (List.Perm.swap ..)).head (by rw [cellsI_len]; omega) rfl rfl, cellsI_set]
      generalize setL H w (.row (cellsI (ws.set n 0)) 3) = H1 at O1 st
      have O2 : Own H1 (ro ++ ((q, [R], 33) :: (u, us.cells, 24) :: (w, cellsI (ws.set n 0), 3) :: us.objs)) := by
        refine O1.perm ?_
        have e1 : (w, cellsI (ws.set n 0), 3) :: (u, us.cells, 24) :: (q, [R], 33) :: (ro ++ us.objs) = [(w, cellsI (ws.set n 0), 3), (u, us.cells, 24), (q, [R], 33)] ++ ro ++ us.objs := by simp
        have e2 : ro ++ ((q, [R], 33) :: (u, us.cells, 24) :: (w, cellsI (ws.set n 0), 3) :: us.objs) = ro ++ [(q, [R], 33), (u, us.cells, 24), (w, cellsI (ws.set n 0), 3)] ++ us.objs := by simp
        rw [e1, e2]
        refine List.Perm.append_right _ (List.perm_append_comm.trans (List.Perm.append_left _ ?_))
        exact List.reverse_perm [(w, cellsI (ws.set n 0), 3), (u, us.cells, 24), (q, [R], 33)] |>.symm
      obtain ⟨H2, ap, O3, hl2⟩ := app_Sl (x := (n : Int)) hS O2 (by omega)
      have O4 := ((O3.perm (List.Perm.swap ..)).set [.own H1.length 0 (r ++ [(n : Int)]).length 1 none] 33)
      have st2 : storeAt H2 1 (.ptr q 0) (.own H1.length 0 (r ++ [(n : Int)]).length 1 none) = some (setL H2 q (.row [.own H1.length 0 (r ++ [(n : Int)]).length 1 none] 33)) := by
        rw [store_ptr (O3.perm (List.Perm.swap ..)).head (by simp) rfl rfl]; rfl
      generalize setL H2 q (.row [.own H1.length 0 (r ++ [(n : Int)]).length 1 none] 33) = H3 at O4 st2
      have O5 : Own H3 ((u, us.cells, 24) :: (w, cellsI (ws.set n 0), 3) :: (q, [.own H1.length 0 (r ++ [(n : Int)]).length 1 none], 33) :: ([(H1.length, cellsI (r ++ [(n : Int)]), 3)] ++ us.objs)) := by
        refine O4.perm ?_
        have e1 : (q, [AV.own H1.length 0 (r ++ [(n : Int)]).length 1 none], 33) :: (H1.length, cellsI (r ++ [(n : Int)]), 3) :: (u, us.cells, 24) :: (w, cellsI (ws.set n 0), 3) :: us.objs
          = ([(q, [AV.own H1.length 0 (r ++ [(n : Int)]).length 1 none], 33), (H1.length, cellsI (r ++ [(n : Int)]), 3)] ++ [(u, us.cells, 24), (w, cellsI (ws.set n 0), 3)]) ++ us.objs := by simp
        have e2 : (u, us.cells, 24) :: (w, cellsI (ws.set n 0), 3) :: (q, [AV.own H1.length 0 (r ++ [(n : Int)]).length 1 none], 33) :: ([(H1.length, cellsI (r ++ [(n : Int)]), 3)] ++ us.objs)
          = ([(u, us.cells, 24), (w, cellsI (ws.set n 0), 3)] ++ [(q, [AV.own H1.length 0 (r ++ [(n : Int)]).length 1 none], 33), (H1.length, cellsI (r ++ [(n : Int)]), 3)]) ++ us.objs := by simp
        rw [e1, e2]
        exact List.Perm.append_right _ List.perm_append_comm
      obtain ⟨us', R', ro', H', L, q1, q2, q3, q4, q5⟩ := ih (n + 1) us (ws.set n 0) (r ++ [(n : Int)]) _ _ H3 (by omega) hus hok (fun x hx => by have := hsh x hx; omega) (by simpa using hws) (by simp; omega) (Sl.own _ _) O5
      refine ⟨us', R', ro', H', loopW_round ?_ L, q1, q2, q3, q4, q5⟩
      have Ld : Ai.load H1 none (.ptr q 0) = some R := load_ptr0 (O2.get (q, [R], 33) (by simp))
      have Li : loopW (codeW cw (lookM mtl) mds c8l0) [0, 4, 5, 6, 7, 8, 23, 24, 35, 36, 37] [(0, gA g), (4, .own u 0 g.length 1 (some g.length)), (5, .own w 0 g.length 1 (some g.length)), (6, .ptr q 0), (7, litI .i64 n), (8, .sl 0 [] (some 0)), (23, litI .i64 g.length), (24, litI .i64 n), (35, .sl 0 [] (some 0)), (36, litI .i64 0), (37, litI .i64 0)] H1 =
        some (EX.exit 2, [(0, gA g), (4, .own u 0 g.length 1 (some g.length)), (5, .own w 0 g.length 1 (some g.length)), (6, .ptr q 0), (7, litI .i64 n), (8, .sl 0 [] (some 0)), (23, litI .i64 g.length), (24, litI .i64 n), (35, .sl 0 [] (some 0)), (36, litI .i64 0), (37, litI .i64 0), (38, litB false)], H1) := by
        refine loopW_out ?_ (by simp)
        simp -implicitDefEqProofs only [c8l0, codeW_seq, codeW_reg, codeW_cond, codeW_block, codeW_loop, codeW_skip, codeW_exit, codeW_ret, thenS_normal, thenS_if, thenS_ret, thenS_exit, thenS_pan, thenS_none, blockS_normal, blockS_exit, blockS_ret, blockS_pan, blockS_if, condS_some, ifS_true, ifS_false, opS_val, opS_new, opS_wr, opS_fz, opS_pan, bindO_some, runS_nil, runS_cons, runS_guard, gS_t, gS_f, gS_undef, asG_lit, asG_undef, core_mv, core_pick, core_alloc, core_load, core_store, core_clr, core_nilck, core_bin, core_binb, core_un, core_fadr, core_iadr, core_sli, core_len, core_lenS, core_idxS, core_app, core_mki, core_call, core_extV, core_fld, core_mks, wrO_some, valO_some, lenV_sl, lenV_own, bin_eql, bin_neq, bin_lss, bin_leq, bin_gtr, bin_geq, bin_add, bin_sub, bin_mul, unop_not, asBool_lit, pickV_lit, load_ip, iadr_sl, iadr_own, ev_s, ev_k, get_cons, get_nil, put_cons, put_nil, putD_some, putD_none, keep_cons, keep_nil, initFr, Nat.reduceEqDiff, Nat.reduceLT, Nat.reduceAdd, if_true, if_false, List.mem_cons, List.not_mem_nil, or_false, false_or, or_true, true_or, or_self, ↓reduceIte, Nat.zero_add, decide_false, decide_true, Nat.reduceBEq, beq_self_eq_true, BEq.rfl, Option.map_some, Option.map_none, List.head?_cons, List.map_cons, List.map_nil, List.append_nil, List.nil_append, List.cons_append, Bool.not_true, Bool.not_false, cond_true, cond_false, Int.natCast_nonneg, Int.toNat_natCast, Int.ofNat_toNat, core_bslice1, bsV_int, codeW_drawn, headS_cons, headS_nil, headS_guard, hS_val, hS_new, tailS_nil, tailS_cons, tailS_guard, tlS_val, tlS_new, tlS_wr, tlS_fz, tlS_pan, anyMk_cons, anyMk_nil, makes, binb_eql, binb_neq, List.isEmpty_nil, List.isEmpty_cons, Bool.or_false, Bool.false_or, Bool.or_true, Bool.true_or, pickV_t, pickV_f, core_inv, core_callS, fnV_func, core_tas, tasV_iface, nilck_ptr, extV_tup, fldV_agg, List.getElem?_cons_zero, List.getElem?_cons_succ, Int.lt_irrefl]
      simp -implicitDefEqProofs only [c8l1, codeW_seq, codeW_reg, codeW_cond, codeW_block, codeW_loop, codeW_skip, codeW_exit, codeW_ret, thenS_normal, thenS_if, thenS_ret, thenS_exit, thenS_pan, thenS_none, blockS_normal, blockS_exit, blockS_ret, blockS_pan, blockS_if, condS_some, ifS_true, ifS_false, opS_val, opS_new, opS_wr, opS_fz, opS_pan, bindO_some, runS_nil, runS_cons, runS_guard, gS_t, gS_f, gS_undef, asG_lit, asG_undef, core_mv, core_pick, core_alloc, core_load, core_store, core_clr, core_nilck, core_bin, core_binb, core_un, core_fadr, core_iadr, core_sli, core_len, core_lenS, core_idxS, core_app, core_mki, core_call, core_extV, core_fld, core_mks, wrO_some, valO_some, lenV_sl, lenV_own, bin_eql, bin_neq, bin_lss, bin_leq, bin_gtr, bin_geq, bin_add, bin_sub, bin_mul, unop_not, asBool_lit, pickV_lit, load_ip, iadr_sl, iadr_own, ev_s, ev_k, get_cons, get_nil, put_cons, put_nil, putD_some, putD_none, keep_cons, keep_nil, initFr, Nat.reduceEqDiff, Nat.reduceLT, Nat.reduceAdd, if_true, if_false, List.mem_cons, List.not_mem_nil, or_false, false_or, or_true, true_or, or_self, ↓reduceIte, Nat.zero_add, decide_false, decide_true, Nat.reduceBEq, beq_self_eq_true, BEq.rfl, Option.map_some, Option.map_none, List.head?_cons, List.map_cons, List.map_nil, List.append_nil, List.nil_append, List.cons_append, Bool.not_true, Bool.not_false, cond_true, cond_false, Int.natCast_nonneg, Int.toNat_natCast, Int.ofNat_toNat, core_bslice1, bsV_int, codeW_drawn, headS_cons, headS_nil, headS_guard, hS_val, hS_new, tailS_nil, tailS_cons, tailS_guard, tlS_val, tlS_new, tlS_wr, tlS_fz, tlS_pan, anyMk_cons, anyMk_nil, makes, binb_eql, binb_neq, List.isEmpty_nil, List.isEmpty_cons, Bool.or_false, Bool.false_or, Bool.or_true, Bool.true_or, pickV_t, pickV_f, core_inv, core_callS, fnV_func, core_tas, tasV_iface, nilck_ptr, extV_tup, fldV_agg, List.getElem?_cons_zero, List.getElem?_cons_succ, hlt, h0, and_self, Nat.mul_one, hc, List.length_nil, Int.ofNat_zero, st, Li, Ld, ap, st2, hw]
    · have hnd : ¬ need g n = [] := fun e => hnil (hneed.trans e)
      rw [if_neg hnd]
      obtain ⟨z, hc⟩ := needs_call1 g n row hrow (by omega) H H.length hnil
      rw [hneed] at hc
      have O1 := O.new (cellsI (need g n) ++ z) 3
      generalize hH1 : H ++ [AO.row (cellsI (need g n) ++ z) 3] = H1 at O1
      have Ow : Own H1 ((w, cellsI ws, 3) :: (H.length, cellsI (need g n) ++ z, 3) :: (u, us.cells, 24) :: (q, [R], 33) :: (ro ++ us.objs)) := by
        refine O1.perm ?_
        refine (List.Perm.cons _ (List.Perm.swap ..)).trans (List.Perm.swap ..)
      have O2 := Ow.set (cellsI (ws.set n (need g n).length)) 3
      have st : storeAt H1 1 (.ptr w n) (litI .i64 (need g n).length) = some (setL H1 w (.row (cellsI (ws.set n (need g n).length)) 3)) := by
        rw [store_ptr Ow.head (by rw [cellsI_len]; omega) rfl rfl, cellsI_set]
      generalize setL H1 w (.row (cellsI (ws.set n (need g n).length)) 3) = H2 at O2 st
      have O3 : Own H2 ((u, us.cells, 24) :: (H.length, cellsI (need g n) ++ z, 3) :: us.objs ++ ((w, cellsI (ws.set n (need g n).length), 3) :: (q, [R], 33) :: ro)) := by
        refine O2.perm ?_
        have e1 : (w, cellsI (ws.set n (need g n).length), 3) :: (H.length, cellsI (need g n) ++ z, 3) :: (u, us.cells, 24) :: (q, [R], 33) :: (ro ++ us.objs)
          = ([(w, cellsI (ws.set n (need g n).length), 3)] ++ [(H.length, cellsI (need g n) ++ z, 3), (u, us.cells, 24)]) ++ ([(q, [R], 33)] ++ ro ++ us.objs) := by simp
        have e2 : (u, us.cells, 24) :: (H.length, cellsI (need g n) ++ z, 3) :: us.objs ++ ((w, cellsI (ws.set n (need g n).length), 3) :: (q, [R], 33) :: ro)
          = [(u, us.cells, 24), (H.length, cellsI (need g n) ++ z, 3)] ++ (us.objs ++ ([(w, cellsI (ws.set n (need g n).length), 3)] ++ ([(q, [R], 33)] ++ ro))) := by simp
        rw [e1, e2]
        refine (List.Perm.append_right _ (List.perm_append_comm.trans (List.Perm.append_right _ (List.Perm.swap ..)))).trans ?_
        rw [List.append_assoc]
        refine List.Perm.append_left _ ?_
        refine (List.Perm.append_left _ List.perm_append_comm).trans ?_
        have := List.Perm.append_right (l₁ := [(w, cellsI (ws.set n (need g n).length), 3)] ++ us.objs) (l₂ := us.objs ++ [(w, cellsI (ws.set n (need g n).length), 3)]) ([(q, [R], 33)] ++ ro) List.perm_append_comm
        simpa only [List.append_assoc] using this
      obtain ⟨us1, H3, L1, p1, p2, p3, p4⟩ := add_loop (gA g) (.own w 0 g.length 1 (some g.length)) (.ptr q 0) (.own H.length 0 (need g n).length 1 none) n g.length u H.length (need g n) z (litI .i64 n) (litI .i64 g.length) (by omega) (need g n).length 0 us _ H2 (by omega) (by omega) hus hok
        (fun x hx => by have := hsh x.2.1 (List.mem_map.2 ⟨x, hx, rfl⟩); omega) (fun k hk => need_rng _ _ hk) O3
      rw [show ((0 : Nat) : Int) = 0 from rfl] at L1
      rw [List.drop_zero] at p3
      have O5 : Own H3 ((u, us1.cells, 24) :: (w, cellsI (ws.set n (need g n).length), 3) :: (q, [R], 33) :: (ro ++ us1.objs)) := by
        have : Own H3 ((u, us1.cells, 24) :: us1.objs ++ ((w, cellsI (ws.set n (need g n).length), 3) :: (q, [R], 33) :: ro)) := (p4.perm (List.Perm.swap ..)).tail
        refine this.perm (List.Perm.cons _ ?_)
        refine List.perm_append_comm.trans ?_
        simp
      obtain ⟨us', R', ro', H', L, q1, q2, q3, q4, q5⟩ := ih (n + 1) us1 (ws.set n (need g n).length) r R ro H3 (by omega) p1 p2 (fun x hx => by
        rw [p3] at hx
        have := addU_short n (need g n) us.ints (50 * n) hsh x hx
        omega) (by simpa using hws) (by omega) hS O5
      rw [p3] at q3 q4 q5
      refine ⟨us', R', ro', H', loopW_round ?_ L, q1, q2, q3, q4, q5⟩
      have hz : (((need g n).length : Int) == 0) = false := by
        rw [beq_eq_false_iff_ne]
        have : 0 < (need g n).length := List.length_pos_iff.2 hnd
        omega
      simp -implicitDefEqProofs only [c8l1, codeW_seq, codeW_reg, codeW_cond, codeW_block, codeW_loop, codeW_skip, codeW_exit, codeW_ret, thenS_normal, thenS_if, thenS_ret, thenS_exit, thenS_pan, thenS_none, blockS_normal, blockS_exit, blockS_ret, blockS_pan, blockS_if, condS_some, ifS_true, ifS_false, opS_val, opS_new, opS_wr, opS_fz, opS_pan, bindO_some, runS_nil, runS_cons, runS_guard, gS_t, gS_f, gS_undef, asG_lit, asG_undef, core_mv, core_pick, core_alloc, core_load, core_store, core_clr, core_nilck, core_bin, core_binb, core_un, core_fadr, core_iadr, core_sli, core_len, core_lenS, core_idxS, core_app, core_mki, core_call, core_extV, core_fld, core_mks, wrO_some, valO_some, lenV_sl, lenV_own, bin_eql, bin_neq, bin_lss, bin_leq, bin_gtr, bin_geq, bin_add, bin_sub, bin_mul, unop_not, asBool_lit, pickV_lit, load_ip, iadr_sl, iadr_own, ev_s, ev_k, get_cons, get_nil, put_cons, put_nil, putD_some, putD_none, keep_cons, keep_nil, initFr, Nat.reduceEqDiff, Nat.reduceLT, Nat.reduceAdd, if_true, if_false, List.mem_cons, List.not_mem_nil, or_false, false_or, or_true, true_or, or_self, ↓reduceIte, Nat.zero_add, decide_false, decide_true, Nat.reduceBEq, beq_self_eq_true, BEq.rfl, Option.map_some, Option.map_none, List.head?_cons, List.map_cons, List.map_nil, List.append_nil, List.nil_append, List.cons_append, Bool.not_true, Bool.not_false, cond_true, cond_false, Int.natCast_nonneg, Int.toNat_natCast, Int.ofNat_toNat, core_bslice1, bsV_int, codeW_drawn, headS_cons, headS_nil, headS_guard, hS_val, hS_new, tailS_nil, tailS_cons, tailS_guard, tlS_val, tlS_new, tlS_wr, tlS_fz, tlS_pan, anyMk_cons, anyMk_nil, makes, binb_eql, binb_neq, List.isEmpty_nil, List.isEmpty_cons, Bool.or_false, Bool.false_or, Bool.or_true, Bool.true_or, pickV_t, pickV_f, core_inv, core_callS, fnV_func, core_tas, tasV_iface, nilck_ptr, extV_tup, fldV_agg, List.getElem?_cons_zero, List.getElem?_cons_succ, hlt, h0, and_self, Nat.mul_one, hc, hH1, st, L1, hz, hw]
end Go.Proofs.Ytoemnjclhheeoaa.Ai

namespace Go.Proofs.Ytoemnjclhheeoaa.Ai
open Go Go.Ai
set_option linter.unusedSimpArgs false
set_option linter.unusedVariables false

/-! ### The heap's rows hold the same ints -/
theorem swapL_perm (l : List Int) (i j : Nat) (hi : i < l.length) (hj : j < l.length) : (swapL l i j).Perm l := by
  unfold swapL
  rw [List.getD_eq_getElem?_getD, List.getD_eq_getElem?_getD, List.getElem?_eq_getElem hi, List.getElem?_eq_getElem hj]
  simp only [Option.getD_some]
  exact List.set_set_perm hi hj
theorem downL_perm : ∀ (k : Nat) (l : List Int) (i n : Nat), n ≤ l.length → i < l.length → (downL k l i n).Perm l
  | 0, l, _, _, _, _ => List.Perm.refl _
  | k + 1, l, i, n, hn, hi => by
    rw [downL]
    by_cases hc : n ≤ 2 * i + 1
    · rw [if_pos hc]
    · rw [if_neg hc]
      generalize hj : (if 2 * i + 2 < n ∧ l.getD (2 * i + 2) 0 < l.getD (2 * i + 1) 0 then 2 * i + 2 else 2 * i + 1) = j
      have hjn : j < n := by rw [← hj]; split <;> omega
      by_cases hs : l.getD j 0 < l.getD i 0
      · rw [if_pos hs]
        exact (downL_perm k _ j n (by rw [swapL_len]; exact hn) (by rw [swapL_len]; omega)).trans (swapL_perm l i j hi (by omega))
      · rw [if_neg hs]
theorem upL_perm : ∀ (k : Nat) (l : List Int) (j : Nat), j < l.length → (upL k l j).Perm l
  | 0, l, _, _ => List.Perm.refl _
  | k + 1, l, j, hj => by
    rw [upL]
    by_cases h0 : j = 0
    · rw [if_pos h0]
    · rw [if_neg h0]
      by_cases hs : l.getD j 0 < l.getD ((j - 1) / 2) 0
      · rw [if_pos hs]
        exact (upL_perm k _ _ (by rw [swapL_len]; omega)).trans (swapL_perm l _ j (by omega) hj)
      · rw [if_neg hs]
theorem popL_perm {l : List Int} (h : 0 < l.length) : (popL l).Perm l :=
  (downL_perm _ _ _ _ (by rw [swapL_len]; omega) (by rw [swapL_len]; exact h)).trans (swapL_perm l 0 _ h (by omega))
theorem pop_split {l : List Int} (h : 0 < l.length) : ((popL l).take (l.length - 1) ++ [(popL l).getD (l.length - 1) 0]).Perm l := by
  rw [← split_last (l := popL l) (n := l.length - 1) (by rw [popL_len]; omega)]
  exact popL_perm h
theorem pushL_perm (l : List Int) (x : Int) : (pushL l x).Perm (l ++ [x]) := upL_perm _ _ _ (by simp)

/-! ### The loops -/
def relax : List Int → List Int → List Int → List Int × List Int
  | ws, h, [] => (ws, h)
  | ws, h, k :: r => relax (ws.set k.toNat (ws.getD k.toNat 0 - 1)) (if ws.getD k.toNat 0 - 1 = 0 then pushL h k else h) r

theorem Rd.of_Sl {H : List AO} {q : Nat} {A : AV} {l : List Int} {o d : List Obj1} (S : Sl A l o) (O : Own H ((q, [A], 33) :: (o ++ d))) : Rd H q l d := by
  rcases S with ⟨rfl, rfl, rfl⟩ | ⟨p, z, hz, rfl, rfl⟩
  · exact .inl ⟨rfl, O⟩
  · exact .inr ⟨p, z, hz, O⟩

theorem relax_loop (g : AV) (N u w q : Nat) (l : List Int) (A11 A12 A74 : AV) (hl : l.length ≤ 1000) (hN : N ≤ 20) (hk : ∀ k ∈ l, 0 ≤ k ∧ k < N) :
    ∀ (m n : Nat) (ws h : List Int) (A : AV) (o d : List Obj1) (B : Nat) (H : List AO), m + n = l.length → ws.length = N → h.length + m < 1000 → (∀ x ∈ ws, -(B : Int) ≤ x ∧ x ≤ 1000) → B + m ≤ 1000000 → Sl A h o →
    (∀ H', Own H' d → ∀ j : Nat, j < l.length → ∃ c, iadr 1 A74 (litI .i64 j) = some c ∧ Ai.load H' none c = some (litI .i64 (l.getD j 0))) →
    Own H ((w, cellsI ws, 3) :: (q, [A], 33) :: (o ++ d)) →
    ∃ (A' : AV) (o' : List Obj1) (H' : List AO), loopW (codeW cw (lookM mtl) mds c8l2) [0, 4, 5, 6, 11, 12, 74, 75, 76] [(0, g), (4, .own u 0 N 1 (some N)), (5, .own w 0 N 1 (some N)), (6, .ptr q 0), (11, A11), (12, A12), (74, A74), (75, litI .i64 l.length), (76, litI .i64 n)] H =
      some (EX.exit 6, [(0, g), (4, .own u 0 N 1 (some N)), (5, .own w 0 N 1 (some N)), (6, .ptr q 0), (11, A11), (12, A12), (74, A74), (75, litI .i64 l.length), (76, litI .i64 l.length), (77, litB false)], H') ∧
      Sl A' (relax ws h (l.drop n)).2 o' ∧ Own H' ((w, cellsI (relax ws h (l.drop n)).1, 3) :: (q, [A'], 33) :: (o' ++ d)) ∧ (relax ws h (l.drop n)).1.length = N ∧ (∀ x ∈ (relax ws h (l.drop n)).1, -((B + m : Nat) : Int) ≤ x ∧ x ≤ 1000) := by
  intro m
  induction m with
  | zero =>
    intro n ws h A o d B H hm hws hh hb hB S hA O
    have hn : n = l.length := by omega
    subst hn
    rw [List.drop_length]
    refine ⟨A, o, H, loopW_out ?_ (by simp), S, O, hws, by simpa [relax] using hb⟩
    simp -implicitDefEqProofs only [c8l2, codeW_seq, codeW_reg, codeW_cond, codeW_block, codeW_loop, codeW_skip, codeW_exit, codeW_ret, thenS_normal, thenS_if, thenS_ret, thenS_exit, thenS_pan, thenS_none, blockS_normal, blockS_exit, blockS_ret, blockS_pan, blockS_if, condS_some, ifS_true, ifS_false, opS_val, opS_new, opS_wr, opS_fz, opS_pan, bindO_some, runS_nil, runS_cons, runS_guard, gS_t, gS_f, gS_undef, asG_lit, asG_undef, core_mv, core_pick, core_alloc, core_load, core_store, core_clr, core_nilck, core_bin, core_binb, core_un, core_fadr, core_iadr, core_sli, core_len, core_lenS, core_idxS, core_app, core_mki, core_call, core_extV, core_fld, core_mks, wrO_some, valO_some, lenV_sl, lenV_own, bin_eql, bin_neq, bin_lss, bin_leq, bin_gtr, bin_geq, bin_add, bin_sub, bin_mul, unop_not, asBool_lit, pickV_lit, load_ip, iadr_sl, iadr_own, ev_s, ev_k, get_cons, get_nil, put_cons, put_nil, putD_some, putD_none, keep_cons, keep_nil, initFr, Nat.reduceEqDiff, Nat.reduceLT, Nat.reduceAdd, if_true, if_false, List.mem_cons, List.not_mem_nil, or_false, false_or, or_true, true_or, or_self, ↓reduceIte, Nat.zero_add, decide_false, decide_true, Nat.reduceBEq, beq_self_eq_true, BEq.rfl, Option.map_some, Option.map_none, List.head?_cons, List.map_cons, List.map_nil, List.append_nil, List.nil_append, List.cons_append, Bool.not_true, Bool.not_false, cond_true, cond_false, Int.natCast_nonneg, Int.toNat_natCast, Int.ofNat_toNat, core_bslice1, bsV_int, codeW_drawn, headS_cons, headS_nil, headS_guard, hS_val, hS_new, tailS_nil, tailS_cons, tailS_guard, tlS_val, tlS_new, tlS_wr, tlS_fz, tlS_pan, anyMk_cons, anyMk_nil, makes, binb_eql, binb_neq, List.isEmpty_nil, List.isEmpty_cons, Bool.or_false, Bool.false_or, Bool.or_true, Bool.true_or, pickV_t, pickV_f, core_inv, core_callS, fnV_func, core_tas, tasV_iface, nilck_ptr, extV_tup, fldV_agg, List.getElem?_cons_zero, List.getElem?_cons_succ, Int.lt_irrefl]
  | succ m ih =>
    intro n ws h A o d B H hm hws hh hb hB S hA O
    have hn : n < l.length := by omega
    have hlt : (n : Int) < l.length := by omega
    have hw := wrap1 (show n < 4611686018427387904 by omega)
    have hd : l.drop n = l.getD n 0 :: l.drop (n + 1) := by
      rw [List.drop_eq_getElem_cons hn, List.getD_eq_getElem?_getD, List.getElem?_eq_getElem hn]; rfl
    have hmem : l.getD n 0 ∈ l := by
      rw [List.getD_eq_getElem?_getD, List.getElem?_eq_getElem hn]; exact List.getElem_mem _
    have hkk := hk _ hmem
    have Od : Own H d := O.tail.tail.sub (List.sublist_append_right ..)
    obtain ⟨c, hc1, hc2⟩ := hA H Od n hn
    rw [hd]
    generalize l.getD n 0 = K at *
    have hK1 : K < (N : Int) := hkk.2
    have hKl : K.toNat < ws.length := by omega
    have hget : (cellsI ws)[K.toNat]? = some (litI .i64 (ws.getD K.toNat 0)) := by rw [cellsI_get, getI hKl]; rfl
    have hbk : -(B : Int) ≤ ws.getD K.toNat 0 ∧ ws.getD K.toNat 0 ≤ 1000 := hb _ (by rw [List.getD_eq_getElem?_getD, List.getElem?_eq_getElem hKl]; exact List.getElem_mem _)
    have hw2 : IntKind.wrap .i64 (ws.getD K.toNat 0 - 1) = ws.getD K.toNat 0 - 1 := Go.Ai.wrap_small (by omega) (by omega)
    have O1 := O.set (cellsI (ws.set K.toNat (ws.getD K.toNat 0 - 1))) 3
    have st : storeAt H 1 (.ptr w K.toNat) (litI .i64 (ws.getD K.toNat 0 - 1)) = some (setL H w (.row (cellsI (ws.set K.toNat (ws.getD K.toNat 0 - 1))) 3)) := by
      rw [store_ptr O.head (by rw [cellsI_len]; omega) rfl rfl, cellsI_set]
    generalize setL H w (.row (cellsI (ws.set K.toNat (ws.getD K.toNat 0 - 1))) 3) = H1 at O1 st
    have hget2 : (cellsI (ws.set K.toNat (ws.getD K.toNat 0 - 1)))[K.toNat]? = some (litI .i64 (ws.getD K.toNat 0 - 1)) := by
      rw [cellsI_get, List.getElem?_set_self hKl]; rfl
    have hb' : ∀ x ∈ ws.set K.toNat (ws.getD K.toNat 0 - 1), -((B + 1 : Nat) : Int) ≤ x ∧ x ≤ 1000 := by
      intro x hx
      rcases List.mem_or_eq_of_mem_set hx with hx | rfl
      · have := hb x hx; omega
      · omega
    simp only [relax]
    by_cases hz : ws.getD K.toNat 0 - 1 = 0
    · rw [if_pos hz]
      have hzb : (ws.getD K.toNat 0 - 1 == 0) = true := by simpa using hz
      have OR : Own H1 ((q, [A], 33) :: (o ++ ((w, cellsI (ws.set K.toNat (ws.getD K.toNat 0 - 1)), 3) :: d))) := by
        refine (O1.perm (List.Perm.swap ..)).perm (List.Perm.cons _ ?_)
        exact List.perm_middle.symm
      obtain ⟨H2, p, s1, s2, s3, s4⟩ := hpush_tells (x := K) (Rd.of_Sl S OR) (by omega)
      have c1 : callV cw mds 16 [.iface 38 (.ptr q 0), .iface 3 (litI .i64 K)] H1 H1.length = some (.wr (.tup []) H2) := by
        refine callV_new (r := q) rfl s1 s4.head (OR.lt _ (List.mem_cons_self ..)) ?_
        show ([AV.own p 0 (pushL h K).length 1 none].all (below H1.length frzF)) = false
        simp only [List.all_cons, List.all_nil, Bool.and_true, show frzF = 15 + 1 from rfl, below]
        rw [← Bool.not_eq_true, Nat.blt_eq]; omega
      have O3 : Own H2 ((w, cellsI (ws.set K.toNat (ws.getD K.toNat 0 - 1)), 3) :: (q, [.own p 0 (pushL h K).length 1 none], 33) :: ([(p, cellsI (pushL h K) ++ [], 3)] ++ d)) := by
        refine s4.perm ?_
        exact ((List.Perm.cons _ (List.Perm.swap ..)).trans (List.Perm.swap ..))
      obtain ⟨A', o', H', L, q1, q2, q3, q4⟩ := ih (n + 1) (ws.set K.toNat (ws.getD K.toNat 0 - 1)) (pushL h K) _ _ d (B + 1) H2 (by omega) (by simpa using hws) (by rw [pushL_len]; omega) hb' (by omega) (.inr ⟨p, [], rfl, rfl, rfl⟩) hA O3
      refine ⟨A', o', H', loopW_round ?_ L, q1, q2, q3, by rw [show B + (m + 1) = B + 1 + m by omega]; exact q4⟩
      simp -implicitDefEqProofs only [c8l2, codeW_seq, codeW_reg, codeW_cond, codeW_block, codeW_loop, codeW_skip, codeW_exit, codeW_ret, thenS_normal, thenS_if, thenS_ret, thenS_exit, thenS_pan, thenS_none, blockS_normal, blockS_exit, blockS_ret, blockS_pan, blockS_if, condS_some, ifS_true, ifS_false, opS_val, opS_new, opS_wr, opS_fz, opS_pan, bindO_some, runS_nil, runS_cons, runS_guard, gS_t, gS_f, gS_undef, asG_lit, asG_undef, core_mv, core_pick, core_alloc, core_load, core_store, core_clr, core_nilck, core_bin, core_binb, core_un, core_fadr, core_iadr, core_sli, core_len, core_lenS, core_idxS, core_app, core_mki, core_call, core_extV, core_fld, core_mks, wrO_some, valO_some, lenV_sl, lenV_own, bin_eql, bin_neq, bin_lss, bin_leq, bin_gtr, bin_geq, bin_add, bin_sub, bin_mul, unop_not, asBool_lit, pickV_lit, load_ip, iadr_sl, iadr_own, ev_s, ev_k, get_cons, get_nil, put_cons, put_nil, putD_some, putD_none, keep_cons, keep_nil, initFr, Nat.reduceEqDiff, Nat.reduceLT, Nat.reduceAdd, if_true, if_false, List.mem_cons, List.not_mem_nil, or_false, false_or, or_true, true_or, or_self, ↓reduceIte, Nat.zero_add, decide_false, decide_true, Nat.reduceBEq, beq_self_eq_true, BEq.rfl, Option.map_some, Option.map_none, List.head?_cons, List.map_cons, List.map_nil, List.append_nil, List.nil_append, List.cons_append, Bool.not_true, Bool.not_false, cond_true, cond_false, Int.natCast_nonneg, Int.toNat_natCast, Int.ofNat_toNat, core_bslice1, bsV_int, codeW_drawn, headS_cons, headS_nil, headS_guard, hS_val, hS_new, tailS_nil, tailS_cons, tailS_guard, tlS_val, tlS_new, tlS_wr, tlS_fz, tlS_pan, anyMk_cons, anyMk_nil, makes, binb_eql, binb_neq, List.isEmpty_nil, List.isEmpty_cons, Bool.or_false, Bool.false_or, Bool.or_true, Bool.true_or, pickV_t, pickV_f, core_inv, core_callS, fnV_func, core_tas, tasV_iface, nilck_ptr, extV_tup, fldV_agg, List.getElem?_cons_zero, List.getElem?_cons_succ, hlt, hc1, hc2, hkk.1, hK1, and_self, Nat.mul_one, load_of O.head hget, hw2, st, load_of O1.head hget2, hzb, c1, hw]
    · rw [if_neg hz]
      have hzb : (ws.getD K.toNat 0 - 1 == 0) = false := by simpa using hz
      obtain ⟨A', o', H', L, q1, q2, q3, q4⟩ := ih (n + 1) (ws.set K.toNat (ws.getD K.toNat 0 - 1)) h A o d (B + 1) H1 (by omega) (by simpa using hws) (by omega) hb' (by omega) S hA O1
      refine ⟨A', o', H', loopW_round ?_ L, q1, q2, q3, by rw [show B + (m + 1) = B + 1 + m by omega]; exact q4⟩
      simp -implicitDefEqProofs only [c8l2, codeW_seq, codeW_reg, codeW_cond, codeW_block, codeW_loop, codeW_skip, codeW_exit, codeW_ret, thenS_normal, thenS_if, thenS_ret, thenS_exit, thenS_pan, thenS_none, blockS_normal, blockS_exit, blockS_ret, blockS_pan, blockS_if, condS_some, ifS_true, ifS_false, opS_val, opS_new, opS_wr, opS_fz, opS_pan, bindO_some, runS_nil, runS_cons, runS_guard, gS_t, gS_f, gS_undef, asG_lit, asG_undef, core_mv, core_pick, core_alloc, core_load, core_store, core_clr, core_nilck, core_bin, core_binb, core_un, core_fadr, core_iadr, core_sli, core_len, core_lenS, core_idxS, core_app, core_mki, core_call, core_extV, core_fld, core_mks, wrO_some, valO_some, lenV_sl, lenV_own, bin_eql, bin_neq, bin_lss, bin_leq, bin_gtr, bin_geq, bin_add, bin_sub, bin_mul, unop_not, asBool_lit, pickV_lit, load_ip, iadr_sl, iadr_own, ev_s, ev_k, get_cons, get_nil, put_cons, put_nil, putD_some, putD_none, keep_cons, keep_nil, initFr, Nat.reduceEqDiff, Nat.reduceLT, Nat.reduceAdd, if_true, if_false, List.mem_cons, List.not_mem_nil, or_false, false_or, or_true, true_or, or_self, ↓reduceIte, Nat.zero_add, decide_false, decide_true, Nat.reduceBEq, beq_self_eq_true, BEq.rfl, Option.map_some, Option.map_none, List.head?_cons, List.map_cons, List.map_nil, List.append_nil, List.nil_append, List.cons_append, Bool.not_true, Bool.not_false, cond_true, cond_false, Int.natCast_nonneg, Int.toNat_natCast, Int.ofNat_toNat, core_bslice1, bsV_int, codeW_drawn, headS_cons, headS_nil, headS_guard, hS_val, hS_new, tailS_nil, tailS_cons, tailS_guard, tlS_val, tlS_new, tlS_wr, tlS_fz, tlS_pan, anyMk_cons, anyMk_nil, makes, binb_eql, binb_neq, List.isEmpty_nil, List.isEmpty_cons, Bool.or_false, Bool.false_or, Bool.or_true, Bool.true_or, pickV_t, pickV_f, core_inv, core_callS, fnV_func, core_tas, tasV_iface, nilck_ptr, extV_tup, fldV_agg, List.getElem?_cons_zero, List.getElem?_cons_succ, hlt, hc1, hc2, hkk.1, hK1, and_self, Nat.mul_one, load_of O.head hget, hw2, st, load_of O1.head hget2, hzb, hw]
end Go.Proofs.Ytoemnjclhheeoaa.Ai

namespace Go.Proofs.Ytoemnjclhheeoaa.Ai
open Go Go.Ai
set_option linter.unusedSimpArgs false
set_option linter.unusedVariables false

/-- How many are wanted still, and how many are ready. -/
def mu (ws h : List Int) : Nat := ws.countP (fun z => decide (0 < z)) + h.length

theorem relax_mu : ∀ (r ws h : List Int), (∀ k ∈ r, k.toNat < ws.length) → mu (relax ws h r).1 (relax ws h r).2 ≤ mu ws h
  | [], ws, h, _ => Nat.le_refl _
  | k :: r, ws, h, hk => by
    rw [relax]
    have hkl := hk k (List.mem_cons_self ..)
    refine Nat.le_trans (relax_mu r _ _ (fun j hj => by rw [List.length_set]; exact hk j (List.mem_cons_of_mem _ hj))) ?_
    unfold mu
    rw [List.countP_set hkl]
    have hg : ws.getD k.toNat 0 = ws[k.toNat] := by rw [List.getD_eq_getElem?_getD, List.getElem?_eq_getElem hkl]; rfl
    rw [hg]
    have hpos : ws[k.toNat] > 0 → 0 < ws.countP (fun z => decide (0 < z)) := fun h => List.countP_pos_iff.2 ⟨_, List.getElem_mem hkl, by simpa using h⟩
    by_cases h1 : ws[k.toNat] - 1 = 0
    · have h2 : 0 < ws[k.toNat] := by omega
      have h3 : ¬ 0 < ws[k.toNat] - 1 := by omega
      have := hpos h2
      rw [if_pos h1]
      simp only [h2, h3, decide_true, decide_false, if_true, Bool.false_eq_true, if_false, pushL_len]
      omega
    · rw [if_neg h1]
      by_cases h2 : 0 < ws[k.toNat]
      · have h3 : 0 < ws[k.toNat] - 1 := by omega
        have := hpos h2
        simp only [h2, h3, decide_true, if_true]
        omega
      · have h3 : ¬ 0 < ws[k.toNat] - 1 := by omega
        simp only [h2, h3, decide_false, Bool.false_eq_true, if_false]
        omega

/-- The second loop. -/
def kahn (us : List (List Int)) : Nat → List Int → List Int → List Int → List Int
  | 0, _, _, out => out
  | m + 1, ws, h, out => if h = [] then out else
    kahn us m (relax ws ((popL h).take (h.length - 1)) (us.getD ((popL h).getD (h.length - 1) 0).toNat [])).1 (relax ws ((popL h).take (h.length - 1)) (us.getD ((popL h).getD (h.length - 1) 0).toNat [])).2 (out ++ [(popL h).getD (h.length - 1) 0])

theorem relax_mem : ∀ (r ws h : List Int) (P : Int → Prop), (∀ x ∈ h, P x) → (∀ x ∈ r, P x) → ∀ x ∈ (relax ws h r).2, P x
  | [], ws, h, P, h1, h2 => h1
  | k :: r, ws, h, P, h1, h2 => by
    rw [relax]
    refine relax_mem r _ _ P (fun x hx => ?_) (fun x hx => h2 x (List.mem_cons_of_mem _ hx))
    split at hx
    · rcases List.mem_append.1 ((pushL_perm h k).mem_iff.1 hx) with hx | hx
      · exact h1 x hx
      · simp only [List.mem_singleton] at hx; subst hx; exact h2 _ (List.mem_cons_self ..)
    · exact h1 x hx

theorem len_call {H : List AO} {A : AV} {l : List Int} {o d : List Obj1} (S : Sl A l o) (O : Own H (o ++ d)) (id : Nat) : callV cw mds 14 [A] H id = some (.val (litI .i64 l.length) none) := by
  rcases S with ⟨rfl, rfl, rfl⟩ | ⟨p, z, hz, rfl, rfl⟩
  · refine callV_flat (p := ([.sl 0 [] (some 0)], [])) rfl rfl (H' := []) ?_
    refine cw_of fn14 (c := c14) rfl rfl rfl rfl ?_
    simp -implicitDefEqProofs only [c14, codeW_seq, codeW_reg, codeW_cond, codeW_block, codeW_loop, codeW_skip, codeW_exit, codeW_ret, thenS_normal, thenS_if, thenS_ret, thenS_exit, thenS_pan, thenS_none, blockS_normal, blockS_exit, blockS_ret, blockS_pan, blockS_if, condS_some, ifS_true, ifS_false, opS_val, opS_new, opS_wr, opS_fz, opS_pan, bindO_some, runS_nil, runS_cons, runS_guard, gS_t, gS_f, gS_undef, asG_lit, asG_undef, core_mv, core_pick, core_alloc, core_load, core_store, core_clr, core_nilck, core_bin, core_binb, core_un, core_fadr, core_iadr, core_sli, core_len, core_lenS, core_idxS, core_app, core_mki, core_call, core_extV, core_fld, core_mks, wrO_some, valO_some, lenV_sl, lenV_own, bin_eql, bin_neq, bin_lss, bin_leq, bin_gtr, bin_geq, bin_add, bin_sub, bin_mul, unop_not, asBool_lit, pickV_lit, load_ip, iadr_sl, iadr_own, ev_s, ev_k, get_cons, get_nil, put_cons, put_nil, putD_some, putD_none, keep_cons, keep_nil, initFr, Nat.reduceEqDiff, Nat.reduceLT, Nat.reduceAdd, if_true, if_false, List.mem_cons, List.not_mem_nil, or_false, false_or, or_true, true_or, or_self, ↓reduceIte, Nat.zero_add, decide_false, decide_true, Nat.reduceBEq, beq_self_eq_true, BEq.rfl, Option.map_some, Option.map_none, List.head?_cons, List.map_cons, List.map_nil, List.append_nil, List.nil_append, List.cons_append, Bool.not_true, Bool.not_false, cond_true, cond_false, Int.natCast_nonneg, Int.toNat_natCast, Int.ofNat_toNat, core_bslice1, bsV_int, codeW_drawn, headS_cons, headS_nil, headS_guard, hS_val, hS_new, tailS_nil, tailS_cons, tailS_guard, tlS_val, tlS_new, tlS_wr, tlS_fz, tlS_pan, anyMk_cons, anyMk_nil, makes, binb_eql, binb_neq, List.isEmpty_nil, List.isEmpty_cons, Bool.or_false, Bool.false_or, Bool.or_true, Bool.true_or, pickV_t, pickV_f, core_inv, core_callS, fnV_func, core_tas, tasV_iface, nilck_ptr, extV_tup, fldV_agg, List.getElem?_cons_zero, List.getElem?_cons_succ]
    rfl
  · refine callV_flat (p := ([rowC l none], [p])) rfl ?_ (len_tells l none)
    have hp : H[p]? = some (.row (cellsI l ++ z) 3) := O.head
    simp only [mapL, show frzF = 14 + 2 from rfl, frz_ints hp hz rfl, Option.bind_some]
    rfl

theorem Sl.elem {A : AV} {l : List Int} {o d : List Obj1} (S : Sl A l o) {H : List AO} (O : Own H (o ++ d)) {j : Nat} (hj : j < l.length) : ∃ c, iadr 1 A (litI .i64 j) = some c ∧ Ai.load H none c = some (litI .i64 (l.getD j 0)) := by
  rcases S with ⟨rfl, rfl, rfl⟩ | ⟨p, z, hz, rfl, rfl⟩
  · simp at hj
  · refine ⟨.ptr p j, ?_, load_of O.head (cellsZ_get hj)⟩
    rw [iadr_own, if_pos ⟨by omega, by omega⟩]
    simp

theorem kahn_loop (g : AV) (N u w q : Nat) (us : US) (hN : N ≤ 20) (hus : us.length = N) (hok : us.ok) (hsh : ∀ x ∈ us.ints, x.length ≤ 900) (hrng : ∀ x ∈ us.ints, ∀ k ∈ x, 0 ≤ k ∧ k < (N : Int)) :
    ∀ (m : Nat) (ws h out : List Int) (A Ao : AV) (o oo : List Obj1) (B : Nat) (H : List AO), mu ws h ≤ m → m ≤ 50 → ws.length = N → (∀ x ∈ h, 0 ≤ x ∧ x < (N : Int)) → (∀ x ∈ ws, -(B : Int) ≤ x ∧ x ≤ 1000) → B + 1000 * m ≤ 1000000 → out.length + m ≤ 1000 → Sl A h o → Sl Ao out oo →
    Own H ((w, cellsI ws, 3) :: (q, [A], 33) :: (o ++ (oo ++ (u, us.cells, 24) :: us.objs))) →
    ∃ (A' Ao' : AV) (oo' d' : List Obj1) (H' : List AO), loopW (codeW cw (lookM mtl) mds c8l3) [0, 4, 5, 6, 11, 12] [(0, g), (4, .own u 0 N 1 (some N)), (5, .own w 0 N 1 (some N)), (6, .ptr q 0), (11, .fn (.func 14) [] []), (12, Ao)] H =
      some (EX.exit 4, [(0, g), (4, .own u 0 N 1 (some N)), (5, .own w 0 N 1 (some N)), (6, .ptr q 0), (11, .fn (.func 14) [] []), (12, Ao'), (63, litB false)], H') ∧
      Sl Ao' (kahn us.ints m ws h out) oo' ∧ Own H' (oo' ++ d') := by
  intro m
  induction m with
  | zero =>
    intro ws h out A Ao o oo B H hm h50 hws hh hb hB hol S So O
    have : h = [] := List.eq_nil_of_length_eq_zero (by unfold mu at hm; omega)
    subst this
    have Oq : Own H (o ++ ((w, cellsI ws, 3) :: (q, [A], 33) :: (oo ++ (u, us.cells, 24) :: us.objs))) := by
      refine O.perm ?_
      refine (List.Perm.cons _ List.perm_middle.symm).trans ?_
      exact List.perm_middle.symm
    have Oo : Own H (oo ++ (u, us.cells, 24) :: us.objs) := O.tail.tail.sub (List.sublist_append_right ..)
    have ldA : Ai.load H none (.ptr q 0) = some A := load_ptr0 O.tail.head
    have lc := fun id => len_call S Oq id
    refine ⟨A, Ao, oo, _, H, loopW_out ?_ (by simp), So, Oo⟩
    simp -implicitDefEqProofs only [c8l3, codeW_seq, codeW_reg, codeW_cond, codeW_block, codeW_loop, codeW_skip, codeW_exit, codeW_ret, thenS_normal, thenS_if, thenS_ret, thenS_exit, thenS_pan, thenS_none, blockS_normal, blockS_exit, blockS_ret, blockS_pan, blockS_if, condS_some, ifS_true, ifS_false, opS_val, opS_new, opS_wr, opS_fz, opS_pan, bindO_some, runS_nil, runS_cons, runS_guard, gS_t, gS_f, gS_undef, asG_lit, asG_undef, core_mv, core_pick, core_alloc, core_load, core_store, core_clr, core_nilck, core_bin, core_binb, core_un, core_fadr, core_iadr, core_sli, core_len, core_lenS, core_idxS, core_app, core_mki, core_call, core_extV, core_fld, core_mks, wrO_some, valO_some, lenV_sl, lenV_own, bin_eql, bin_neq, bin_lss, bin_leq, bin_gtr, bin_geq, bin_add, bin_sub, bin_mul, unop_not, asBool_lit, pickV_lit, load_ip, iadr_sl, iadr_own, ev_s, ev_k, get_cons, get_nil, put_cons, put_nil, putD_some, putD_none, keep_cons, keep_nil, initFr, Nat.reduceEqDiff, Nat.reduceLT, Nat.reduceAdd, if_true, if_false, List.mem_cons, List.not_mem_nil, or_false, false_or, or_true, true_or, or_self, ↓reduceIte, Nat.zero_add, decide_false, decide_true, Nat.reduceBEq, beq_self_eq_true, BEq.rfl, Option.map_some, Option.map_none, List.head?_cons, List.map_cons, List.map_nil, List.append_nil, List.nil_append, List.cons_append, Bool.not_true, Bool.not_false, cond_true, cond_false, Int.natCast_nonneg, Int.toNat_natCast, Int.ofNat_toNat, core_bslice1, bsV_int, codeW_drawn, headS_cons, headS_nil, headS_guard, hS_val, hS_new, tailS_nil, tailS_cons, tailS_guard, tlS_val, tlS_new, tlS_wr, tlS_fz, tlS_pan, anyMk_cons, anyMk_nil, makes, binb_eql, binb_neq, List.isEmpty_nil, List.isEmpty_cons, Bool.or_false, Bool.false_or, Bool.or_true, Bool.true_or, pickV_t, pickV_f, core_inv, core_callS, fnV_func, core_tas, tasV_iface, nilck_ptr, extV_tup, fldV_agg, List.getElem?_cons_zero, List.getElem?_cons_succ, ldA, lc, List.length_nil, Int.ofNat_zero, Int.lt_irrefl]
  | succ m ih =>
    intro ws h out A Ao o oo B H hm h50 hws hh hb hB hol S So O
    have Oq : Own H (o ++ ((w, cellsI ws, 3) :: (q, [A], 33) :: (oo ++ (u, us.cells, 24) :: us.objs))) := by
      refine O.perm ?_
      refine (List.Perm.cons _ List.perm_middle.symm).trans ?_
      exact List.perm_middle.symm
    have Oo : Own H (oo ++ (u, us.cells, 24) :: us.objs) := O.tail.tail.sub (List.sublist_append_right ..)
    have ldA : Ai.load H none (.ptr q 0) = some A := load_ptr0 O.tail.head
    have lc := fun id => len_call S Oq id
    rw [kahn]
    by_cases he : h = []
    · subst he
      rw [if_pos rfl]
      refine ⟨A, Ao, oo, _, H, loopW_out ?_ (by simp), So, Oo⟩
      simp -implicitDefEqProofs only [c8l3, codeW_seq, codeW_reg, codeW_cond, codeW_block, codeW_loop, codeW_skip, codeW_exit, codeW_ret, thenS_normal, thenS_if, thenS_ret, thenS_exit, thenS_pan, thenS_none, blockS_normal, blockS_exit, blockS_ret, blockS_pan, blockS_if, condS_some, ifS_true, ifS_false, opS_val, opS_new, opS_wr, opS_fz, opS_pan, bindO_some, runS_nil, runS_cons, runS_guard, gS_t, gS_f, gS_undef, asG_lit, asG_undef, core_mv, core_pick, core_alloc, core_load, core_store, core_clr, core_nilck, core_bin, core_binb, core_un, core_fadr, core_iadr, core_sli, core_len, core_lenS, core_idxS, core_app, core_mki, core_call, core_extV, core_fld, core_mks, wrO_some, valO_some, lenV_sl, lenV_own, bin_eql, bin_neq, bin_lss, bin_leq, bin_gtr, bin_geq, bin_add, bin_sub, bin_mul, unop_not, asBool_lit, pickV_lit, load_ip, iadr_sl, iadr_own, ev_s, ev_k, get_cons, get_nil, put_cons, put_nil, putD_some, putD_none, keep_cons, keep_nil, initFr, Nat.reduceEqDiff, Nat.reduceLT, Nat.reduceAdd, if_true, if_false, List.mem_cons, List.not_mem_nil, or_false, false_or, or_true, true_or, or_self, ↓reduceIte, Nat.zero_add, decide_false, decide_true, Nat.reduceBEq, beq_self_eq_true, BEq.rfl, Option.map_some, Option.map_none, List.head?_cons, List.map_cons, List.map_nil, List.append_nil, List.nil_append, List.cons_append, Bool.not_true, Bool.not_false, cond_true, cond_false, Int.natCast_nonneg, Int.toNat_natCast, Int.ofNat_toNat, core_bslice1, bsV_int, codeW_drawn, headS_cons, headS_nil, headS_guard, hS_val, hS_new, tailS_nil, tailS_cons, tailS_guard, tlS_val, tlS_new, tlS_wr, tlS_fz, tlS_pan, anyMk_cons, anyMk_nil, makes, binb_eql, binb_neq, List.isEmpty_nil, List.isEmpty_cons, Bool.or_false, Bool.false_or, Bool.or_true, Bool.true_or, pickV_t, pickV_f, core_inv, core_callS, fnV_func, core_tas, tasV_iface, nilck_ptr, extV_tup, fldV_agg, List.getElem?_cons_zero, List.getElem?_cons_succ, ldA, lc, List.length_nil, Int.ofNat_zero, Int.lt_irrefl]
    · rw [if_neg he]
      have hpos : 0 < h.length := List.length_pos_iff.2 he
      have hpos' : (0 : Int) < h.length := by omega
      have hps := pop_split hpos
      obtain ⟨p, z, hz, OR⟩ : ∃ p z, z.all whole = true ∧ Own H (rd q p h z ++ ((w, cellsI ws, 3) :: (oo ++ (u, us.cells, 24) :: us.objs))) := by
        rcases S with ⟨_, e, _⟩ | ⟨p, z, hz, rfl, rfl⟩
        · exact absurd e he
        · refine ⟨p, z, hz, O.perm ?_⟩
          exact (List.Perm.swap ..).trans (List.Perm.cons _ (List.Perm.swap ..))
      have hml : h.length ≤ 50 := by unfold mu at hm; omega
      obtain ⟨H1, z1, s1, s2, s3, s4⟩ := hpop_tells OR hz hpos (by omega)
      have c1 := callV_same (md := mds) (id := H.length) rfl s1 s2
      have hx : (popL h).getD (h.length - 1) 0 ∈ h := hps.mem_iff.1 (List.mem_append_right _ (by simp))
      have htl : ((popL h).take (h.length - 1)).length + 1 = h.length := by
        have := hps.length_eq
        simpa using this
      have htm : ∀ x ∈ (popL h).take (h.length - 1), 0 ≤ x ∧ x < (N : Int) := fun x hx => hh x (hps.mem_iff.1 (List.mem_append_left _ hx))
      have hxx := hh _ hx
      generalize (popL h).take (h.length - 1) = h' at *
      generalize (popL h).getD (h.length - 1) 0 = X at *
      have O1 : Own H1 (oo ++ ((q, [.own p 0 h'.length 1 none], 33) :: (p, cellsI h' ++ z1, 3) :: (w, cellsI ws, 3) :: (u, us.cells, 24) :: us.objs)) := by
        refine s4.perm ?_
        have e1 : rd q p h' z1 ++ ((w, cellsI ws, 3) :: (oo ++ (u, us.cells, 24) :: us.objs)) = ([(q, [AV.own p 0 h'.length 1 none], 33), (p, cellsI h' ++ z1, 3), (w, cellsI ws, 3)] ++ oo) ++ ((u, us.cells, 24) :: us.objs) := by simp
        have e2 : oo ++ ((q, [AV.own p 0 h'.length 1 none], 33) :: (p, cellsI h' ++ z1, 3) :: (w, cellsI ws, 3) :: (u, us.cells, 24) :: us.objs) = (oo ++ [(q, [AV.own p 0 h'.length 1 none], 33), (p, cellsI h' ++ z1, 3), (w, cellsI ws, 3)]) ++ ((u, us.cells, 24) :: us.objs) := by simp
        rw [e1, e2]
        exact List.Perm.append_right _ List.perm_append_comm
      obtain ⟨H2, ap, O2, hl2⟩ := app_Sl (x := X) So O1 (by omega)
      obtain ⟨x, hxu⟩ : ∃ x, us[X.toNat]? = some x := ⟨_, List.getElem?_eq_getElem (by omega)⟩
      have hxS : Sl x.1 x.2.1 x.2.2 := hok x (List.mem_of_getElem? hxu)
      have hxi : x.2.1 ∈ us.ints := List.mem_map.2 ⟨x, List.mem_of_getElem? hxu, rfl⟩
      have hgd : us.ints.getD X.toNat [] = x.2.1 := by simp [US.ints, List.getD_eq_getElem?_getD, hxu]
      rw [hgd]
      have hxl : us.cells[X.toNat]? = some x.1 := by simp [US.cells, hxu]
      have hX1 : X < (N : Int) := hxx.2
      let D : List Obj1 := (H1.length, cellsI (out ++ [X]), 3) :: (u, us.cells, 24) :: us.objs
      have O3 : Own H2 ((w, cellsI ws, 3) :: (q, [.own p 0 h'.length 1 none], 33) :: ([(p, cellsI h' ++ z1, 3)] ++ D)) := by
        refine O2.perm ?_
        show List.Perm ([(H1.length, cellsI (out ++ [X]), 3)] ++ [(q, [AV.own p 0 h'.length 1 none], 33), (p, cellsI h' ++ z1, 3), (w, cellsI ws, 3)] ++ ((u, us.cells, 24) :: us.objs)) ([(w, cellsI ws, 3), (q, [AV.own p 0 h'.length 1 none], 33), (p, cellsI h' ++ z1, 3)] ++ [(H1.length, cellsI (out ++ [X]), 3)] ++ ((u, us.cells, 24) :: us.objs))
        refine List.Perm.append_right _ (List.perm_append_comm.trans (List.Perm.append_right _ ?_))
        exact (List.Perm.cons _ (List.Perm.swap ..)).trans (List.Perm.swap ..)
      have hrel := fun (H' : List AO) (O' : Own H' D) (j : Nat) (hj : j < x.2.1.length) => hxS.elem (H := H') (d := (H1.length, cellsI (out ++ [X]), 3) :: (u, us.cells, 24) :: US.objs (us.set X.toNat noU)) (O'.perm (by
        refine (List.Perm.cons _ (List.Perm.cons _ (US.focus hxu))).trans ?_
        exact (List.Perm.cons _ List.perm_middle.symm).trans List.perm_middle.symm)) hj
      have hxk := hrng _ hxi
      have hx9 := hsh _ hxi
      have L2 : (H2[u]?) = some (.row us.cells 24) := O3.get (u, us.cells, 24) (by simp [D])
      obtain ⟨A', o', H', L, q1, q2, q3, q4⟩ := relax_loop g N u w q x.2.1 (.fn (.func 14) [] []) (.own H1.length 0 (out ++ [X]).length 1 none) x.1 (by omega) hN hxk x.2.1.length 0 ws h' _ _ D B H2 (by omega) hws (by omega) hb (by omega) (.inr ⟨p, z1, s3, rfl, rfl⟩) hrel O3
      rw [show ((0 : Nat) : Int) = 0 from rfl] at L
      rw [List.drop_zero] at q1 q2 q3 q4
      have hmu : mu (relax ws h' x.2.1).1 (relax ws h' x.2.1).2 ≤ m := by
        have := relax_mu x.2.1 ws h' (fun k hk => by have := hxk k hk; omega)
        unfold mu at this hm ⊢
        omega
      obtain ⟨A2, Ao2, oo2, d2, H3, L3, r1, r2⟩ := ih (relax ws h' x.2.1).1 (relax ws h' x.2.1).2 (out ++ [X]) A' _ o' _ (B + x.2.1.length) H' hmu (by omega) q3 (relax_mem _ _ _ _ htm hxk) q4 (by omega) (by simp; omega) q1 (Sl.own _ _) q2
      refine ⟨A2, Ao2, oo2, d2, H3, loopW_next (fr1 := [(0, g), (4, .own u 0 N 1 (some N)), (5, .own w 0 N 1 (some N)), (6, .ptr q 0), (11, .fn (.func 14) [] []), (12, .own H1.length 0 (out ++ [X]).length 1 none), (74, x.1), (75, litI .i64 x.2.1.length), (76, litI .i64 x.2.1.length), (77, litB false)]) ?_ rfl L3, r1, r2⟩
      simp -implicitDefEqProofs only [c8l3, codeW_seq, codeW_reg, codeW_cond, codeW_block, codeW_loop, codeW_skip, codeW_exit, codeW_ret, thenS_normal, thenS_if, thenS_ret, thenS_exit, thenS_pan, thenS_none, blockS_normal, blockS_exit, blockS_ret, blockS_pan, blockS_if, condS_some, ifS_true, ifS_false, opS_val, opS_new, opS_wr, opS_fz, opS_pan, bindO_some, runS_nil, runS_cons, runS_guard, gS_t, gS_f, gS_undef, asG_lit, asG_undef, core_mv, core_pick, core_alloc, core_load, core_store, core_clr, core_nilck, core_bin, core_binb, core_un, core_fadr, core_iadr, core_sli, core_len, core_lenS, core_idxS, core_app, core_mki, core_call, core_extV, core_fld, core_mks, wrO_some, valO_some, lenV_sl, lenV_own, bin_eql, bin_neq, bin_lss, bin_leq, bin_gtr, bin_geq, bin_add, bin_sub, bin_mul, unop_not, asBool_lit, pickV_lit, load_ip, iadr_sl, iadr_own, ev_s, ev_k, get_cons, get_nil, put_cons, put_nil, putD_some, putD_none, keep_cons, keep_nil, initFr, Nat.reduceEqDiff, Nat.reduceLT, Nat.reduceAdd, if_true, if_false, List.mem_cons, List.not_mem_nil, or_false, false_or, or_true, true_or, or_self, ↓reduceIte, Nat.zero_add, decide_false, decide_true, Nat.reduceBEq, beq_self_eq_true, BEq.rfl, Option.map_some, Option.map_none, List.head?_cons, List.map_cons, List.map_nil, List.append_nil, List.nil_append, List.cons_append, Bool.not_true, Bool.not_false, cond_true, cond_false, Int.natCast_nonneg, Int.toNat_natCast, Int.ofNat_toNat, core_bslice1, bsV_int, codeW_drawn, headS_cons, headS_nil, headS_guard, hS_val, hS_new, tailS_nil, tailS_cons, tailS_guard, tlS_val, tlS_new, tlS_wr, tlS_fz, tlS_pan, anyMk_cons, anyMk_nil, makes, binb_eql, binb_neq, List.isEmpty_nil, List.isEmpty_cons, Bool.or_false, Bool.false_or, Bool.or_true, Bool.true_or, pickV_t, pickV_f, core_inv, core_callS, fnV_func, core_tas, tasV_iface, nilck_ptr, extV_tup, fldV_agg, List.getElem?_cons_zero, List.getElem?_cons_succ, ldA, lc, hpos', c1, ap, hxx.1, hX1, and_self, Nat.mul_one, load_of L2 hxl, hxS.lenV, L]
end Go.Proofs.Ytoemnjclhheeoaa.Ai
