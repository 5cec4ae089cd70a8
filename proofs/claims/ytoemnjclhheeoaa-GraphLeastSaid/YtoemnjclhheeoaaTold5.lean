/- Layer 7: what GraphLeast tells. No condition. -/
import Derived.Test.YtoemnjclhheeoaaTold4
namespace Go.Proofs.Ytoemnjclhheeoaa.Ai
open Go Go.Ai
set_option linter.unusedSimpArgs false
set_option linter.unusedVariables false

theorem RowV.iadr0 {A : AV} {l : List Int} (h : RowV A l) (hn : 0 < l.length) : Ai.iadr 1 A (litI .i64 0) = some (.ip [litI .i64 (l.getD 0 0)]) := h.iadr (n := 0) hn

theorem below_loop (g : List (List Int)) (hf : fewG g = true) (A : AV) (c : List Int) (hA : RowV A c) (hc : 0 < c.length) (f : Nat) (hcf : c.getD 0 0 = f) (hfl : f < g.length) (hno : ∀ i < f, ¬ Road g i i) : ∀ (m n : Nat), m + n = f →
    loopW (codeW cw (lookM mtl) mds c5l0) [0, 3, 4] [(0, gA g), (3, A), (4, litI .i64 n)] [] = some (EX.exit 0, [(0, gA g), (3, A), (4, litI .i64 f), (23, litB false)], [])
  | 0, n, h => by
    have hn : n = f := by omega
    subst hn
    refine loopW_out ?_ (by simp)
    simp -implicitDefEqProofs only [c5l0, codeW_seq, codeW_reg, codeW_cond, codeW_block, codeW_loop, codeW_skip, codeW_exit, codeW_ret, thenS_normal, thenS_if, thenS_ret, thenS_exit, thenS_pan, thenS_none, blockS_normal, blockS_exit, blockS_ret, blockS_pan, blockS_if, condS_some, ifS_true, ifS_false, opS_val, opS_new, opS_wr, opS_fz, opS_pan, bindO_some, runS_nil, runS_cons, runS_guard, gS_t, gS_f, gS_undef, asG_lit, asG_undef, core_mv, core_pick, core_alloc, core_load, core_store, core_clr, core_nilck, core_bin, core_binb, core_un, core_fadr, core_iadr, core_sli, core_len, core_lenS, core_idxS, core_app, core_mki, core_call, core_extV, core_fld, core_mks, wrO_some, valO_some, lenV_sl, lenV_own, bin_eql, bin_neq, bin_lss, bin_leq, bin_gtr, bin_geq, bin_add, bin_sub, bin_mul, unop_not, asBool_lit, pickV_lit, load_ip, iadr_sl, iadr_own, ev_s, ev_k, get_cons, get_nil, put_cons, put_nil, putD_some, putD_none, keep_cons, keep_nil, initFr, Nat.reduceEqDiff, Nat.reduceLT, Nat.reduceAdd, if_true, if_false, List.mem_cons, List.not_mem_nil, or_false, false_or, or_true, true_or, or_self, ↓reduceIte, Nat.zero_add, decide_false, decide_true, Nat.reduceBEq, beq_self_eq_true, BEq.rfl, Option.map_some, Option.map_none, List.head?_cons, List.map_cons, List.map_nil, List.append_nil, List.nil_append, List.cons_append, Bool.not_true, Bool.not_false, cond_true, cond_false, Int.natCast_nonneg, Int.toNat_natCast, Int.ofNat_toNat, core_bslice1, bsV_int, codeW_drawn, headS_cons, headS_nil, headS_guard, hS_val, hS_new, tailS_nil, tailS_cons, tailS_guard, tlS_val, tlS_new, tlS_wr, tlS_fz, tlS_pan, anyMk_cons, anyMk_nil, makes, binb_eql, binb_neq, List.isEmpty_nil, List.isEmpty_cons, Bool.or_false, Bool.false_or, Bool.or_true, Bool.true_or, pickV_t, pickV_f, core_inv, core_callS, fnV_func, core_tas, tasV_iface, nilck_ptr, extV_tup, fldV_agg, List.getElem?_cons_zero, List.getElem?_cons_succ, hA.iadr0 hc, hcf, Int.lt_irrefl]
  | m + 1, n, h => by
    have hn : n < f := by omega
    have hlt : (n : Int) < f := by omega
    have h20 := few_len hf
    have hw := wrap1 (show n < 4611686018427387904 by omega)
    have hr := fun H id => reach_call g hf n (by omega) H id
    have hroad := reachL_road hf n n (by omega)
    have hld : (reachL g n)[n]? = some ((reachL g n).getD n false) := getD_some (by rw [reachL_len]; omega)
    have hb : (reachL g n).getD n false = false := by
      rw [Bool.eq_false_iff]
      intro e
      rw [hld, e] at hroad
      exact hno n hn (hroad.1 rfl)
    rw [hb] at hld
    refine loopW_round ?_ (below_loop g hf A c hA hc f hcf hfl hno m (n + 1) (by omega))
    simp -implicitDefEqProofs only [c5l0, codeW_seq, codeW_reg, codeW_cond, codeW_block, codeW_loop, codeW_skip, codeW_exit, codeW_ret, thenS_normal, thenS_if, thenS_ret, thenS_exit, thenS_pan, thenS_none, blockS_normal, blockS_exit, blockS_ret, blockS_pan, blockS_if, condS_some, ifS_true, ifS_false, opS_val, opS_new, opS_wr, opS_fz, opS_pan, bindO_some, runS_nil, runS_cons, runS_guard, gS_t, gS_f, gS_undef, asG_lit, asG_undef, core_mv, core_pick, core_alloc, core_load, core_store, core_clr, core_nilck, core_bin, core_binb, core_un, core_fadr, core_iadr, core_sli, core_len, core_lenS, core_idxS, core_app, core_mki, core_call, core_extV, core_fld, core_mks, wrO_some, valO_some, lenV_sl, lenV_own, bin_eql, bin_neq, bin_lss, bin_leq, bin_gtr, bin_geq, bin_add, bin_sub, bin_mul, unop_not, asBool_lit, pickV_lit, load_ip, iadr_sl, iadr_own, ev_s, ev_k, get_cons, get_nil, put_cons, put_nil, putD_some, putD_none, keep_cons, keep_nil, initFr, Nat.reduceEqDiff, Nat.reduceLT, Nat.reduceAdd, if_true, if_false, List.mem_cons, List.not_mem_nil, or_false, false_or, or_true, true_or, or_self, ↓reduceIte, Nat.zero_add, decide_false, decide_true, Nat.reduceBEq, beq_self_eq_true, BEq.rfl, Option.map_some, Option.map_none, List.head?_cons, List.map_cons, List.map_nil, List.append_nil, List.nil_append, List.cons_append, Bool.not_true, Bool.not_false, cond_true, cond_false, Int.natCast_nonneg, Int.toNat_natCast, Int.ofNat_toNat, core_bslice1, bsV_int, codeW_drawn, headS_cons, headS_nil, headS_guard, hS_val, hS_new, tailS_nil, tailS_cons, tailS_guard, tlS_val, tlS_new, tlS_wr, tlS_fz, tlS_pan, anyMk_cons, anyMk_nil, makes, binb_eql, binb_neq, List.isEmpty_nil, List.isEmpty_cons, Bool.or_false, Bool.false_or, Bool.or_true, Bool.true_or, pickV_t, pickV_f, core_inv, core_callS, fnV_func, core_tas, tasV_iface, nilck_ptr, extV_tup, fldV_agg, List.getElem?_cons_zero, List.getElem?_cons_succ, hA.iadr0 hc, hcf, hlt, hr, iadr_bools, hld, hw]

theorem cellsB_at {l : List Bool} {n : Nat} (h : n < l.length) : (cellsB l)[n]? = some (litB (l.getD n false)) := by rw [cellsB_get, getD_some h]; rfl

/-- One place's needs are reached by one step more. -/
theorem step_loop (g : List (List Int)) (hf : fewG g = true) (A : AV) (A6 : AV) (a q : Nat) (at' : List Bool) (hat : at'.length = g.length) (i : Nat) (hi : i < g.length) : ∀ (m n : Nat) (nx : List Bool) (H : List AO), m + n = g.length → nx.length = g.length → Own H [(q, cellsB nx, 4), (a, cellsB at', 4)] →
    ∃ (nx' : List Bool) (H' : List AO), loopW (codeW cw (lookM mtl) mds c5l1) [0, 3, 5, 6, 7, 8, 9] [(0, gA g), (3, A), (5, .own a 0 g.length 1 (some g.length)), (6, A6), (7, .own q 0 g.length 1 (some g.length)), (8, litI .i64 i), (9, litI .i64 n)] H =
      some (EX.exit 6, [(0, gA g), (3, A), (5, .own a 0 g.length 1 (some g.length)), (6, A6), (7, .own q 0 g.length 1 (some g.length)), (8, litI .i64 i), (9, litI .i64 g.length), (58, litB false)], H') ∧
      nx'.length = g.length ∧ Own H' [(q, cellsB nx', 4), (a, cellsB at', 4)] ∧ ∀ j, j < g.length → (nx'.getD j false = (nx.getD j false || (decide (n ≤ j) && (at'.getD i false && needB g i j))))
  | 0, n, nx, H, h, hl, O => by
    have hn : n = g.length := by omega
    subst hn
    refine ⟨nx, H, loopW_out ?_ (by simp), hl, O, fun j hj => ?_⟩
    · simp -implicitDefEqProofs only [c5l1, codeW_seq, codeW_reg, codeW_cond, codeW_block, codeW_loop, codeW_skip, codeW_exit, codeW_ret, thenS_normal, thenS_if, thenS_ret, thenS_exit, thenS_pan, thenS_none, blockS_normal, blockS_exit, blockS_ret, blockS_pan, blockS_if, condS_some, ifS_true, ifS_false, opS_val, opS_new, opS_wr, opS_fz, opS_pan, bindO_some, runS_nil, runS_cons, runS_guard, gS_t, gS_f, gS_undef, asG_lit, asG_undef, core_mv, core_pick, core_alloc, core_load, core_store, core_clr, core_nilck, core_bin, core_binb, core_un, core_fadr, core_iadr, core_sli, core_len, core_lenS, core_idxS, core_app, core_mki, core_call, core_extV, core_fld, core_mks, wrO_some, valO_some, lenV_sl, lenV_own, bin_eql, bin_neq, bin_lss, bin_leq, bin_gtr, bin_geq, bin_add, bin_sub, bin_mul, unop_not, asBool_lit, pickV_lit, load_ip, iadr_sl, iadr_own, ev_s, ev_k, get_cons, get_nil, put_cons, put_nil, putD_some, putD_none, keep_cons, keep_nil, initFr, Nat.reduceEqDiff, Nat.reduceLT, Nat.reduceAdd, if_true, if_false, List.mem_cons, List.not_mem_nil, or_false, false_or, or_true, true_or, or_self, ↓reduceIte, Nat.zero_add, decide_false, decide_true, Nat.reduceBEq, beq_self_eq_true, BEq.rfl, Option.map_some, Option.map_none, List.head?_cons, List.map_cons, List.map_nil, List.append_nil, List.nil_append, List.cons_append, Bool.not_true, Bool.not_false, cond_true, cond_false, Int.natCast_nonneg, Int.toNat_natCast, Int.ofNat_toNat, core_bslice1, bsV_int, codeW_drawn, headS_cons, headS_nil, headS_guard, hS_val, hS_new, tailS_nil, tailS_cons, tailS_guard, tlS_val, tlS_new, tlS_wr, tlS_fz, tlS_pan, anyMk_cons, anyMk_nil, makes, binb_eql, binb_neq, List.isEmpty_nil, List.isEmpty_cons, Bool.or_false, Bool.false_or, Bool.or_true, Bool.true_or, pickV_t, pickV_f, core_inv, core_callS, fnV_func, core_tas, tasV_iface, nilck_ptr, extV_tup, fldV_agg, List.getElem?_cons_zero, List.getElem?_cons_succ, lenV_g, Int.lt_irrefl]
    · have : ¬ g.length ≤ j := by omega
      simp [this]
  | m + 1, n, nx, H, h, hl, O => by
    have hn : n < g.length := by omega
    have hlt : (n : Int) < g.length := by omega
    have h0 : (0 : Int) ≤ n := by omega
    have hi0 : (0 : Int) ≤ i := by omega
    have hi1 : (i : Int) < g.length := by omega
    have h20 := few_len hf
    have hw := wrap1 (show n < 4611686018427387904 by omega)
    have Oa : H[a]? = some (.row (cellsB at') 4) := O.tail.head
    have hna := cellsB_at (l := at') (n := i) (by omega)
    have hnn := cellsB_at (l := nx) (n := n) (by omega)
    have hc := fun H id => rneeds_call g hf i n hi hn H id
    have O1 := O.set (cellsB (nx.set n (nx.getD n false || (at'.getD i false && needB g i n)))) 4
    have st : storeAt H 1 (.ptr q n) (litB (nx.getD n false || (at'.getD i false && needB g i n))) = some (setL H q (.row (cellsB (nx.set n (nx.getD n false || (at'.getD i false && needB g i n)))) 4)) := by
      rw [store_ptr O.head (by rw [cellsB_len]; omega) rfl rfl, cellsB_set]
    obtain ⟨nx', H', L, k1, k2, k3⟩ := step_loop g hf A A6 a q at' hat i hi m (n + 1) _ _ (by omega) (by simpa using hl) O1
    refine ⟨nx', H', loopW_round ?_ L, k1, k2, fun j hj => ?_⟩
    · cases hb : nx.getD n false with
      | true =>
        rw [hb] at hnn st
        rw [Bool.true_or] at st ⊢
        simp -implicitDefEqProofs only [c5l1, codeW_seq, codeW_reg, codeW_cond, codeW_block, codeW_loop, codeW_skip, codeW_exit, codeW_ret, thenS_normal, thenS_if, thenS_ret, thenS_exit, thenS_pan, thenS_none, blockS_normal, blockS_exit, blockS_ret, blockS_pan, blockS_if, condS_some, ifS_true, ifS_false, opS_val, opS_new, opS_wr, opS_fz, opS_pan, bindO_some, runS_nil, runS_cons, runS_guard, gS_t, gS_f, gS_undef, asG_lit, asG_undef, core_mv, core_pick, core_alloc, core_load, core_store, core_clr, core_nilck, core_bin, core_binb, core_un, core_fadr, core_iadr, core_sli, core_len, core_lenS, core_idxS, core_app, core_mki, core_call, core_extV, core_fld, core_mks, wrO_some, valO_some, lenV_sl, lenV_own, bin_eql, bin_neq, bin_lss, bin_leq, bin_gtr, bin_geq, bin_add, bin_sub, bin_mul, unop_not, asBool_lit, pickV_lit, load_ip, iadr_sl, iadr_own, ev_s, ev_k, get_cons, get_nil, put_cons, put_nil, putD_some, putD_none, keep_cons, keep_nil, initFr, Nat.reduceEqDiff, Nat.reduceLT, Nat.reduceAdd, if_true, if_false, List.mem_cons, List.not_mem_nil, or_false, false_or, or_true, true_or, or_self, ↓reduceIte, Nat.zero_add, decide_false, decide_true, Nat.reduceBEq, beq_self_eq_true, BEq.rfl, Option.map_some, Option.map_none, List.head?_cons, List.map_cons, List.map_nil, List.append_nil, List.nil_append, List.cons_append, Bool.not_true, Bool.not_false, cond_true, cond_false, Int.natCast_nonneg, Int.toNat_natCast, Int.ofNat_toNat, core_bslice1, bsV_int, codeW_drawn, headS_cons, headS_nil, headS_guard, hS_val, hS_new, tailS_nil, tailS_cons, tailS_guard, tlS_val, tlS_new, tlS_wr, tlS_fz, tlS_pan, anyMk_cons, anyMk_nil, makes, binb_eql, binb_neq, List.isEmpty_nil, List.isEmpty_cons, Bool.or_false, Bool.false_or, Bool.or_true, Bool.true_or, pickV_t, pickV_f, core_inv, core_callS, fnV_func, core_tas, tasV_iface, nilck_ptr, extV_tup, fldV_agg, List.getElem?_cons_zero, List.getElem?_cons_succ, lenV_g, hlt, h0, and_self, Nat.mul_one, load_of O.head hnn, st, hw]
      | false =>
        rw [hb] at hnn st
        rw [Bool.false_or] at st ⊢
        cases ha : at'.getD i false with
        | true =>
          rw [ha] at hna st
          rw [Bool.true_and] at st ⊢
          simp -implicitDefEqProofs only [c5l1, codeW_seq, codeW_reg, codeW_cond, codeW_block, codeW_loop, codeW_skip, codeW_exit, codeW_ret, thenS_normal, thenS_if, thenS_ret, thenS_exit, thenS_pan, thenS_none, blockS_normal, blockS_exit, blockS_ret, blockS_pan, blockS_if, condS_some, ifS_true, ifS_false, opS_val, opS_new, opS_wr, opS_fz, opS_pan, bindO_some, runS_nil, runS_cons, runS_guard, gS_t, gS_f, gS_undef, asG_lit, asG_undef, core_mv, core_pick, core_alloc, core_load, core_store, core_clr, core_nilck, core_bin, core_binb, core_un, core_fadr, core_iadr, core_sli, core_len, core_lenS, core_idxS, core_app, core_mki, core_call, core_extV, core_fld, core_mks, wrO_some, valO_some, lenV_sl, lenV_own, bin_eql, bin_neq, bin_lss, bin_leq, bin_gtr, bin_geq, bin_add, bin_sub, bin_mul, unop_not, asBool_lit, pickV_lit, load_ip, iadr_sl, iadr_own, ev_s, ev_k, get_cons, get_nil, put_cons, put_nil, putD_some, putD_none, keep_cons, keep_nil, initFr, Nat.reduceEqDiff, Nat.reduceLT, Nat.reduceAdd, if_true, if_false, List.mem_cons, List.not_mem_nil, or_false, false_or, or_true, true_or, or_self, ↓reduceIte, Nat.zero_add, decide_false, decide_true, Nat.reduceBEq, beq_self_eq_true, BEq.rfl, Option.map_some, Option.map_none, List.head?_cons, List.map_cons, List.map_nil, List.append_nil, List.nil_append, List.cons_append, Bool.not_true, Bool.not_false, cond_true, cond_false, Int.natCast_nonneg, Int.toNat_natCast, Int.ofNat_toNat, core_bslice1, bsV_int, codeW_drawn, headS_cons, headS_nil, headS_guard, hS_val, hS_new, tailS_nil, tailS_cons, tailS_guard, tlS_val, tlS_new, tlS_wr, tlS_fz, tlS_pan, anyMk_cons, anyMk_nil, makes, binb_eql, binb_neq, List.isEmpty_nil, List.isEmpty_cons, Bool.or_false, Bool.false_or, Bool.or_true, Bool.true_or, pickV_t, pickV_f, core_inv, core_callS, fnV_func, core_tas, tasV_iface, nilck_ptr, extV_tup, fldV_agg, List.getElem?_cons_zero, List.getElem?_cons_succ, lenV_g, hlt, h0, hi0, hi1, and_self, Nat.mul_one, load_of O.head hnn, load_of Oa hna, hc, st, hw]
        | false =>
          rw [ha] at hna st
          rw [Bool.false_and] at st ⊢
          simp -implicitDefEqProofs only [c5l1, codeW_seq, codeW_reg, codeW_cond, codeW_block, codeW_loop, codeW_skip, codeW_exit, codeW_ret, thenS_normal, thenS_if, thenS_ret, thenS_exit, thenS_pan, thenS_none, blockS_normal, blockS_exit, blockS_ret, blockS_pan, blockS_if, condS_some, ifS_true, ifS_false, opS_val, opS_new, opS_wr, opS_fz, opS_pan, bindO_some, runS_nil, runS_cons, runS_guard, gS_t, gS_f, gS_undef, asG_lit, asG_undef, core_mv, core_pick, core_alloc, core_load, core_store, core_clr, core_nilck, core_bin, core_binb, core_un, core_fadr, core_iadr, core_sli, core_len, core_lenS, core_idxS, core_app, core_mki, core_call, core_extV, core_fld, core_mks, wrO_some, valO_some, lenV_sl, lenV_own, bin_eql, bin_neq, bin_lss, bin_leq, bin_gtr, bin_geq, bin_add, bin_sub, bin_mul, unop_not, asBool_lit, pickV_lit, load_ip, iadr_sl, iadr_own, ev_s, ev_k, get_cons, get_nil, put_cons, put_nil, putD_some, putD_none, keep_cons, keep_nil, initFr, Nat.reduceEqDiff, Nat.reduceLT, Nat.reduceAdd, if_true, if_false, List.mem_cons, List.not_mem_nil, or_false, false_or, or_true, true_or, or_self, ↓reduceIte, Nat.zero_add, decide_false, decide_true, Nat.reduceBEq, beq_self_eq_true, BEq.rfl, Option.map_some, Option.map_none, List.head?_cons, List.map_cons, List.map_nil, List.append_nil, List.nil_append, List.cons_append, Bool.not_true, Bool.not_false, cond_true, cond_false, Int.natCast_nonneg, Int.toNat_natCast, Int.ofNat_toNat, core_bslice1, bsV_int, codeW_drawn, headS_cons, headS_nil, headS_guard, hS_val, hS_new, tailS_nil, tailS_cons, tailS_guard, tlS_val, tlS_new, tlS_wr, tlS_fz, tlS_pan, anyMk_cons, anyMk_nil, makes, binb_eql, binb_neq, List.isEmpty_nil, List.isEmpty_cons, Bool.or_false, Bool.false_or, Bool.or_true, Bool.true_or, pickV_t, pickV_f, core_inv, core_callS, fnV_func, core_tas, tasV_iface, nilck_ptr, extV_tup, fldV_agg, List.getElem?_cons_zero, List.getElem?_cons_succ, lenV_g, hlt, h0, hi0, hi1, and_self, Nat.mul_one, load_of O.head hnn, load_of Oa hna, hc, st, hw]
    · rw [k3 j hj, getD_set _ _ _ _ (by omega)]
      by_cases e : n = j
      · subst e
        have : ¬ n + 1 ≤ n := by omega
        simp [this]
      · rw [if_neg e]
        by_cases e2 : n ≤ j
        · have : n + 1 ≤ j := by omega
          simp [e2, this]
        · have : ¬ n + 1 ≤ j := by omega
          simp [e2, this]

theorem steps_loop (g : List (List Int)) (hf : fewG g = true) (A : AV) (A6 : AV) (a q : Nat) (at' : List Bool) (hat : at'.length = g.length) : ∀ (m n : Nat) (nx : List Bool) (H : List AO), m + n = g.length → nx.length = g.length → Own H [(q, cellsB nx, 4), (a, cellsB at', 4)] →
    ∃ (nx' : List Bool) (H' : List AO), loopW (codeW cw (lookM mtl) mds c5l2) [0, 3, 5, 6, 7, 8] [(0, gA g), (3, A), (5, .own a 0 g.length 1 (some g.length)), (6, A6), (7, .own q 0 g.length 1 (some g.length)), (8, litI .i64 n)] H =
      some (EX.exit 4, [(0, gA g), (3, A), (5, .own a 0 g.length 1 (some g.length)), (6, A6), (7, .own q 0 g.length 1 (some g.length)), (8, litI .i64 g.length), (52, litB false)], H') ∧
      nx'.length = g.length ∧ Own H' [(q, cellsB nx', 4), (a, cellsB at', 4)] ∧ ∀ j, j < g.length → (nx'.getD j false = true ↔ (nx.getD j false = true ∨ ∃ i, n ≤ i ∧ i < g.length ∧ at'.getD i false = true ∧ needB g i j = true))
  | 0, n, nx, H, h, hl, O => by
    have hn : n = g.length := by omega
    subst hn
    refine ⟨nx, H, loopW_out ?_ (by simp), hl, O, fun j hj => ?_⟩
    · simp -implicitDefEqProofs only [c5l2, codeW_seq, codeW_reg, codeW_cond, codeW_block, codeW_loop, codeW_skip, codeW_exit, codeW_ret, thenS_normal, thenS_if, thenS_ret, thenS_exit, thenS_pan, thenS_none, blockS_normal, blockS_exit, blockS_ret, blockS_pan, blockS_if, condS_some, ifS_true, ifS_false, opS_val, opS_new, opS_wr, opS_fz, opS_pan, bindO_some, runS_nil, runS_cons, runS_guard, gS_t, gS_f, gS_undef, asG_lit, asG_undef, core_mv, core_pick, core_alloc, core_load, core_store, core_clr, core_nilck, core_bin, core_binb, core_un, core_fadr, core_iadr, core_sli, core_len, core_lenS, core_idxS, core_app, core_mki, core_call, core_extV, core_fld, core_mks, wrO_some, valO_some, lenV_sl, lenV_own, bin_eql, bin_neq, bin_lss, bin_leq, bin_gtr, bin_geq, bin_add, bin_sub, bin_mul, unop_not, asBool_lit, pickV_lit, load_ip, iadr_sl, iadr_own, ev_s, ev_k, get_cons, get_nil, put_cons, put_nil, putD_some, putD_none, keep_cons, keep_nil, initFr, Nat.reduceEqDiff, Nat.reduceLT, Nat.reduceAdd, if_true, if_false, List.mem_cons, List.not_mem_nil, or_false, false_or, or_true, true_or, or_self, ↓reduceIte, Nat.zero_add, decide_false, decide_true, Nat.reduceBEq, beq_self_eq_true, BEq.rfl, Option.map_some, Option.map_none, List.head?_cons, List.map_cons, List.map_nil, List.append_nil, List.nil_append, List.cons_append, Bool.not_true, Bool.not_false, cond_true, cond_false, Int.natCast_nonneg, Int.toNat_natCast, Int.ofNat_toNat, core_bslice1, bsV_int, codeW_drawn, headS_cons, headS_nil, headS_guard, hS_val, hS_new, tailS_nil, tailS_cons, tailS_guard, tlS_val, tlS_new, tlS_wr, tlS_fz, tlS_pan, anyMk_cons, anyMk_nil, makes, binb_eql, binb_neq, List.isEmpty_nil, List.isEmpty_cons, Bool.or_false, Bool.false_or, Bool.or_true, Bool.true_or, pickV_t, pickV_f, core_inv, core_callS, fnV_func, core_tas, tasV_iface, nilck_ptr, extV_tup, fldV_agg, List.getElem?_cons_zero, List.getElem?_cons_succ, lenV_g, Int.lt_irrefl]
    · constructor
      · exact .inl
      · rintro (h | ⟨i, h1, h2, _⟩)
        · exact h
        · omega
  | m + 1, n, nx, H, h, hl, O => by
    have hn : n < g.length := by omega
    have hlt : (n : Int) < g.length := by omega
    have h20 := few_len hf
    have hw := wrap1 (show n < 4611686018427387904 by omega)
    obtain ⟨nx1, H1, L1, k1, k2, k3⟩ := step_loop g hf A A6 a q at' hat n hn g.length 0 nx H (by omega) hl O
    rw [show ((0 : Nat) : Int) = 0 from rfl] at L1
    obtain ⟨nx', H', L, q1, q2, q3⟩ := steps_loop g hf A A6 a q at' hat m (n + 1) nx1 H1 (by omega) k1 k2
    refine ⟨nx', H', loopW_next (fr1 := [(0, gA g), (3, A), (5, .own a 0 g.length 1 (some g.length)), (6, A6), (7, .own q 0 g.length 1 (some g.length)), (8, litI .i64 ((n + 1 : Nat) : Int))]) ?_ rfl L, q1, q2, fun j hj => ?_⟩
    · simp -implicitDefEqProofs only [c5l2, codeW_seq, codeW_reg, codeW_cond, codeW_block, codeW_loop, codeW_skip, codeW_exit, codeW_ret, thenS_normal, thenS_if, thenS_ret, thenS_exit, thenS_pan, thenS_none, blockS_normal, blockS_exit, blockS_ret, blockS_pan, blockS_if, condS_some, ifS_true, ifS_false, opS_val, opS_new, opS_wr, opS_fz, opS_pan, bindO_some, runS_nil, runS_cons, runS_guard, gS_t, gS_f, gS_undef, asG_lit, asG_undef, core_mv, core_pick, core_alloc, core_load, core_store, core_clr, core_nilck, core_bin, core_binb, core_un, core_fadr, core_iadr, core_sli, core_len, core_lenS, core_idxS, core_app, core_mki, core_call, core_extV, core_fld, core_mks, wrO_some, valO_some, lenV_sl, lenV_own, bin_eql, bin_neq, bin_lss, bin_leq, bin_gtr, bin_geq, bin_add, bin_sub, bin_mul, unop_not, asBool_lit, pickV_lit, load_ip, iadr_sl, iadr_own, ev_s, ev_k, get_cons, get_nil, put_cons, put_nil, putD_some, putD_none, keep_cons, keep_nil, initFr, Nat.reduceEqDiff, Nat.reduceLT, Nat.reduceAdd, if_true, if_false, List.mem_cons, List.not_mem_nil, or_false, false_or, or_true, true_or, or_self, ↓reduceIte, Nat.zero_add, decide_false, decide_true, Nat.reduceBEq, beq_self_eq_true, BEq.rfl, Option.map_some, Option.map_none, List.head?_cons, List.map_cons, List.map_nil, List.append_nil, List.nil_append, List.cons_append, Bool.not_true, Bool.not_false, cond_true, cond_false, Int.natCast_nonneg, Int.toNat_natCast, Int.ofNat_toNat, core_bslice1, bsV_int, codeW_drawn, headS_cons, headS_nil, headS_guard, hS_val, hS_new, tailS_nil, tailS_cons, tailS_guard, tlS_val, tlS_new, tlS_wr, tlS_fz, tlS_pan, anyMk_cons, anyMk_nil, makes, binb_eql, binb_neq, List.isEmpty_nil, List.isEmpty_cons, Bool.or_false, Bool.false_or, Bool.or_true, Bool.true_or, pickV_t, pickV_f, core_inv, core_callS, fnV_func, core_tas, tasV_iface, nilck_ptr, extV_tup, fldV_agg, List.getElem?_cons_zero, List.getElem?_cons_succ, lenV_g, hlt, L1, hw]
    · rw [q3 j hj, k3 j hj]
      simp only [Nat.zero_le, decide_true, Bool.true_and, Bool.or_eq_true, Bool.and_eq_true]
      constructor
      · rintro ((h | ⟨h1, h2⟩) | ⟨i, h1, h2⟩)
        · exact .inl h
        · exact .inr ⟨n, Nat.le_refl _, hn, h1, h2⟩
        · exact .inr ⟨i, by omega, h2⟩
      · rintro (h | ⟨i, h1, h2, h3, h4⟩)
        · exact .inl (.inl h)
        · by_cases e : i = n
          · subst e; exact .inl (.inr ⟨h3, h4⟩)
          · exact .inr ⟨i, by omega, h2, h3, h4⟩

theorem walk_snoc {g : List (List Int)} {F : Int} {n : Nat} (h0 : 0 ≤ F ∧ F < g.length) (j : Nat) (hj : j < g.length) : Walk g (n + 1) F j ↔ ∃ i : Nat, i < g.length ∧ Walk g n F i ∧ needB g i j = true := by
  constructor
  · intro w
    cases w with
    | snoc w h =>
      rename_i b
      have hb : 0 ≤ b ∧ b < g.length := by
        cases w with
        | zero => exact h0
        | snoc w h => exact need_rng _ _ h
      refine ⟨b.toNat, by omega, ?_, (needB_iff hj).2 h⟩
      rw [show ((b.toNat : Nat) : Int) = b by omega]; exact w
  · rintro ⟨i, hi, w, h⟩
    exact .snoc w ((needB_iff hj).1 h)

theorem least_loop (g : List (List Int)) (hf : fewG g = true) (A : AV) (c : List Int) (hA : RowV A c) (f : Nat) (hfl : f < g.length) (C : Cyc g f c) : ∀ (m n a : Nat) (at' : List Bool) (H : List AO), m + n = c.length → 0 < n → at'.length = g.length → (∀ j, j < g.length → (at'.getD j false = true ↔ Walk g (n - 1) f j)) → Own H [(a, cellsB at', 4)] →
    ∃ (fr' : Fr) (H' : List AO), loopW (codeW cw (lookM mtl) mds c5l3) [0, 3, 5, 6] [(0, gA g), (3, A), (5, .own a 0 g.length 1 (some g.length)), (6, litI .i64 n)] H = some (EX.exit 2, fr', H')
  | 0, n, a, at', H, h, hn0, hl, hat, O => by
    have hn : n = c.length := by omega
    subst hn
    refine ⟨_, H, loopW_out (fr' := [(0, gA g), (3, A), (5, .own a 0 g.length 1 (some g.length)), (6, litI .i64 c.length), (43, litB false)]) ?_ (by simp)⟩
    simp -implicitDefEqProofs only [c5l3, codeW_seq, codeW_reg, codeW_cond, codeW_block, codeW_loop, codeW_skip, codeW_exit, codeW_ret, thenS_normal, thenS_if, thenS_ret, thenS_exit, thenS_pan, thenS_none, blockS_normal, blockS_exit, blockS_ret, blockS_pan, blockS_if, condS_some, ifS_true, ifS_false, opS_val, opS_new, opS_wr, opS_fz, opS_pan, bindO_some, runS_nil, runS_cons, runS_guard, gS_t, gS_f, gS_undef, asG_lit, asG_undef, core_mv, core_pick, core_alloc, core_load, core_store, core_clr, core_nilck, core_bin, core_binb, core_un, core_fadr, core_iadr, core_sli, core_len, core_lenS, core_idxS, core_app, core_mki, core_call, core_extV, core_fld, core_mks, wrO_some, valO_some, lenV_sl, lenV_own, bin_eql, bin_neq, bin_lss, bin_leq, bin_gtr, bin_geq, bin_add, bin_sub, bin_mul, unop_not, asBool_lit, pickV_lit, load_ip, iadr_sl, iadr_own, ev_s, ev_k, get_cons, get_nil, put_cons, put_nil, putD_some, putD_none, keep_cons, keep_nil, initFr, Nat.reduceEqDiff, Nat.reduceLT, Nat.reduceAdd, if_true, if_false, List.mem_cons, List.not_mem_nil, or_false, false_or, or_true, true_or, or_self, ↓reduceIte, Nat.zero_add, decide_false, decide_true, Nat.reduceBEq, beq_self_eq_true, BEq.rfl, Option.map_some, Option.map_none, List.head?_cons, List.map_cons, List.map_nil, List.append_nil, List.nil_append, List.cons_append, Bool.not_true, Bool.not_false, cond_true, cond_false, Int.natCast_nonneg, Int.toNat_natCast, Int.ofNat_toNat, core_bslice1, bsV_int, codeW_drawn, headS_cons, headS_nil, headS_guard, hS_val, hS_new, tailS_nil, tailS_cons, tailS_guard, tlS_val, tlS_new, tlS_wr, tlS_fz, tlS_pan, anyMk_cons, anyMk_nil, makes, binb_eql, binb_neq, List.isEmpty_nil, List.isEmpty_cons, Bool.or_false, Bool.false_or, Bool.or_true, Bool.true_or, pickV_t, pickV_f, core_inv, core_callS, fnV_func, core_tas, tasV_iface, nilck_ptr, extV_tup, fldV_agg, List.getElem?_cons_zero, List.getElem?_cons_succ, hA.lenV, Int.lt_irrefl]
  | m + 1, n, a, at', H, h, hn0, hl, hat, O => by
    have hn : n < c.length := by omega
    have hlt : (n : Int) < c.length := by omega
    have h20 := few_len hf
    have hcl := C.le
    have hw := wrap1 (show n < 4611686018427387904 by omega)
    have hm := fun id => mksV_ok (id := id) (e := 1) (bytes := 1) (z := [litB false]) (t := 4) (n := g.length) (by omega) (by omega)
    simp only [cells_rep] at hm
    have O1 := O.new (cellsB (List.replicate g.length false)) 4
    generalize hH1 : H ++ [AO.row (cellsB (List.replicate g.length false)) 4] = H1 at O1
    obtain ⟨nx, H2, L, k1, k2, k3⟩ := steps_loop g hf A (litI .i64 n) a H.length at' hl g.length 0 _ H1 (by omega) (by simp) O1
    rw [show ((0 : Nat) : Int) = 0 from rfl] at L
    have hnx : ∀ j, j < g.length → (nx.getD j false = true ↔ Walk g n f j) := by
      intro j hj
      have hw := walk_snoc (g := g) (F := (f : Int)) (n := n - 1) ⟨by omega, by omega⟩ j hj
      rw [show n - 1 + 1 = n by omega] at hw
      rw [hw, k3 j hj]
      have h3 : (List.replicate g.length false).getD j false = false := by simp [List.getD_eq_getElem?_getD, List.getElem?_replicate, hj]
      rw [h3]
      constructor
      · rintro (h | ⟨i, _, h1, h2, h3⟩)
        · cases h
        · exact ⟨i, h1, (hat i h1).1 h2, h3⟩
      · rintro ⟨i, h1, h2, h3⟩
        exact .inr ⟨i, Nat.zero_le _, h1, (hat i h1).2 h2, h3⟩
    have hnf : nx.getD f false = false := by
      rw [Bool.eq_false_iff]
      intro e
      exact C.least n hn0 hn ((hnx f hfl).1 e)
    have hld := cellsB_at (l := nx) (n := f) (by omega)
    rw [hnf] at hld
    have hf0 : (0 : Int) ≤ f := by omega
    have hf1 : (f : Int) < g.length := by omega
    obtain ⟨fr', H', L'⟩ := least_loop g hf A c hA f hfl C m (n + 1) H.length nx H2 (by omega) (by omega) k1 (fun j hj => by rw [Nat.add_sub_cancel]; exact hnx j hj) (k2.sub (by simp))
    refine ⟨fr', H', loopW_next (fr1 := [(0, gA g), (3, A), (5, .own H.length 0 g.length 1 (some g.length)), (6, litI .i64 ((n + 1 : Nat) : Int))]) ?_ rfl L'⟩
    simp -implicitDefEqProofs only [c5l3, codeW_seq, codeW_reg, codeW_cond, codeW_block, codeW_loop, codeW_skip, codeW_exit, codeW_ret, thenS_normal, thenS_if, thenS_ret, thenS_exit, thenS_pan, thenS_none, blockS_normal, blockS_exit, blockS_ret, blockS_pan, blockS_if, condS_some, ifS_true, ifS_false, opS_val, opS_new, opS_wr, opS_fz, opS_pan, bindO_some, runS_nil, runS_cons, runS_guard, gS_t, gS_f, gS_undef, asG_lit, asG_undef, core_mv, core_pick, core_alloc, core_load, core_store, core_clr, core_nilck, core_bin, core_binb, core_un, core_fadr, core_iadr, core_sli, core_len, core_lenS, core_idxS, core_app, core_mki, core_call, core_extV, core_fld, core_mks, wrO_some, valO_some, lenV_sl, lenV_own, bin_eql, bin_neq, bin_lss, bin_leq, bin_gtr, bin_geq, bin_add, bin_sub, bin_mul, unop_not, asBool_lit, pickV_lit, load_ip, iadr_sl, iadr_own, ev_s, ev_k, get_cons, get_nil, put_cons, put_nil, putD_some, putD_none, keep_cons, keep_nil, initFr, Nat.reduceEqDiff, Nat.reduceLT, Nat.reduceAdd, if_true, if_false, List.mem_cons, List.not_mem_nil, or_false, false_or, or_true, true_or, or_self, ↓reduceIte, Nat.zero_add, decide_false, decide_true, Nat.reduceBEq, beq_self_eq_true, BEq.rfl, Option.map_some, Option.map_none, List.head?_cons, List.map_cons, List.map_nil, List.append_nil, List.nil_append, List.cons_append, Bool.not_true, Bool.not_false, cond_true, cond_false, Int.natCast_nonneg, Int.toNat_natCast, Int.ofNat_toNat, core_bslice1, bsV_int, codeW_drawn, headS_cons, headS_nil, headS_guard, hS_val, hS_new, tailS_nil, tailS_cons, tailS_guard, tlS_val, tlS_new, tlS_wr, tlS_fz, tlS_pan, anyMk_cons, anyMk_nil, makes, binb_eql, binb_neq, List.isEmpty_nil, List.isEmpty_cons, Bool.or_false, Bool.false_or, Bool.or_true, Bool.true_or, pickV_t, pickV_f, core_inv, core_callS, fnV_func, core_tas, tasV_iface, nilck_ptr, extV_tup, fldV_agg, List.getElem?_cons_zero, List.getElem?_cons_succ, hA.lenV, hlt, lenV_g, hm, hH1, L, hA.iadr0 C.pos, C.first, hf0, hf1, and_self, Nat.mul_one, load_of k2.head hld, hw, Int.toNat_natCast]

theorem least_law (g : List (List Int)) : ∃ H', cw 5 [gA g] [] = some (.ret (litB true), H') := by
  cases hf : fewG g with
  | false =>
    refine ⟨[], cw_of fn5 (c := c5) rfl rfl rfl rfl ?_⟩
    simp -implicitDefEqProofs only [c5, codeW_seq, codeW_reg, codeW_cond, codeW_block, codeW_loop, codeW_skip, codeW_exit, codeW_ret, thenS_normal, thenS_if, thenS_ret, thenS_exit, thenS_pan, thenS_none, blockS_normal, blockS_exit, blockS_ret, blockS_pan, blockS_if, condS_some, ifS_true, ifS_false, opS_val, opS_new, opS_wr, opS_fz, opS_pan, bindO_some, runS_nil, runS_cons, runS_guard, gS_t, gS_f, gS_undef, asG_lit, asG_undef, core_mv, core_pick, core_alloc, core_load, core_store, core_clr, core_nilck, core_bin, core_binb, core_un, core_fadr, core_iadr, core_sli, core_len, core_lenS, core_idxS, core_app, core_mki, core_call, core_extV, core_fld, core_mks, wrO_some, valO_some, lenV_sl, lenV_own, bin_eql, bin_neq, bin_lss, bin_leq, bin_gtr, bin_geq, bin_add, bin_sub, bin_mul, unop_not, asBool_lit, pickV_lit, load_ip, iadr_sl, iadr_own, ev_s, ev_k, get_cons, get_nil, put_cons, put_nil, putD_some, putD_none, keep_cons, keep_nil, initFr, Nat.reduceEqDiff, Nat.reduceLT, Nat.reduceAdd, if_true, if_false, List.mem_cons, List.not_mem_nil, or_false, false_or, or_true, true_or, or_self, ↓reduceIte, Nat.zero_add, decide_false, decide_true, Nat.reduceBEq, beq_self_eq_true, BEq.rfl, Option.map_some, Option.map_none, List.head?_cons, List.map_cons, List.map_nil, List.append_nil, List.nil_append, List.cons_append, Bool.not_true, Bool.not_false, cond_true, cond_false, Int.natCast_nonneg, Int.toNat_natCast, Int.ofNat_toNat, core_bslice1, bsV_int, codeW_drawn, headS_cons, headS_nil, headS_guard, hS_val, hS_new, tailS_nil, tailS_cons, tailS_guard, tlS_val, tlS_new, tlS_wr, tlS_fz, tlS_pan, anyMk_cons, anyMk_nil, makes, binb_eql, binb_neq, List.isEmpty_nil, List.isEmpty_cons, Bool.or_false, Bool.false_or, Bool.or_true, Bool.true_or, pickV_t, pickV_f, core_inv, core_callS, fnV_func, core_tas, tasV_iface, nilck_ptr, extV_tup, fldV_agg, List.getElem?_cons_zero, List.getElem?_cons_succ, few_call, hf]
    rfl
  | true =>
    have h20 := few_len hf
    obtain ⟨A, c, hA, hc, h11⟩ := cycle_call g hf
    rcases hc with ⟨rfl, h⟩ | ⟨f, hfl, r, hno, C⟩
    · refine ⟨[], cw_of fn5 (c := c5) rfl rfl rfl rfl ?_⟩
      have e : ((([] : List Int).length : Int) == 0) = true := rfl
      simp -implicitDefEqProofs only [c5, codeW_seq, codeW_reg, codeW_cond, codeW_block, codeW_loop, codeW_skip, codeW_exit, codeW_ret, thenS_normal, thenS_if, thenS_ret, thenS_exit, thenS_pan, thenS_none, blockS_normal, blockS_exit, blockS_ret, blockS_pan, blockS_if, condS_some, ifS_true, ifS_false, opS_val, opS_new, opS_wr, opS_fz, opS_pan, bindO_some, runS_nil, runS_cons, runS_guard, gS_t, gS_f, gS_undef, asG_lit, asG_undef, core_mv, core_pick, core_alloc, core_load, core_store, core_clr, core_nilck, core_bin, core_binb, core_un, core_fadr, core_iadr, core_sli, core_len, core_lenS, core_idxS, core_app, core_mki, core_call, core_extV, core_fld, core_mks, wrO_some, valO_some, lenV_sl, lenV_own, bin_eql, bin_neq, bin_lss, bin_leq, bin_gtr, bin_geq, bin_add, bin_sub, bin_mul, unop_not, asBool_lit, pickV_lit, load_ip, iadr_sl, iadr_own, ev_s, ev_k, get_cons, get_nil, put_cons, put_nil, putD_some, putD_none, keep_cons, keep_nil, initFr, Nat.reduceEqDiff, Nat.reduceLT, Nat.reduceAdd, if_true, if_false, List.mem_cons, List.not_mem_nil, or_false, false_or, or_true, true_or, or_self, ↓reduceIte, Nat.zero_add, decide_false, decide_true, Nat.reduceBEq, beq_self_eq_true, BEq.rfl, Option.map_some, Option.map_none, List.head?_cons, List.map_cons, List.map_nil, List.append_nil, List.nil_append, List.cons_append, Bool.not_true, Bool.not_false, cond_true, cond_false, Int.natCast_nonneg, Int.toNat_natCast, Int.ofNat_toNat, core_bslice1, bsV_int, codeW_drawn, headS_cons, headS_nil, headS_guard, hS_val, hS_new, tailS_nil, tailS_cons, tailS_guard, tlS_val, tlS_new, tlS_wr, tlS_fz, tlS_pan, anyMk_cons, anyMk_nil, makes, binb_eql, binb_neq, List.isEmpty_nil, List.isEmpty_cons, Bool.or_false, Bool.false_or, Bool.or_true, Bool.true_or, pickV_t, pickV_f, core_inv, core_callS, fnV_func, core_tas, tasV_iface, nilck_ptr, extV_tup, fldV_agg, List.getElem?_cons_zero, List.getElem?_cons_succ, few_call, hf, h11, hA.lenV, e, awake_call]
      rfl
    · have e : ((c.length : Int) == 0) = false := by
        rw [beq_eq_false_iff_ne]; have := C.pos; omega
      have L0 := below_loop g hf A c hA C.pos f C.first hfl hno f 0 (by omega)
      rw [show ((0 : Nat) : Int) = 0 from rfl] at L0
      have hm := fun id => mksV_ok (id := id) (e := 1) (bytes := 1) (z := [litB false]) (t := 4) (n := g.length) (by omega) (by omega)
      simp only [cells_rep] at hm
      have O : Own [AO.row (cellsB ((List.replicate g.length false).set f true)) 4] [(0, cellsB ((List.replicate g.length false).set f true), 4)] := ⟨by simp, fun x hx => by simp at hx; subst hx; rfl⟩
      have st : storeAt [AO.row (cellsB (List.replicate g.length false)) 4] 1 (.ptr 0 f) (litB true) = some [AO.row (cellsB ((List.replicate g.length false).set f true)) 4] := by
        rw [store_ptr (cs := cellsB (List.replicate g.length false)) (t := 4) rfl (by simp [cellsB]; exact hfl) rfl rfl, cellsB_set]; rfl
      obtain ⟨fr', H', L⟩ := least_loop g hf A c hA f hfl C (c.length - 1) 1 0 _ _ (by have := C.pos; omega) (by omega) (by simp) (fun j hj => by
        rw [getD_set _ _ _ _ (by simp; exact hfl)]
        constructor
        · intro h
          by_cases e : f = j
          · subst e; exact .zero _
          · rw [if_neg e] at h
            simp [List.getD_eq_getElem?_getD, List.getElem?_replicate, hj] at h
        · intro w
          have : f = j := by
            have w' : Walk g 0 f j := w
            generalize hF : (f : Int) = F at w'
            generalize hJ : (j : Int) = J at w'
            cases w'
            omega
          rw [if_pos this]) O
      rw [show ((1 : Nat) : Int) = 1 from rfl] at L
      have hf0 : (0 : Int) ≤ f := by omega
      have hf1 : (f : Int) < g.length := by omega
      refine ⟨H', cw_of fn5 (c := c5) rfl rfl rfl rfl ?_⟩
      simp -implicitDefEqProofs only [c5, codeW_seq, codeW_reg, codeW_cond, codeW_block, codeW_loop, codeW_skip, codeW_exit, codeW_ret, thenS_normal, thenS_if, thenS_ret, thenS_exit, thenS_pan, thenS_none, blockS_normal, blockS_exit, blockS_ret, blockS_pan, blockS_if, condS_some, ifS_true, ifS_false, opS_val, opS_new, opS_wr, opS_fz, opS_pan, bindO_some, runS_nil, runS_cons, runS_guard, gS_t, gS_f, gS_undef, asG_lit, asG_undef, core_mv, core_pick, core_alloc, core_load, core_store, core_clr, core_nilck, core_bin, core_binb, core_un, core_fadr, core_iadr, core_sli, core_len, core_lenS, core_idxS, core_app, core_mki, core_call, core_extV, core_fld, core_mks, wrO_some, valO_some, lenV_sl, lenV_own, bin_eql, bin_neq, bin_lss, bin_leq, bin_gtr, bin_geq, bin_add, bin_sub, bin_mul, unop_not, asBool_lit, pickV_lit, load_ip, iadr_sl, iadr_own, ev_s, ev_k, get_cons, get_nil, put_cons, put_nil, putD_some, putD_none, keep_cons, keep_nil, initFr, Nat.reduceEqDiff, Nat.reduceLT, Nat.reduceAdd, if_true, if_false, List.mem_cons, List.not_mem_nil, or_false, false_or, or_true, true_or, or_self, ↓reduceIte, Nat.zero_add, decide_false, decide_true, Nat.reduceBEq, beq_self_eq_true, BEq.rfl, Option.map_some, Option.map_none, List.head?_cons, List.map_cons, List.map_nil, List.append_nil, List.nil_append, List.cons_append, Bool.not_true, Bool.not_false, cond_true, cond_false, Int.natCast_nonneg, Int.toNat_natCast, Int.ofNat_toNat, core_bslice1, bsV_int, codeW_drawn, headS_cons, headS_nil, headS_guard, hS_val, hS_new, tailS_nil, tailS_cons, tailS_guard, tlS_val, tlS_new, tlS_wr, tlS_fz, tlS_pan, anyMk_cons, anyMk_nil, makes, binb_eql, binb_neq, List.isEmpty_nil, List.isEmpty_cons, Bool.or_false, Bool.false_or, Bool.or_true, Bool.true_or, pickV_t, pickV_f, core_inv, core_callS, fnV_func, core_tas, tasV_iface, nilck_ptr, extV_tup, fldV_agg, List.getElem?_cons_zero, List.getElem?_cons_succ, few_call, hf, h11, hA.lenV, e, L0, lenV_g, List.length_nil, hm, hA.iadr0 C.pos, C.first, hf0, hf1, and_self, Nat.mul_one, st, L, awake_call, Int.toNat_natCast]
      simp only [Option.bind_some, fin, fn5, res, resL, resV, get_keep_mem (show 2 ∈ [2] by simp), get_put, if_true]
end Go.Proofs.Ytoemnjclhheeoaa.Ai
