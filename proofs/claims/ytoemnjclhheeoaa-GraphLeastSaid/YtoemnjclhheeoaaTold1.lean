/- Layer 7: what its functions tell. No condition. -/
import Derived.Test.YtoemnjclhheeoaaBase3
import Derived.Test.YtoemnjclhheeoaaC07
namespace Go.Proofs.Ytoemnjclhheeoaa.Ai
open Go Go.Ai
set_option linter.unusedSimpArgs false
set_option linter.unusedVariables false
variable {call : CallF} {mt : MtF} {md : FuncId → Md}

/-- A row of ints; a graph. -/
def rowA (r : List Int) : AV := .sl 1 (r.map fun i => [litI .i64 i]) none
def gA (g : List (List Int)) : AV := .sl 1 (g.map fun r => [rowA r]) none
theorem lenV_g (g : List (List Int)) : lenV (gA g) = some (litI .i64 g.length) := by simp [gA, lenV]
theorem lenV_row (g : List Int) : lenV (rowA g) = some (litI .i64 g.length) := by simp [rowA, lenV]
theorem iadr_g (g : List (List Int)) (n : Nat) : iadr 1 (gA g) (litI .i64 n) = (g[n]?).map fun r => .ip [rowA r] := by
  rw [gA, iadr_sl]; simp [Function.comp_def]
theorem iadr_row (g : List Int) (n : Nat) : iadr 1 (rowA g) (litI .i64 n) = (g[n]?).map fun r => .ip [litI .i64 r] := by
  rw [rowA, iadr_sl]; simp [Function.comp_def]
theorem wrap1 {n : Nat} (h : n < 4611686018427387904) : IntKind.wrap .i64 ((n : Int) + 1) = ((n + 1 : Nat) : Int) := by rw [wrap_small] <;> omega

/-! ### few -/
theorem few_loop (g : List (List Int)) (hl : g.length ≤ 20) : ∀ (m n : Nat), m + n = g.length →
    loopW (codeW call mt md c7l0) [0, 3] [(0, gA g), (3, litI .i64 n)] [] = some (if (g.drop n).all (fun x => decide (x.length ≤ 40)) = true then (EX.exit 0, [(0, gA g), (3, litI .i64 g.length), (10, litB false)], []) else (.ret, [(2, litB false)], []))
  | 0, n, h => by
    have hn : n = g.length := by omega
    subst hn
    rw [if_pos (by simp)]
    refine loopW_out ?_ (by simp)
    simp -implicitDefEqProofs only [c7l0, codeW_seq, codeW_reg, codeW_cond, codeW_block, codeW_loop, codeW_skip, codeW_exit, codeW_ret, thenS_normal, thenS_if, thenS_ret, thenS_exit, thenS_pan, thenS_none, blockS_normal, blockS_exit, blockS_ret, blockS_pan, blockS_if, condS_some, ifS_true, ifS_false, opS_val, opS_new, opS_wr, opS_fz, opS_pan, bindO_some, runS_nil, runS_cons, runS_guard, gS_t, gS_f, gS_undef, asG_lit, asG_undef, core_mv, core_pick, core_alloc, core_load, core_store, core_clr, core_nilck, core_bin, core_binb, core_un, core_fadr, core_iadr, core_sli, core_len, core_lenS, core_idxS, core_app, core_mki, core_call, core_extV, core_fld, core_mks, wrO_some, valO_some, lenV_sl, lenV_own, bin_eql, bin_neq, bin_lss, bin_leq, bin_gtr, bin_geq, bin_add, bin_sub, bin_mul, unop_not, asBool_lit, pickV_lit, load_ip, iadr_sl, iadr_own, ev_s, ev_k, get_cons, get_nil, put_cons, put_nil, putD_some, putD_none, keep_cons, keep_nil, initFr, Nat.reduceEqDiff, Nat.reduceLT, Nat.reduceAdd, if_true, if_false, List.mem_cons, List.not_mem_nil, or_false, false_or, or_true, true_or, or_self, ↓reduceIte, Nat.zero_add, decide_false, decide_true, Nat.reduceBEq, beq_self_eq_true, BEq.rfl, Option.map_some, Option.map_none, List.head?_cons, List.map_cons, List.map_nil, List.append_nil, List.nil_append, List.cons_append, Bool.not_true, Bool.not_false, cond_true, cond_false, Int.natCast_nonneg, Int.toNat_natCast, Int.ofNat_toNat, core_bslice1, bsV_int, codeW_drawn, headS_cons, headS_nil, headS_guard, hS_val, hS_new, tailS_nil, tailS_cons, tailS_guard, tlS_val, tlS_new, tlS_wr, tlS_fz, tlS_pan, anyMk_cons, anyMk_nil, makes, binb_eql, binb_neq, List.isEmpty_nil, List.isEmpty_cons, Bool.or_false, Bool.false_or, Bool.or_true, Bool.true_or, pickV_t, pickV_f, core_inv, core_callS, fnV_func, core_tas, tasV_iface, nilck_ptr, extV_tup, fldV_agg, List.getElem?_cons_zero, List.getElem?_cons_succ, lenV_g, Int.lt_irrefl]
  | m + 1, n, h => by
    have hn : n < g.length := by omega
    have hg : g[n]? = some g[n] := List.getElem?_eq_getElem hn
    have hlt : (n : Int) < g.length := by omega
    have hd : g.drop n = g[n] :: g.drop (n + 1) := List.drop_eq_getElem_cons hn
    rw [hd, List.all_cons]
    by_cases h40 : g[n].length ≤ 40
    · have h4 : ¬ (40 : Int) < g[n].length := by omega
      rw [decide_eq_true h40, Bool.true_and]
      refine loopW_round ?_ (few_loop g hl m (n + 1) (by omega))
      simp -implicitDefEqProofs only [c7l0, codeW_seq, codeW_reg, codeW_cond, codeW_block, codeW_loop, codeW_skip, codeW_exit, codeW_ret, thenS_normal, thenS_if, thenS_ret, thenS_exit, thenS_pan, thenS_none, blockS_normal, blockS_exit, blockS_ret, blockS_pan, blockS_if, condS_some, ifS_true, ifS_false, opS_val, opS_new, opS_wr, opS_fz, opS_pan, bindO_some, runS_nil, runS_cons, runS_guard, gS_t, gS_f, gS_undef, asG_lit, asG_undef, core_mv, core_pick, core_alloc, core_load, core_store, core_clr, core_nilck, core_bin, core_binb, core_un, core_fadr, core_iadr, core_sli, core_len, core_lenS, core_idxS, core_app, core_mki, core_call, core_extV, core_fld, core_mks, wrO_some, valO_some, lenV_sl, lenV_own, bin_eql, bin_neq, bin_lss, bin_leq, bin_gtr, bin_geq, bin_add, bin_sub, bin_mul, unop_not, asBool_lit, pickV_lit, load_ip, iadr_sl, iadr_own, ev_s, ev_k, get_cons, get_nil, put_cons, put_nil, putD_some, putD_none, keep_cons, keep_nil, initFr, Nat.reduceEqDiff, Nat.reduceLT, Nat.reduceAdd, if_true, if_false, List.mem_cons, List.not_mem_nil, or_false, false_or, or_true, true_or, or_self, ↓reduceIte, Nat.zero_add, decide_false, decide_true, Nat.reduceBEq, beq_self_eq_true, BEq.rfl, Option.map_some, Option.map_none, List.head?_cons, List.map_cons, List.map_nil, List.append_nil, List.nil_append, List.cons_append, Bool.not_true, Bool.not_false, cond_true, cond_false, Int.natCast_nonneg, Int.toNat_natCast, Int.ofNat_toNat, core_bslice1, bsV_int, codeW_drawn, headS_cons, headS_nil, headS_guard, hS_val, hS_new, tailS_nil, tailS_cons, tailS_guard, tlS_val, tlS_new, tlS_wr, tlS_fz, tlS_pan, anyMk_cons, anyMk_nil, makes, binb_eql, binb_neq, List.isEmpty_nil, List.isEmpty_cons, Bool.or_false, Bool.false_or, Bool.or_true, Bool.true_or, pickV_t, pickV_f, core_inv, core_callS, fnV_func, core_tas, tasV_iface, nilck_ptr, extV_tup, fldV_agg, List.getElem?_cons_zero, List.getElem?_cons_succ, lenV_g, lenV_row, iadr_g, hg, hlt, h4, wrap1 (show n < 4611686018427387904 by omega)]
    · have h4 : (40 : Int) < g[n].length := by omega
      rw [decide_eq_false h40, Bool.false_and, if_neg (by simp)]
      refine loopW_out ?_ (by simp)
      simp -implicitDefEqProofs only [c7l0, codeW_seq, codeW_reg, codeW_cond, codeW_block, codeW_loop, codeW_skip, codeW_exit, codeW_ret, thenS_normal, thenS_if, thenS_ret, thenS_exit, thenS_pan, thenS_none, blockS_normal, blockS_exit, blockS_ret, blockS_pan, blockS_if, condS_some, ifS_true, ifS_false, opS_val, opS_new, opS_wr, opS_fz, opS_pan, bindO_some, runS_nil, runS_cons, runS_guard, gS_t, gS_f, gS_undef, asG_lit, asG_undef, core_mv, core_pick, core_alloc, core_load, core_store, core_clr, core_nilck, core_bin, core_binb, core_un, core_fadr, core_iadr, core_sli, core_len, core_lenS, core_idxS, core_app, core_mki, core_call, core_extV, core_fld, core_mks, wrO_some, valO_some, lenV_sl, lenV_own, bin_eql, bin_neq, bin_lss, bin_leq, bin_gtr, bin_geq, bin_add, bin_sub, bin_mul, unop_not, asBool_lit, pickV_lit, load_ip, iadr_sl, iadr_own, ev_s, ev_k, get_cons, get_nil, put_cons, put_nil, putD_some, putD_none, keep_cons, keep_nil, initFr, Nat.reduceEqDiff, Nat.reduceLT, Nat.reduceAdd, if_true, if_false, List.mem_cons, List.not_mem_nil, or_false, false_or, or_true, true_or, or_self, ↓reduceIte, Nat.zero_add, decide_false, decide_true, Nat.reduceBEq, beq_self_eq_true, BEq.rfl, Option.map_some, Option.map_none, List.head?_cons, List.map_cons, List.map_nil, List.append_nil, List.nil_append, List.cons_append, Bool.not_true, Bool.not_false, cond_true, cond_false, Int.natCast_nonneg, Int.toNat_natCast, Int.ofNat_toNat, core_bslice1, bsV_int, codeW_drawn, headS_cons, headS_nil, headS_guard, hS_val, hS_new, tailS_nil, tailS_cons, tailS_guard, tlS_val, tlS_new, tlS_wr, tlS_fz, tlS_pan, anyMk_cons, anyMk_nil, makes, binb_eql, binb_neq, List.isEmpty_nil, List.isEmpty_cons, Bool.or_false, Bool.false_or, Bool.or_true, Bool.true_or, pickV_t, pickV_f, core_inv, core_callS, fnV_func, core_tas, tasV_iface, nilck_ptr, extV_tup, fldV_agg, List.getElem?_cons_zero, List.getElem?_cons_succ, lenV_g, lenV_row, iadr_g, hg, hlt, h4]

/-- Is a graph small? -/
def fewG (g : List (List Int)) : Bool := decide (g.length ≤ 20) && g.all fun x => decide (x.length ≤ 40)

theorem few_tells (g : List (List Int)) : cw 7 [gA g] [] = some (.ret (litB (fewG g)), []) := by
  refine cw_of fn7 (c := c7) rfl rfl rfl rfl ?_
  by_cases hl : g.length ≤ 20
  · have h1 : ¬ (20 : Int) < g.length := by omega
    have L := few_loop (call := cw) (mt := lookM mtl) (md := mds) g hl g.length 0 (by omega)
    rw [List.drop_zero, show ((0 : Nat) : Int) = 0 from rfl] at L
    by_cases ha : g.all (fun x => decide (x.length ≤ 40)) = true
    · rw [if_pos ha] at L
      have hf : fewG g = true := by simp only [fewG, hl, ha, decide_true, Bool.and_self]
      rw [hf]
      simp -implicitDefEqProofs only [c7, codeW_seq, codeW_reg, codeW_cond, codeW_block, codeW_loop, codeW_skip, codeW_exit, codeW_ret, thenS_normal, thenS_if, thenS_ret, thenS_exit, thenS_pan, thenS_none, blockS_normal, blockS_exit, blockS_ret, blockS_pan, blockS_if, condS_some, ifS_true, ifS_false, opS_val, opS_new, opS_wr, opS_fz, opS_pan, bindO_some, runS_nil, runS_cons, runS_guard, gS_t, gS_f, gS_undef, asG_lit, asG_undef, core_mv, core_pick, core_alloc, core_load, core_store, core_clr, core_nilck, core_bin, core_binb, core_un, core_fadr, core_iadr, core_sli, core_len, core_lenS, core_idxS, core_app, core_mki, core_call, core_extV, core_fld, core_mks, wrO_some, valO_some, lenV_sl, lenV_own, bin_eql, bin_neq, bin_lss, bin_leq, bin_gtr, bin_geq, bin_add, bin_sub, bin_mul, unop_not, asBool_lit, pickV_lit, load_ip, iadr_sl, iadr_own, ev_s, ev_k, get_cons, get_nil, put_cons, put_nil, putD_some, putD_none, keep_cons, keep_nil, initFr, Nat.reduceEqDiff, Nat.reduceLT, Nat.reduceAdd, if_true, if_false, List.mem_cons, List.not_mem_nil, or_false, false_or, or_true, true_or, or_self, ↓reduceIte, Nat.zero_add, decide_false, decide_true, Nat.reduceBEq, beq_self_eq_true, BEq.rfl, Option.map_some, Option.map_none, List.head?_cons, List.map_cons, List.map_nil, List.append_nil, List.nil_append, List.cons_append, Bool.not_true, Bool.not_false, cond_true, cond_false, Int.natCast_nonneg, Int.toNat_natCast, Int.ofNat_toNat, core_bslice1, bsV_int, codeW_drawn, headS_cons, headS_nil, headS_guard, hS_val, hS_new, tailS_nil, tailS_cons, tailS_guard, tlS_val, tlS_new, tlS_wr, tlS_fz, tlS_pan, anyMk_cons, anyMk_nil, makes, binb_eql, binb_neq, List.isEmpty_nil, List.isEmpty_cons, Bool.or_false, Bool.false_or, Bool.or_true, Bool.true_or, pickV_t, pickV_f, core_inv, core_callS, fnV_func, core_tas, tasV_iface, nilck_ptr, extV_tup, fldV_agg, List.getElem?_cons_zero, List.getElem?_cons_succ, lenV_g, h1, L]
      rfl
    · rw [if_neg ha] at L
      have hf : fewG g = false := by simp only [fewG, Bool.eq_false_iff.mpr ha, Bool.and_false]
      rw [hf]
      simp -implicitDefEqProofs only [c7, codeW_seq, codeW_reg, codeW_cond, codeW_block, codeW_loop, codeW_skip, codeW_exit, codeW_ret, thenS_normal, thenS_if, thenS_ret, thenS_exit, thenS_pan, thenS_none, blockS_normal, blockS_exit, blockS_ret, blockS_pan, blockS_if, condS_some, ifS_true, ifS_false, opS_val, opS_new, opS_wr, opS_fz, opS_pan, bindO_some, runS_nil, runS_cons, runS_guard, gS_t, gS_f, gS_undef, asG_lit, asG_undef, core_mv, core_pick, core_alloc, core_load, core_store, core_clr, core_nilck, core_bin, core_binb, core_un, core_fadr, core_iadr, core_sli, core_len, core_lenS, core_idxS, core_app, core_mki, core_call, core_extV, core_fld, core_mks, wrO_some, valO_some, lenV_sl, lenV_own, bin_eql, bin_neq, bin_lss, bin_leq, bin_gtr, bin_geq, bin_add, bin_sub, bin_mul, unop_not, asBool_lit, pickV_lit, load_ip, iadr_sl, iadr_own, ev_s, ev_k, get_cons, get_nil, put_cons, put_nil, putD_some, putD_none, keep_cons, keep_nil, initFr, Nat.reduceEqDiff, Nat.reduceLT, Nat.reduceAdd, if_true, if_false, List.mem_cons, List.not_mem_nil, or_false, false_or, or_true, true_or, or_self, ↓reduceIte, Nat.zero_add, decide_false, decide_true, Nat.reduceBEq, beq_self_eq_true, BEq.rfl, Option.map_some, Option.map_none, List.head?_cons, List.map_cons, List.map_nil, List.append_nil, List.nil_append, List.cons_append, Bool.not_true, Bool.not_false, cond_true, cond_false, Int.natCast_nonneg, Int.toNat_natCast, Int.ofNat_toNat, core_bslice1, bsV_int, codeW_drawn, headS_cons, headS_nil, headS_guard, hS_val, hS_new, tailS_nil, tailS_cons, tailS_guard, tlS_val, tlS_new, tlS_wr, tlS_fz, tlS_pan, anyMk_cons, anyMk_nil, makes, binb_eql, binb_neq, List.isEmpty_nil, List.isEmpty_cons, Bool.or_false, Bool.false_or, Bool.or_true, Bool.true_or, pickV_t, pickV_f, core_inv, core_callS, fnV_func, core_tas, tasV_iface, nilck_ptr, extV_tup, fldV_agg, List.getElem?_cons_zero, List.getElem?_cons_succ, lenV_g, h1, L]
      rfl
  · have h1 : (20 : Int) < g.length := by omega
    have hf : fewG g = false := by simp only [fewG, hl, decide_false, Bool.false_and]
    rw [hf]
    simp -implicitDefEqProofs only [c7, codeW_seq, codeW_reg, codeW_cond, codeW_block, codeW_loop, codeW_skip, codeW_exit, codeW_ret, thenS_normal, thenS_if, thenS_ret, thenS_exit, thenS_pan, thenS_none, blockS_normal, blockS_exit, blockS_ret, blockS_pan, blockS_if, condS_some, ifS_true, ifS_false, opS_val, opS_new, opS_wr, opS_fz, opS_pan, bindO_some, runS_nil, runS_cons, runS_guard, gS_t, gS_f, gS_undef, asG_lit, asG_undef, core_mv, core_pick, core_alloc, core_load, core_store, core_clr, core_nilck, core_bin, core_binb, core_un, core_fadr, core_iadr, core_sli, core_len, core_lenS, core_idxS, core_app, core_mki, core_call, core_extV, core_fld, core_mks, wrO_some, valO_some, lenV_sl, lenV_own, bin_eql, bin_neq, bin_lss, bin_leq, bin_gtr, bin_geq, bin_add, bin_sub, bin_mul, unop_not, asBool_lit, pickV_lit, load_ip, iadr_sl, iadr_own, ev_s, ev_k, get_cons, get_nil, put_cons, put_nil, putD_some, putD_none, keep_cons, keep_nil, initFr, Nat.reduceEqDiff, Nat.reduceLT, Nat.reduceAdd, if_true, if_false, List.mem_cons, List.not_mem_nil, or_false, false_or, or_true, true_or, or_self, ↓reduceIte, Nat.zero_add, decide_false, decide_true, Nat.reduceBEq, beq_self_eq_true, BEq.rfl, Option.map_some, Option.map_none, List.head?_cons, List.map_cons, List.map_nil, List.append_nil, List.nil_append, List.cons_append, Bool.not_true, Bool.not_false, cond_true, cond_false, Int.natCast_nonneg, Int.toNat_natCast, Int.ofNat_toNat, core_bslice1, bsV_int, codeW_drawn, headS_cons, headS_nil, headS_guard, hS_val, hS_new, tailS_nil, tailS_cons, tailS_guard, tlS_val, tlS_new, tlS_wr, tlS_fz, tlS_pan, anyMk_cons, anyMk_nil, makes, binb_eql, binb_neq, List.isEmpty_nil, List.isEmpty_cons, Bool.or_false, Bool.false_or, Bool.or_true, Bool.true_or, pickV_t, pickV_f, core_inv, core_callS, fnV_func, core_tas, tasV_iface, nilck_ptr, extV_tup, fldV_agg, List.getElem?_cons_zero, List.getElem?_cons_succ, lenV_g, h1]
    rfl
theorem few_call (g : List (List Int)) (H : List AO) (id : Nat) : callV cw mds 7 [gA g] H id = some (.val (litB (fewG g)) none) := callV_pure rfl rfl (few_tells g) rfl

/-! ### needs -/
theorem pick_undef (b : AV) : pickV false (.lit undef) b = b := by cases b <;> rfl
def inG (g : List (List Int)) (k : Int) : Bool := decide (0 ≤ k) && decide (k < g.length)

theorem needs_loop (g : List (List Int)) (row : List Int) (hl : row.length ≤ 1000) : ∀ (m n : Nat) (out : List Int), m + n = row.length → out.length ≤ n →
    loopW (codeW call mt md c13l0) [0, 5, 11, 12, 13] [(0, gA g), (5, outA out), (11, rowA row), (12, litI .i64 row.length), (13, litI .i64 n)] (outH 3 out) =
      some (EX.exit 0, [(0, gA g), (5, outA (out ++ (row.drop n).filter (inG g))), (11, rowA row), (12, litI .i64 row.length), (13, litI .i64 row.length), (14, litB false)], outH 3 (out ++ (row.drop n).filter (inG g)))
  | 0, n, out, h, ho => by
    have hn : n = row.length := by omega
    subst hn
    refine loopW_out ?_ (by simp)
    simp -implicitDefEqProofs only [c13l0, codeW_seq, codeW_reg, codeW_cond, codeW_block, codeW_loop, codeW_skip, codeW_exit, codeW_ret, thenS_normal, thenS_if, thenS_ret, thenS_exit, thenS_pan, thenS_none, blockS_normal, blockS_exit, blockS_ret, blockS_pan, blockS_if, condS_some, ifS_true, ifS_false, opS_val, opS_new, opS_wr, opS_fz, opS_pan, bindO_some, runS_nil, runS_cons, runS_guard, gS_t, gS_f, gS_undef, asG_lit, asG_undef, core_mv, core_pick, core_alloc, core_load, core_store, core_clr, core_nilck, core_bin, core_binb, core_un, core_fadr, core_iadr, core_sli, core_len, core_lenS, core_idxS, core_app, core_mki, core_call, core_extV, core_fld, core_mks, wrO_some, valO_some, lenV_sl, lenV_own, bin_eql, bin_neq, bin_lss, bin_leq, bin_gtr, bin_geq, bin_add, bin_sub, bin_mul, unop_not, asBool_lit, pickV_lit, load_ip, iadr_sl, iadr_own, ev_s, ev_k, get_cons, get_nil, put_cons, put_nil, putD_some, putD_none, keep_cons, keep_nil, initFr, Nat.reduceEqDiff, Nat.reduceLT, Nat.reduceAdd, if_true, if_false, List.mem_cons, List.not_mem_nil, or_false, false_or, or_true, true_or, or_self, ↓reduceIte, Nat.zero_add, decide_false, decide_true, Nat.reduceBEq, beq_self_eq_true, BEq.rfl, Option.map_some, Option.map_none, List.head?_cons, List.map_cons, List.map_nil, List.append_nil, List.nil_append, List.cons_append, Bool.not_true, Bool.not_false, cond_true, cond_false, Int.natCast_nonneg, Int.toNat_natCast, Int.ofNat_toNat, core_bslice1, bsV_int, codeW_drawn, headS_cons, headS_nil, headS_guard, hS_val, hS_new, tailS_nil, tailS_cons, tailS_guard, tlS_val, tlS_new, tlS_wr, tlS_fz, tlS_pan, anyMk_cons, anyMk_nil, makes, binb_eql, binb_neq, List.isEmpty_nil, List.isEmpty_cons, Bool.or_false, Bool.false_or, Bool.or_true, Bool.true_or, pickV_t, pickV_f, core_inv, core_callS, fnV_func, core_tas, tasV_iface, nilck_ptr, extV_tup, fldV_agg, List.getElem?_cons_zero, List.getElem?_cons_succ, Int.lt_irrefl, List.drop_length, List.filter_nil]
  | m + 1, n, out, h, ho => by
    have hn : n < row.length := by omega
    have hg : row[n]? = some row[n] := List.getElem?_eq_getElem hn
    have hlt : (n : Int) < row.length := by omega
    have hd : row.drop n = row[n] :: row.drop (n + 1) := List.drop_eq_getElem_cons hn
    have hw := wrap1 (show n < 4611686018427387904 by omega)
    rw [hd, List.filter_cons]
    by_cases h0 : 0 ≤ row[n]
    · by_cases h1 : row[n] < g.length
      · have hi : inG g row[n] = true := by simp [inG, h0, h1]
        rw [if_pos hi]
        have ih := needs_loop g row hl m (n + 1) (out ++ [row[n]]) (by omega) (by simp; omega)
        rw [List.append_assoc, List.singleton_append] at ih
        refine loopW_round ?_ ih
        simp -implicitDefEqProofs only [c13l0, codeW_seq, codeW_reg, codeW_cond, codeW_block, codeW_loop, codeW_skip, codeW_exit, codeW_ret, thenS_normal, thenS_if, thenS_ret, thenS_exit, thenS_pan, thenS_none, blockS_normal, blockS_exit, blockS_ret, blockS_pan, blockS_if, condS_some, ifS_true, ifS_false, opS_val, opS_new, opS_wr, opS_fz, opS_pan, bindO_some, runS_nil, runS_cons, runS_guard, gS_t, gS_f, gS_undef, asG_lit, asG_undef, core_mv, core_pick, core_alloc, core_load, core_store, core_clr, core_nilck, core_bin, core_binb, core_un, core_fadr, core_iadr, core_sli, core_len, core_lenS, core_idxS, core_app, core_mki, core_call, core_extV, core_fld, core_mks, wrO_some, valO_some, lenV_sl, lenV_own, bin_eql, bin_neq, bin_lss, bin_leq, bin_gtr, bin_geq, bin_add, bin_sub, bin_mul, unop_not, asBool_lit, pickV_lit, load_ip, iadr_sl, iadr_own, ev_s, ev_k, get_cons, get_nil, put_cons, put_nil, putD_some, putD_none, keep_cons, keep_nil, initFr, Nat.reduceEqDiff, Nat.reduceLT, Nat.reduceAdd, if_true, if_false, List.mem_cons, List.not_mem_nil, or_false, false_or, or_true, true_or, or_self, ↓reduceIte, Nat.zero_add, decide_false, decide_true, Nat.reduceBEq, beq_self_eq_true, BEq.rfl, Option.map_some, Option.map_none, List.head?_cons, List.map_cons, List.map_nil, List.append_nil, List.nil_append, List.cons_append, Bool.not_true, Bool.not_false, cond_true, cond_false, Int.natCast_nonneg, Int.toNat_natCast, Int.ofNat_toNat, core_bslice1, bsV_int, codeW_drawn, headS_cons, headS_nil, headS_guard, hS_val, hS_new, tailS_nil, tailS_cons, tailS_guard, tlS_val, tlS_new, tlS_wr, tlS_fz, tlS_pan, anyMk_cons, anyMk_nil, makes, binb_eql, binb_neq, List.isEmpty_nil, List.isEmpty_cons, Bool.or_false, Bool.false_or, Bool.or_true, Bool.true_or, pickV_t, pickV_f, core_inv, core_callS, fnV_func, core_tas, tasV_iface, nilck_ptr, extV_tup, fldV_agg, List.getElem?_cons_zero, List.getElem?_cons_succ, hlt, iadr_row, hg, h0, h1, lenV_g,  append_out (show out.length < 1099511627776 by omega), hw]
      · have hi : inG g row[n] = false := by simp [inG, h0, h1]
        rw [if_neg (by rw [hi]; simp)]
        refine loopW_round ?_ (needs_loop g row hl m (n + 1) out (by omega) (by omega))
        simp -implicitDefEqProofs only [c13l0, codeW_seq, codeW_reg, codeW_cond, codeW_block, codeW_loop, codeW_skip, codeW_exit, codeW_ret, thenS_normal, thenS_if, thenS_ret, thenS_exit, thenS_pan, thenS_none, blockS_normal, blockS_exit, blockS_ret, blockS_pan, blockS_if, condS_some, ifS_true, ifS_false, opS_val, opS_new, opS_wr, opS_fz, opS_pan, bindO_some, runS_nil, runS_cons, runS_guard, gS_t, gS_f, gS_undef, asG_lit, asG_undef, core_mv, core_pick, core_alloc, core_load, core_store, core_clr, core_nilck, core_bin, core_binb, core_un, core_fadr, core_iadr, core_sli, core_len, core_lenS, core_idxS, core_app, core_mki, core_call, core_extV, core_fld, core_mks, wrO_some, valO_some, lenV_sl, lenV_own, bin_eql, bin_neq, bin_lss, bin_leq, bin_gtr, bin_geq, bin_add, bin_sub, bin_mul, unop_not, asBool_lit, pickV_lit, load_ip, iadr_sl, iadr_own, ev_s, ev_k, get_cons, get_nil, put_cons, put_nil, putD_some, putD_none, keep_cons, keep_nil, initFr, Nat.reduceEqDiff, Nat.reduceLT, Nat.reduceAdd, if_true, if_false, List.mem_cons, List.not_mem_nil, or_false, false_or, or_true, true_or, or_self, ↓reduceIte, Nat.zero_add, decide_false, decide_true, Nat.reduceBEq, beq_self_eq_true, BEq.rfl, Option.map_some, Option.map_none, List.head?_cons, List.map_cons, List.map_nil, List.append_nil, List.nil_append, List.cons_append, Bool.not_true, Bool.not_false, cond_true, cond_false, Int.natCast_nonneg, Int.toNat_natCast, Int.ofNat_toNat, core_bslice1, bsV_int, codeW_drawn, headS_cons, headS_nil, headS_guard, hS_val, hS_new, tailS_nil, tailS_cons, tailS_guard, tlS_val, tlS_new, tlS_wr, tlS_fz, tlS_pan, anyMk_cons, anyMk_nil, makes, binb_eql, binb_neq, List.isEmpty_nil, List.isEmpty_cons, Bool.or_false, Bool.false_or, Bool.or_true, Bool.true_or, pickV_t, pickV_f, core_inv, core_callS, fnV_func, core_tas, tasV_iface, nilck_ptr, extV_tup, fldV_agg, List.getElem?_cons_zero, List.getElem?_cons_succ, hlt, iadr_row, hg, h0, h1, lenV_g, hw]
    · have hi : inG g row[n] = false := by simp [inG, h0]
      rw [if_neg (by rw [hi]; simp)]
      refine loopW_round ?_ (needs_loop g row hl m (n + 1) out (by omega) (by omega))
      simp -implicitDefEqProofs only [c13l0, codeW_seq, codeW_reg, codeW_cond, codeW_block, codeW_loop, codeW_skip, codeW_exit, codeW_ret, thenS_normal, thenS_if, thenS_ret, thenS_exit, thenS_pan, thenS_none, blockS_normal, blockS_exit, blockS_ret, blockS_pan, blockS_if, condS_some, ifS_true, ifS_false, opS_val, opS_new, opS_wr, opS_fz, opS_pan, bindO_some, runS_nil, runS_cons, runS_guard, gS_t, gS_f, gS_undef, asG_lit, asG_undef, core_mv, core_pick, core_alloc, core_load, core_store, core_clr, core_nilck, core_bin, core_binb, core_un, core_fadr, core_iadr, core_sli, core_len, core_lenS, core_idxS, core_app, core_mki, core_call, core_extV, core_fld, core_mks, wrO_some, valO_some, lenV_sl, lenV_own, bin_eql, bin_neq, bin_lss, bin_leq, bin_gtr, bin_geq, bin_add, bin_sub, bin_mul, unop_not, asBool_lit, pickV_lit, load_ip, iadr_sl, iadr_own, ev_s, ev_k, get_cons, get_nil, put_cons, put_nil, putD_some, putD_none, keep_cons, keep_nil, initFr, Nat.reduceEqDiff, Nat.reduceLT, Nat.reduceAdd, if_true, if_false, List.mem_cons, List.not_mem_nil, or_false, false_or, or_true, true_or, or_self, ↓reduceIte, Nat.zero_add, decide_false, decide_true, Nat.reduceBEq, beq_self_eq_true, BEq.rfl, Option.map_some, Option.map_none, List.head?_cons, List.map_cons, List.map_nil, List.append_nil, List.nil_append, List.cons_append, Bool.not_true, Bool.not_false, cond_true, cond_false, Int.natCast_nonneg, Int.toNat_natCast, Int.ofNat_toNat, core_bslice1, bsV_int, codeW_drawn, headS_cons, headS_nil, headS_guard, hS_val, hS_new, tailS_nil, tailS_cons, tailS_guard, tlS_val, tlS_new, tlS_wr, tlS_fz, tlS_pan, anyMk_cons, anyMk_nil, makes, binb_eql, binb_neq, List.isEmpty_nil, List.isEmpty_cons, Bool.or_false, Bool.false_or, Bool.or_true, Bool.true_or, pickV_t, pickV_f, core_inv, core_callS, fnV_func, core_tas, tasV_iface, nilck_ptr, extV_tup, fldV_agg, List.getElem?_cons_zero, List.getElem?_cons_succ, hlt, iadr_row, hg, h0, lenV_g, hw]

/-- What a place needs, rising, each once. -/
def needG (g : List (List Int)) (row : List Int) : List Int := compI' (sortI (row.filter (inG g)))

theorem all_below_lits (n k : Nat) (l : List Int) : (cellsI l).all (below n (k + 1)) = true := below_lits fun a ha => by
  obtain ⟨x, _, rfl⟩ := List.mem_map.1 ha
  exact ⟨_, rfl⟩

theorem needs_tells (g : List (List Int)) (i : Nat) (row : List Int) (hi : g[i]? = some row) (hl : row.length ≤ 1000) :
    cw 13 [gA g, litI .i64 i] [] = some (.ret (match row.filter (inG g) with | [] => .sl 0 [] (some 0) | x :: l => .own l.length 0 (needG g row).length 1 none),
      match row.filter (inG g) with | [] => [] | x :: l => List.replicate l.length .dead ++ [.row (cellsI (needG g row ++ List.replicate ((x :: l).length - (needG g row).length) 0)) 3]) := by
  have L := needs_loop (call := cw) (mt := lookM mtl) (md := mds) g row hl row.length 0 [] (by omega) (by simp)
  rw [List.drop_zero, List.nil_append, show ((0 : Nat) : Int) = 0 from rfl] at L
  have e0 : outA [] = .sl 0 [] (some 0) := rfl
  have e1 : outH 3 [] = [] := rfl
  rw [e0, e1] at L
  refine cw_of fn13 (c := c13) rfl rfl rfl rfl ?_
  unfold needG
  have hfl : (row.filter (inG g)).length ≤ 1000 := Nat.le_trans (List.length_filter_le _ _) hl
  generalize row.filter (inG g) = f at L hfl ⊢
  cases f with
  | nil =>
    have c19 : ∀ id, callV cw mds 19 [outA []] (outH 3 []) id = some (.wr (.tup []) []) := fun id => callV_ref rfl (cw_ov rfl rfl) rfl
    have c20 : ∀ id, callV cw mds 20 [outA []] [] id = some (.wr (.sl 0 [] (some 0)) []) := fun id => callV_ref rfl (cw_ov rfl rfl) rfl
    simp -implicitDefEqProofs only [c13, codeW_seq, codeW_reg, codeW_cond, codeW_block, codeW_loop, codeW_skip, codeW_exit, codeW_ret, thenS_normal, thenS_if, thenS_ret, thenS_exit, thenS_pan, thenS_none, blockS_normal, blockS_exit, blockS_ret, blockS_pan, blockS_if, condS_some, ifS_true, ifS_false, opS_val, opS_new, opS_wr, opS_fz, opS_pan, bindO_some, runS_nil, runS_cons, runS_guard, gS_t, gS_f, gS_undef, asG_lit, asG_undef, core_mv, core_pick, core_alloc, core_load, core_store, core_clr, core_nilck, core_bin, core_binb, core_un, core_fadr, core_iadr, core_sli, core_len, core_lenS, core_idxS, core_app, core_mki, core_call, core_extV, core_fld, core_mks, wrO_some, valO_some, lenV_sl, lenV_own, bin_eql, bin_neq, bin_lss, bin_leq, bin_gtr, bin_geq, bin_add, bin_sub, bin_mul, unop_not, asBool_lit, pickV_lit, load_ip, iadr_sl, iadr_own, ev_s, ev_k, get_cons, get_nil, put_cons, put_nil, putD_some, putD_none, keep_cons, keep_nil, initFr, Nat.reduceEqDiff, Nat.reduceLT, Nat.reduceAdd, if_true, if_false, List.mem_cons, List.not_mem_nil, or_false, false_or, or_true, true_or, or_self, ↓reduceIte, Nat.zero_add, decide_false, decide_true, Nat.reduceBEq, beq_self_eq_true, BEq.rfl, Option.map_some, Option.map_none, List.head?_cons, List.map_cons, List.map_nil, List.append_nil, List.nil_append, List.cons_append, Bool.not_true, Bool.not_false, cond_true, cond_false, Int.natCast_nonneg, Int.toNat_natCast, Int.ofNat_toNat, core_bslice1, bsV_int, codeW_drawn, headS_cons, headS_nil, headS_guard, hS_val, hS_new, tailS_nil, tailS_cons, tailS_guard, tlS_val, tlS_new, tlS_wr, tlS_fz, tlS_pan, anyMk_cons, anyMk_nil, makes, binb_eql, binb_neq, List.isEmpty_nil, List.isEmpty_cons, Bool.or_false, Bool.false_or, Bool.or_true, Bool.true_or, pickV_t, pickV_f, core_inv, core_callS, fnV_func, core_tas, tasV_iface, nilck_ptr, extV_tup, fldV_agg, List.getElem?_cons_zero, List.getElem?_cons_succ, iadr_g, hi, lenV_row, L, c19, c20]
    rfl
  | cons x l =>
    have hne : (x :: l) ≠ [] := by simp
    have hr : (outH 3 (x :: l))[l.length]? = some (.row ([] ++ cellsI (x :: l) ++ []) 3) := by rw [outH_get]; simp
    have s1 := sortG_row (cap := none) hr rfl hne (by simp at hfl ⊢; omega)
    have hs : (sortI (x :: l)).length = (x :: l).length := sortI_len _
    have hH1 : setL (outH 3 (x :: l)) l.length (.row ([] ++ cellsI (sortI (x :: l)) ++ []) 3) = List.replicate l.length .dead ++ [.row (cellsI (sortI (x :: l))) 3] := by
      simp only [setL, outH, List.nil_append, List.append_nil]
      rw [List.set_append_right _ _ (by simp)]
      simp
    rw [hH1] at s1
    have c19 : ∀ id, callV cw mds 19 [outA (x :: l)] (outH 3 (x :: l)) id = some (.wr (.tup []) (List.replicate l.length .dead ++ [.row (cellsI (sortI (x :: l))) 3])) := by
      intro id
      have := callV_ref (md := mds) (id := id) (f := 19) rfl (cw_ov rfl s1) (by
        rw [outH_len, List.take_of_length_le (by simp)]
        simp only [Bool.and_eq_true, List.all_append, List.all_cons, List.all_nil, Bool.and_true]
        refine ⟨rfl, ?_, all_below_lits _ 15 _⟩
        rw [List.all_eq_true]
        intro a ha
        rw [List.eq_of_mem_replicate ha]; rfl)
      rw [outH_len, List.take_of_length_le (by simp)] at this
      exact this
    have hr2 : (List.replicate l.length AO.dead ++ [.row (cellsI (sortI (x :: l))) 3])[l.length]? = some (.row ([] ++ cellsI (sortI (x :: l)) ++ []) 3) := by simp
    have hne2 : sortI (x :: l) ≠ [] := by intro e; rw [e] at hs; simp at hs
    have s2 := compactG_row (cap := none) hr2 rfl hne2 (by rw [hs]; simp at hfl ⊢; omega)
    have hH2 : ∀ o, setL (List.replicate l.length AO.dead ++ [.row (cellsI (sortI (x :: l))) 3]) l.length o = List.replicate l.length .dead ++ [o] := by
      intro o
      simp only [setL]
      rw [List.set_append_right _ _ (by simp)]
      simp
    rw [hH2, hs] at s2
    simp only [List.nil_append, List.append_nil] at s2
    have c20 : ∀ id, callV cw mds 20 [outA (x :: l)] (List.replicate l.length .dead ++ [.row (cellsI (sortI (x :: l))) 3]) id = some (.wr (.own l.length 0 (compI' (sortI (x :: l))).length 1 none) (List.replicate l.length .dead ++ [.row (cellsI (compI' (sortI (x :: l)) ++ List.replicate ((x :: l).length - (compI' (sortI (x :: l))).length) 0)) 3])) := by
      intro id
      have := callV_ref (md := mds) (id := id) (f := 20) rfl (cw_ov rfl s2) (by
        simp only [List.length_append, List.length_replicate, List.length_cons, List.length_nil]
        rw [List.take_of_length_le (by simp)]
        simp only [Bool.and_eq_true, List.all_append, List.all_cons, List.all_nil, Bool.and_true]
        refine ⟨?_, ?_, all_below_lits _ 15 _⟩
        · show Nat.blt l.length _ = true
          rw [Nat.blt_eq]; omega
        · rw [List.all_eq_true]
          intro a ha
          rw [List.eq_of_mem_replicate ha]; rfl)
      simp only [List.length_append, List.length_replicate, List.length_cons, List.length_nil] at this
      rw [List.take_of_length_le (by simp)] at this
      exact this
    simp -implicitDefEqProofs only [c13, codeW_seq, codeW_reg, codeW_cond, codeW_block, codeW_loop, codeW_skip, codeW_exit, codeW_ret, thenS_normal, thenS_if, thenS_ret, thenS_exit, thenS_pan, thenS_none, blockS_normal, blockS_exit, blockS_ret, blockS_pan, blockS_if, condS_some, ifS_true, ifS_false, opS_val, opS_new, opS_wr, opS_fz, opS_pan, bindO_some, runS_nil, runS_cons, runS_guard, gS_t, gS_f, gS_undef, asG_lit, asG_undef, core_mv, core_pick, core_alloc, core_load, core_store, core_clr, core_nilck, core_bin, core_binb, core_un, core_fadr, core_iadr, core_sli, core_len, core_lenS, core_idxS, core_app, core_mki, core_call, core_extV, core_fld, core_mks, wrO_some, valO_some, lenV_sl, lenV_own, bin_eql, bin_neq, bin_lss, bin_leq, bin_gtr, bin_geq, bin_add, bin_sub, bin_mul, unop_not, asBool_lit, pickV_lit, load_ip, iadr_sl, iadr_own, ev_s, ev_k, get_cons, get_nil, put_cons, put_nil, putD_some, putD_none, keep_cons, keep_nil, initFr, Nat.reduceEqDiff, Nat.reduceLT, Nat.reduceAdd, if_true, if_false, List.mem_cons, List.not_mem_nil, or_false, false_or, or_true, true_or, or_self, ↓reduceIte, Nat.zero_add, decide_false, decide_true, Nat.reduceBEq, beq_self_eq_true, BEq.rfl, Option.map_some, Option.map_none, List.head?_cons, List.map_cons, List.map_nil, List.append_nil, List.nil_append, List.cons_append, Bool.not_true, Bool.not_false, cond_true, cond_false, Int.natCast_nonneg, Int.toNat_natCast, Int.ofNat_toNat, core_bslice1, bsV_int, codeW_drawn, headS_cons, headS_nil, headS_guard, hS_val, hS_new, tailS_nil, tailS_cons, tailS_guard, tlS_val, tlS_new, tlS_wr, tlS_fz, tlS_pan, anyMk_cons, anyMk_nil, makes, binb_eql, binb_neq, List.isEmpty_nil, List.isEmpty_cons, Bool.or_false, Bool.false_or, Bool.or_true, Bool.true_or, pickV_t, pickV_f, core_inv, core_callS, fnV_func, core_tas, tasV_iface, nilck_ptr, extV_tup, fldV_agg, List.getElem?_cons_zero, List.getElem?_cons_succ, iadr_g, hi, lenV_row, L, c19, c20]
    rfl

theorem needG_nil {g : List (List Int)} {row : List Int} (h : row.filter (inG g) = []) : needG g row = [] := by unfold needG; rw [h]; rfl
theorem needG_ne {g : List (List Int)} {row : List Int} (h : row.filter (inG g) ≠ []) : needG g row ≠ [] := by
  unfold needG
  exact compI_ne _ (fun e => h (by have := sortI_len (row.filter (inG g)); rw [e] at this; exact List.eq_nil_of_length_eq_zero this.symm))

/-- needs, called where its slice stays an object. -/
theorem needs_call0 (g : List (List Int)) (i : Nat) (row : List Int) (hi : g[i]? = some row) (hl : row.length ≤ 1000) (H : List AO) (id : Nat) (h : needG g row = []) :
    callV cw mds 13 [gA g, litI .i64 i] H id = some (.val (.sl 0 [] (some 0)) none) := by
  have hf : row.filter (inG g) = [] := by
    cases hf : row.filter (inG g) with
    | nil => rfl
    | cons x l => exact absurd h (needG_ne (by rw [hf]; simp))
  have := needs_tells g i row hi hl
  rw [hf] at this
  exact callV_ownP rfl rfl this rfl
theorem needs_call1 (g : List (List Int)) (i : Nat) (row : List Int) (hi : g[i]? = some row) (hl : row.length ≤ 1000) (H : List AO) (id : Nat) (h : needG g row ≠ []) :
    ∃ z, callV cw mds 13 [gA g, litI .i64 i] H id = some (.val (.own id 0 (needG g row).length 1 none) (some (.row (cellsI (needG g row) ++ z) 3))) := by
  have := needs_tells g i row hi hl
  cases hf : row.filter (inG g) with
  | nil => exact absurd (needG_nil hf) h
  | cons x l =>
    rw [hf] at this
    simp only at this
    refine ⟨cellsI (List.replicate ((x :: l).length - (needG g row).length) 0), ?_⟩
    have e : cellsI (needG g row ++ List.replicate ((x :: l).length - (needG g row).length) 0) = cellsI (needG g row) ++ cellsI (List.replicate ((x :: l).length - (needG g row).length) 0) := by simp [cellsI]
    rw [e] at this
    refine callV_own rfl rfl this (by simp) ?_
    rw [List.all_eq_true]
    intro a ha
    rw [← e] at ha
    obtain ⟨y, _, rfl⟩ := List.mem_map.1 ha
    rfl
end Go.Proofs.Ytoemnjclhheeoaa.Ai

namespace Go.Proofs.Ytoemnjclhheeoaa.Ai
open Go Go.Ai
set_option linter.unusedSimpArgs false
set_option linter.unusedVariables false

theorem mem_insI (x y : Int) (l : List Int) : y ∈ insI x l ↔ y = x ∨ y ∈ l := by
  rw [(insI_perm x l).mem_iff, List.mem_cons]
theorem mem_sortI (y : Int) (l : List Int) : y ∈ sortI l ↔ y ∈ l := (sortI_perm l).mem_iff
theorem mem_compI (z : Int) : ∀ l : List Int, z ∈ compI' l ↔ z ∈ l
  | [] => Iff.rfl
  | [x] => Iff.rfl
  | x :: y :: r => by
    have ih := mem_compI z (y :: r)
    simp only [compI']
    by_cases h : x = y
    · subst h
      rw [beq_self_eq_true, cond_true, ih]
      simp
    · have : (x == y) = false := by simpa using h
      rw [this, cond_false, List.mem_cons, ih, List.mem_cons (a := z) (b := x)]

/-- What place k needs. -/
def need (g : List (List Int)) (k : Nat) : List Int := match g[k]? with
  | some row => needG g row
  | none => []
theorem mem_need {g : List (List Int)} {k : Nat} {row : List Int} (h : g[k]? = some row) (z : Int) : z ∈ need g k ↔ z ∈ row ∧ 0 ≤ z ∧ z < g.length := by
  unfold need
  rw [h]
  unfold needG
  simp only [mem_compI, mem_sortI, List.mem_filter, inG, Bool.and_eq_true, decide_eq_true_eq]
theorem need_len {g : List (List Int)} {k : Nat} {row : List Int} (h : g[k]? = some row) : (need g k).length ≤ row.length := by
  unfold need
  rw [h]
  unfold needG
  refine Nat.le_trans (compI_len _) ?_
  rw [sortI_len]
  exact List.length_filter_le _ _

/-- The search, by the stack. -/
def dfs (g : List (List Int)) : Nat → List Bool → List Int → List Bool
  | 0, out, _ => out
  | m + 1, out, stk => match stk.getLast? with
    | none => out
    | some k => match out[k.toNat]? with
      | some false => dfs g m (out.set k.toNat true) (stk.dropLast ++ need g k.toNat)
      | _ => dfs g m out stk.dropLast

/-- How much is left. -/
def left (out : List Bool) (stk : List Int) : Nat := 41 * out.count false + stk.length

theorem left_mark {g : List (List Int)} {out : List Bool} {stk : List Int} {k : Int} (h : stk.getLast? = some k) (hk : out[k.toNat]? = some false) (hn : (need g k.toNat).length ≤ 40) :
    left (out.set k.toNat true) (stk.dropLast ++ need g k.toNat) < left out stk := by
  have h1 := count_set hk
  have h2 : stk.length = stk.dropLast.length + 1 := by
    cases stk with
    | nil => cases h
    | cons x l => simp
  unfold left
  rw [List.length_append]
  omega
theorem left_pop {out : List Bool} {stk : List Int} {k : Int} (h : stk.getLast? = some k) : left out stk.dropLast < left out stk := by
  have h2 : stk.length = stk.dropLast.length + 1 := by
    cases stk with
    | nil => cases h
    | cons x l => simp
  unfold left
  omega

/-- A road of one step or more. -/
inductive Road (g : List (List Int)) : Nat → Nat → Prop
  | one {i k : Nat} (h : (k : Int) ∈ need g i) : Road g i k
  | more {i j k : Nat} (h : (j : Int) ∈ need g i) (r : Road g j k) : Road g i k

theorem Road.snoc {g : List (List Int)} {i j k : Nat} (r : Road g i j) (h : (k : Int) ∈ need g j) : Road g i k := by
  induction r with
  | one h1 => exact .more h1 (.one h)
  | more h1 _ ih => exact .more h1 (ih h)

structure DfsOk (g : List (List Int)) (out : List Bool) (stk : List Int) (out' : List Bool) : Prop where
  len : out'.length = out.length
  old : ∀ k : Nat, out[k]? = some true → out'[k]? = some true
  st : ∀ k ∈ stk, out'[k.toNat]? = some true
  closed : ∀ k : Nat, out'[k]? = some true → out[k]? = some false → ∀ z ∈ need g k, out'[z.toNat]? = some true
  sound : ∀ k : Nat, out'[k]? = some true → out[k]? = some false → (k : Int) ∈ stk ∨ ∃ j : Nat, (j : Int) ∈ stk ∧ Road g j k

theorem dfs_ok {g : List (List Int)} (hr : ∀ k z, z ∈ need g k → 0 ≤ z ∧ z < g.length) (hn : ∀ k, (need g k).length ≤ 40) : ∀ (m : Nat) (out : List Bool) (stk : List Int), left out stk ≤ m → out.length = g.length → (∀ k ∈ stk, 0 ≤ k ∧ k < g.length) → DfsOk g out stk (dfs g m out stk)
  | 0, out, stk, hm, hl, hs => by
    have : stk = [] := List.eq_nil_of_length_eq_zero (by unfold left at hm; omega)
    subst this
    exact ⟨rfl, fun _ h => h, by simp, fun k h1 h2 => (by simp only [dfs] at h1; rw [h1] at h2; cases h2), fun k h1 h2 => (by simp only [dfs] at h1; rw [h1] at h2; cases h2)⟩
  | m + 1, out, stk, hm, hl, hs => by
    cases hg : stk.getLast? with
    | none =>
      have : stk = [] := by simpa using hg
      subst this
      simp only [dfs, hg]
      exact ⟨rfl, fun _ h => h, by simp, fun k h1 h2 => (by rw [h1] at h2; cases h2), fun k h1 h2 => (by rw [h1] at h2; cases h2)⟩
    | some k =>
      have hsplit : stk = stk.dropLast ++ [k] := by
        have hne : stk ≠ [] := by intro e; subst e; cases hg
        have := List.dropLast_concat_getLast hne
        rw [List.getLast?_eq_some_getLast hne] at hg
        simp only [Option.some.injEq] at hg
        rw [← hg]; exact this.symm
      have hkm : k ∈ stk := by rw [hsplit]; simp
      have hk := hs k hkm
      have hdl : ∀ z ∈ stk.dropLast, z ∈ stk := fun z hz => (List.dropLast_sublist stk).subset hz
      have hlt : k.toNat < out.length := by omega
      cases hb : out[k.toNat] with
      | true =>
        have ho : out[k.toNat]? = some true := by rw [List.getElem?_eq_getElem hlt, hb]
        have ih := dfs_ok hr hn m out stk.dropLast (by have := left_pop (out := out) hg; omega) hl (fun z hz => hs z (hdl z hz))
        simp only [dfs, hg, ho]
        refine ⟨ih.len, ih.old, fun z hz => ?_, ih.closed, fun q h1 h2 => ?_⟩
        · rw [hsplit] at hz
          rcases List.mem_append.1 hz with hz | hz
          · exact ih.st z hz
          · simp only [List.mem_singleton] at hz
            subst hz
            exact ih.old _ ho
        · rcases ih.sound q h1 h2 with h | ⟨j, h, r⟩
          · exact .inl (hdl _ h)
          · exact .inr ⟨j, hdl _ h, r⟩
      | false =>
        have ho : out[k.toNat]? = some false := by rw [List.getElem?_eq_getElem hlt, hb]
        have ih := dfs_ok hr hn m (out.set k.toNat true) (stk.dropLast ++ need g k.toNat) (by have := left_mark (g := g) hg ho (hn _); omega) (by simpa using hl)
          (fun z hz => by
            rcases List.mem_append.1 hz with hz | hz
            · exact hs z (hdl z hz)
            · exact hr _ _ hz)
        simp only [dfs, hg, ho]
        have hset : ∀ q : Nat, (out.set k.toNat true)[q]? = if k.toNat = q then some true else out[q]? := by
          intro q
          rw [List.getElem?_set]
          by_cases e : k.toNat = q
          · rw [if_pos e, if_pos e, if_pos hlt]
          · rw [if_neg e, if_neg e]
        have hkt : (dfs g m (out.set k.toNat true) (stk.dropLast ++ need g k.toNat))[k.toNat]? = some true := ih.old _ (by rw [hset, if_pos rfl])
        refine ⟨by rw [ih.len]; simp, fun q hq => ih.old q (by rw [hset]; by_cases e : k.toNat = q; (· rw [if_pos e]); (· rw [if_neg e]; exact hq)), fun z hz => ?_, fun q h1 h2 => ?_, fun q h1 h2 => ?_⟩
        · rw [hsplit] at hz
          rcases List.mem_append.1 hz with hz | hz
          · exact ih.st z (List.mem_append_left _ hz)
          · simp only [List.mem_singleton] at hz
            subst hz
            exact hkt
        · by_cases e : k.toNat = q
          · subst e
            intro z hz
            exact ih.st z (List.mem_append_right _ hz)
          · exact ih.closed q h1 (by rw [hset, if_neg e]; exact h2)
        · by_cases e : k.toNat = q
          · subst e
            left
            rw [Int.toNat_of_nonneg hk.1]
            exact hkm
          · have kk : (k.toNat : Int) ∈ stk := by rw [Int.toNat_of_nonneg hk.1]; exact hkm
            rcases ih.sound q h1 (by rw [hset, if_neg e]; exact h2) with h | ⟨j, h, r⟩
            · rcases List.mem_append.1 h with h | h
              · exact .inl (hdl _ h)
              · exact .inr ⟨k.toNat, kk, .one h⟩
            · rcases List.mem_append.1 h with h | h
              · exact .inr ⟨j, hdl _ h, r⟩
              · exact .inr ⟨k.toNat, kk, .more h r⟩

/-- What is reached. -/
theorem dfs_road {g : List (List Int)} (hr : ∀ k z, z ∈ need g k → 0 ≤ z ∧ z < g.length) (hn : ∀ k, (need g k).length ≤ 40) {m i : Nat} (hm : left (List.replicate g.length false) (need g i) ≤ m) (k : Nat) (hk : k < g.length) :
    (dfs g m (List.replicate g.length false) (need g i))[k]? = some true ↔ Road g i k := by
  have D := dfs_ok hr hn m (List.replicate g.length false) (need g i) hm (by simp) (fun z hz => hr _ _ hz)
  have hf : ∀ q : Nat, q < g.length → (List.replicate g.length false)[q]? = some false := fun q hq => by rw [List.getElem?_replicate, if_pos hq]
  constructor
  · intro h
    rcases D.sound k h (hf k hk) with h | ⟨j, h, r⟩
    · exact .one h
    · exact .more h r
  · intro r
    have lt : ∀ {i k : Nat}, Road g i k → k < g.length := by
      intro i k r
      induction r with
      | one h => have := hr _ _ h; omega
      | more _ _ ih => exact ih
    have key : ∀ {a b : Nat}, Road g a b → (∀ z ∈ need g a, (dfs g m (List.replicate g.length false) (need g i))[z.toNat]? = some true) → (dfs g m (List.replicate g.length false) (need g i))[b]? = some true := by
      intro a b r
      induction r with
      | one h => intro ha; exact ha _ h
      | more h r ih =>
        intro ha
        rename_i a j b
        have hj := ha _ h
        have hjl := hr _ _ h
        exact ih (D.closed j hj (hf j (by omega)))
    exact key r D.st
end Go.Proofs.Ytoemnjclhheeoaa.Ai

namespace Go.Proofs.Ytoemnjclhheeoaa.Ai
open Go Go.Ai
set_option linter.unusedSimpArgs false
set_option linter.unusedVariables false

def cellsB (l : List Bool) : List AV := l.map litB
theorem cellsB_len (l : List Bool) : (cellsB l).length = l.length := by simp [cellsB]
theorem cellsB_get (l : List Bool) (n : Nat) : (cellsB l)[n]? = (l[n]?).map litB := by simp [cellsB]
theorem cellsB_set (l : List Bool) (n : Nat) (b : Bool) : (cellsB l).set n (litB b) = cellsB (l.set n b) := by simp [cellsB]
theorem cellsI_get (l : List Int) (n : Nat) : (cellsI l)[n]? = (l[n]?).map (litI .i64) := by simp [cellsI]

/-- A slice of ints that lies in some object but the first, or none. -/
def StkOk (H : List AO) (A : AV) (stk : List Int) : Prop :=
  (A = .sl 0 [] (some 0) ∧ stk = []) ∨ ∃ r cs, r ≠ 0 ∧ A = .own r 0 stk.length 1 none ∧ H[r]? = some (.row cs 3) ∧ cs.take stk.length = cellsI stk ∧ stk.length ≤ cs.length

theorem StkOk.lenV {H : List AO} {A : AV} {stk : List Int} (h : StkOk H A stk) : Ai.lenV A = some (litI .i64 stk.length) := by
  rcases h with ⟨rfl, rfl⟩ | ⟨r, cs, _, rfl, _⟩ <;> rfl

theorem few_row {g : List (List Int)} (hf : fewG g = true) {k : Nat} {row : List Int} (h : g[k]? = some row) : row.length ≤ 40 := by
  simp only [fewG, Bool.and_eq_true, List.all_eq_true, decide_eq_true_eq] at hf
  exact hf.2 _ (List.mem_of_getElem? h)
theorem few_len {g : List (List Int)} (hf : fewG g = true) : g.length ≤ 20 := by
  simp only [fewG, Bool.and_eq_true, decide_eq_true_eq] at hf
  exact hf.1
theorem need_rng {g : List (List Int)} : ∀ k z, z ∈ need g k → 0 ≤ z ∧ z < g.length := by
  intro k z h
  cases hg : g[k]? with
  | none => unfold need at h; rw [hg] at h; cases h
  | some row => exact ((mem_need hg z).1 h).2
theorem need_40 {g : List (List Int)} (hf : fewG g = true) : ∀ k, (need g k).length ≤ 40 := by
  intro k
  cases hg : g[k]? with
  | none => unfold need; rw [hg]; exact Nat.zero_le _
  | some row => exact Nat.le_trans (need_len hg) (few_row hf hg)

theorem reach_loop (g : List (List Int)) (hf : fewG g = true) : ∀ (m : Nat) (out : List Bool) (stk : List Int) (A : AV) (H : List AO), left out stk ≤ m → out.length = g.length → (∀ k ∈ stk, 0 ≤ k ∧ k < g.length) →
    H[0]? = some (.row (cellsB out) 4) → StkOk H A stk → left out stk ≤ 1000 →
    ∃ A' H', loopW (codeW cw (lookM mtl) mds c12l0) [0, 5, 6] [(0, gA g), (5, .own 0 0 g.length 1 (some g.length)), (6, A)] H = some (EX.exit 0, [(0, gA g), (5, .own 0 0 g.length 1 (some g.length)), (6, A'), (25, litB false)], H') ∧
      H'[0]? = some (.row (cellsB (dfs g m out stk)) 4) := by
  intro m
  induction m with
  | zero =>
    intro out stk A H hm hl hs h0 hA hb
    have : stk = [] := List.eq_nil_of_length_eq_zero (by unfold left at hm; omega)
    subst this
    refine ⟨A, H, loopW_out ?_ (by simp), h0⟩
    simp -implicitDefEqProofs only [c12l0, codeW_seq, codeW_reg, codeW_cond, codeW_block, codeW_loop, codeW_skip, codeW_exit, codeW_ret, thenS_normal, thenS_if, thenS_ret, thenS_exit, thenS_pan, thenS_none, blockS_normal, blockS_exit, blockS_ret, blockS_pan, blockS_if, condS_some, ifS_true, ifS_false, opS_val, opS_new, opS_wr, opS_fz, opS_pan, bindO_some, runS_nil, runS_cons, runS_guard, gS_t, gS_f, gS_undef, asG_lit, asG_undef, core_mv, core_pick, core_alloc, core_load, core_store, core_clr, core_nilck, core_bin, core_binb, core_un, core_fadr, core_iadr, core_sli, core_len, core_lenS, core_idxS, core_app, core_mki, core_call, core_extV, core_fld, core_mks, wrO_some, valO_some, lenV_sl, lenV_own, bin_eql, bin_neq, bin_lss, bin_leq, bin_gtr, bin_geq, bin_add, bin_sub, bin_mul, unop_not, asBool_lit, pickV_lit, load_ip, iadr_sl, iadr_own, ev_s, ev_k, get_cons, get_nil, put_cons, put_nil, putD_some, putD_none, keep_cons, keep_nil, initFr, Nat.reduceEqDiff, Nat.reduceLT, Nat.reduceAdd, if_true, if_false, List.mem_cons, List.not_mem_nil, or_false, false_or, or_true, true_or, or_self, ↓reduceIte, Nat.zero_add, decide_false, decide_true, Nat.reduceBEq, beq_self_eq_true, BEq.rfl, Option.map_some, Option.map_none, List.head?_cons, List.map_cons, List.map_nil, List.append_nil, List.nil_append, List.cons_append, Bool.not_true, Bool.not_false, cond_true, cond_false, Int.natCast_nonneg, Int.toNat_natCast, Int.ofNat_toNat, core_bslice1, bsV_int, codeW_drawn, headS_cons, headS_nil, headS_guard, hS_val, hS_new, tailS_nil, tailS_cons, tailS_guard, tlS_val, tlS_new, tlS_wr, tlS_fz, tlS_pan, anyMk_cons, anyMk_nil, makes, binb_eql, binb_neq, List.isEmpty_nil, List.isEmpty_cons, Bool.or_false, Bool.false_or, Bool.or_true, Bool.true_or, pickV_t, pickV_f, core_inv, core_callS, fnV_func, core_tas, tasV_iface, nilck_ptr, extV_tup, fldV_agg, List.getElem?_cons_zero, List.getElem?_cons_succ, hA.lenV, List.length_nil, Int.ofNat_zero, Int.lt_irrefl]
  | succ m ih =>
    intro out stk A H hm hl hs h0 hA hb
    cases hg : stk.getLast? with
    | none =>
      have : stk = [] := by simpa using hg
      subst this
      simp only [dfs, hg]
      refine ⟨A, H, loopW_out ?_ (by simp), h0⟩
      simp -implicitDefEqProofs only [c12l0, codeW_seq, codeW_reg, codeW_cond, codeW_block, codeW_loop, codeW_skip, codeW_exit, codeW_ret, thenS_normal, thenS_if, thenS_ret, thenS_exit, thenS_pan, thenS_none, blockS_normal, blockS_exit, blockS_ret, blockS_pan, blockS_if, condS_some, ifS_true, ifS_false, opS_val, opS_new, opS_wr, opS_fz, opS_pan, bindO_some, runS_nil, runS_cons, runS_guard, gS_t, gS_f, gS_undef, asG_lit, asG_undef, core_mv, core_pick, core_alloc, core_load, core_store, core_clr, core_nilck, core_bin, core_binb, core_un, core_fadr, core_iadr, core_sli, core_len, core_lenS, core_idxS, core_app, core_mki, core_call, core_extV, core_fld, core_mks, wrO_some, valO_some, lenV_sl, lenV_own, bin_eql, bin_neq, bin_lss, bin_leq, bin_gtr, bin_geq, bin_add, bin_sub, bin_mul, unop_not, asBool_lit, pickV_lit, load_ip, iadr_sl, iadr_own, ev_s, ev_k, get_cons, get_nil, put_cons, put_nil, putD_some, putD_none, keep_cons, keep_nil, initFr, Nat.reduceEqDiff, Nat.reduceLT, Nat.reduceAdd, if_true, if_false, List.mem_cons, List.not_mem_nil, or_false, false_or, or_true, true_or, or_self, ↓reduceIte, Nat.zero_add, decide_false, decide_true, Nat.reduceBEq, beq_self_eq_true, BEq.rfl, Option.map_some, Option.map_none, List.head?_cons, List.map_cons, List.map_nil, List.append_nil, List.nil_append, List.cons_append, Bool.not_true, Bool.not_false, cond_true, cond_false, Int.natCast_nonneg, Int.toNat_natCast, Int.ofNat_toNat, core_bslice1, bsV_int, codeW_drawn, headS_cons, headS_nil, headS_guard, hS_val, hS_new, tailS_nil, tailS_cons, tailS_guard, tlS_val, tlS_new, tlS_wr, tlS_fz, tlS_pan, anyMk_cons, anyMk_nil, makes, binb_eql, binb_neq, List.isEmpty_nil, List.isEmpty_cons, Bool.or_false, Bool.false_or, Bool.or_true, Bool.true_or, pickV_t, pickV_f, core_inv, core_callS, fnV_func, core_tas, tasV_iface, nilck_ptr, extV_tup, fldV_agg, List.getElem?_cons_zero, List.getElem?_cons_succ, hA.lenV, List.length_nil, Int.ofNat_zero, Int.lt_irrefl]
    | some k =>
      have hsplit : stk = stk.dropLast ++ [k] := by
        have hne : stk ≠ [] := by intro e; subst e; cases hg
        have := List.dropLast_concat_getLast hne
        rw [List.getLast?_eq_some_getLast hne] at hg
        simp only [Option.some.injEq] at hg
        rw [← hg]; exact this.symm
      have hpop := left_pop (out := out) hg
      have hmark := fun hk => left_mark (g := g) (out := out) hg hk (need_40 hf _)
      simp only [dfs, hg]
      generalize stk.dropLast = s at hsplit hpop hmark ⊢
      subst hsplit
      have hk := hs k (by simp)
      have hs' : ∀ z ∈ s, 0 ≤ z ∧ z < g.length := fun z hz => hs z (List.mem_append_left _ hz)
      rcases hA with ⟨_, h⟩ | ⟨r, cs, hr, rfl, hH, hcs, hle⟩
      · simp at h
      have hlen : (s ++ [k]).length = s.length + 1 := by simp
      rw [hlen] at hcs hle ⊢
      have hsm : s.length < 1000 := by unfold left at hb; rw [hlen] at hb; omega
      have hw : IntKind.wrap .i64 (((s.length + 1 : Nat) : Int) - 1) = (s.length : Int) := by rw [wrap_small] <;> omega
      have hlt0 : (0 : Int) < ((s.length + 1 : Nat) : Int) := by omega
      have hlt1 : (s.length : Int) < ((s.length + 1 : Nat) : Int) := by omega
      have hcg : cs[s.length]? = some (litI .i64 k) := by
        have : (cs.take (s.length + 1))[s.length]? = some (litI .i64 k) := by rw [hcs]; simp [cellsI]
        rw [List.getElem?_take, if_pos (by omega)] at this
        exact this
      have hcs' : cs.take s.length = cellsI s := by
        have := congrArg (List.take s.length) hcs
        rw [List.take_take, Nat.min_eq_left (by omega)] at this
        rw [this]
        simp [cellsI]
      have hsl : ∀ c, slice 1 (.own r 0 (s.length + 1) 1 c) none (some (litI .i64 (s.length : Int))) none = some (.own r 0 s.length 1 c) := by
        intro c
        rw [slice_own_to (by omega) (by omega)]
        simp
      have hkl : k.toNat < out.length := by omega
      obtain ⟨b, hb0⟩ : ∃ b, out[k.toNat]? = some b := ⟨_, List.getElem?_eq_getElem hkl⟩
      have hld : (cellsB out)[k.toNat]? = some (litB b) := by rw [cellsB_get, hb0]; rfl
      cases b with
      | true =>
        rw [hb0]
        obtain ⟨A', H', hL, h0'⟩ := ih out s (.own r 0 s.length 1 none) H (by omega) hl hs' h0 (.inr ⟨r, cs, hr, rfl, hH, hcs', by omega⟩) (by omega)
        refine ⟨A', H', loopW_next (fr1 := [(0, gA g), (5, .own 0 0 g.length 1 (some g.length)), (6, .own r 0 s.length 1 none), (7, litI .i64 k), (41, litB false)]) ?_ rfl hL, h0'⟩
        simp -implicitDefEqProofs only [c12l0, codeW_seq, codeW_reg, codeW_cond, codeW_block, codeW_loop, codeW_skip, codeW_exit, codeW_ret, thenS_normal, thenS_if, thenS_ret, thenS_exit, thenS_pan, thenS_none, blockS_normal, blockS_exit, blockS_ret, blockS_pan, blockS_if, condS_some, ifS_true, ifS_false, opS_val, opS_new, opS_wr, opS_fz, opS_pan, bindO_some, runS_nil, runS_cons, runS_guard, gS_t, gS_f, gS_undef, asG_lit, asG_undef, core_mv, core_pick, core_alloc, core_load, core_store, core_clr, core_nilck, core_bin, core_binb, core_un, core_fadr, core_iadr, core_sli, core_len, core_lenS, core_idxS, core_app, core_mki, core_call, core_extV, core_fld, core_mks, wrO_some, valO_some, lenV_sl, lenV_own, bin_eql, bin_neq, bin_lss, bin_leq, bin_gtr, bin_geq, bin_add, bin_sub, bin_mul, unop_not, asBool_lit, pickV_lit, load_ip, iadr_sl, iadr_own, ev_s, ev_k, get_cons, get_nil, put_cons, put_nil, putD_some, putD_none, keep_cons, keep_nil, initFr, Nat.reduceEqDiff, Nat.reduceLT, Nat.reduceAdd, if_true, if_false, List.mem_cons, List.not_mem_nil, or_false, false_or, or_true, true_or, or_self, ↓reduceIte, Nat.zero_add, decide_false, decide_true, Nat.reduceBEq, beq_self_eq_true, BEq.rfl, Option.map_some, Option.map_none, List.head?_cons, List.map_cons, List.map_nil, List.append_nil, List.nil_append, List.cons_append, Bool.not_true, Bool.not_false, cond_true, cond_false, Int.natCast_nonneg, Int.toNat_natCast, Int.ofNat_toNat, core_bslice1, bsV_int, codeW_drawn, headS_cons, headS_nil, headS_guard, hS_val, hS_new, tailS_nil, tailS_cons, tailS_guard, tlS_val, tlS_new, tlS_wr, tlS_fz, tlS_pan, anyMk_cons, anyMk_nil, makes, binb_eql, binb_neq, List.isEmpty_nil, List.isEmpty_cons, Bool.or_false, Bool.false_or, Bool.or_true, Bool.true_or, pickV_t, pickV_f, core_inv, core_callS, fnV_func, core_tas, tasV_iface, nilck_ptr, extV_tup, fldV_agg, List.getElem?_cons_zero, List.getElem?_cons_succ, hlt0, hlt1, hw, load_ptr hH, hcg, hsl, hk.1, hk.2, and_self, and_true, true_and, load_ptr h0, hld, Nat.mul_one]
      | false =>
        rw [hb0]
        have hmk := hmark hb0
        have h0s : (setL H 0 (.row (cellsB (out.set k.toNat true)) 4))[0]? = some (.row (cellsB (out.set k.toNat true)) 4) := getH_set_eq h0
        have hHs : (setL H 0 (.row (cellsB (out.set k.toNat true)) 4))[r]? = some (.row cs 3) := by rw [getH_set_ne (Ne.symm hr)]; exact hH
        have hst : storeAt H 1 (.ptr 0 k.toNat) (litB true) = some (setL H 0 (.row (cellsB (out.set k.toNat true)) 4)) := by
          rw [store_ptr h0 (by rw [cellsB_len]; exact hkl) rfl rfl, cellsB_set]
        have hHlen : 0 < H.length := (List.getElem?_eq_some_iff.1 h0).1
        have hrlen : r < H.length := (List.getElem?_eq_some_iff.1 hH).1
        obtain ⟨row, hrow⟩ : ∃ row, g[k.toNat]? = some row := ⟨_, List.getElem?_eq_getElem (by omega)⟩
        have hneed : needG g row = need g k.toNat := by unfold need; rw [hrow]
        have hr40 := few_row hf hrow
        have kk : litI .i64 k = litI .i64 (k.toNat : Nat) := by rw [Int.toNat_of_nonneg hk.1]
        have hsets : out.set k.toNat true = out.set k.toNat true := rfl
        generalize hH1 : setL H 0 (.row (cellsB (out.set k.toNat true)) 4) = H1 at h0s hHs hst
        have hH1len : H1.length = H.length := by rw [← hH1, setL_len]
        by_cases hn : needG g row = []
        · have hc := fun id => needs_call0 g k.toNat row hrow (by omega) H1 id hn
          rw [← kk] at hc
          have hnd : need g k.toNat = [] := hneed ▸ hn
          rw [hnd, List.append_nil] at hmk ⊢
          obtain ⟨A', H', hL, h0'⟩ := ih (out.set k.toNat true) s (.own r 0 s.length 1 none) H1 (by omega) (by simpa using hl) hs' h0s (.inr ⟨r, cs, hr, rfl, hHs, hcs', by omega⟩) (by omega)
          refine ⟨A', H', loopW_round ?_ hL, h0'⟩
          simp -implicitDefEqProofs only [c12l0, codeW_seq, codeW_reg, codeW_cond, codeW_block, codeW_loop, codeW_skip, codeW_exit, codeW_ret, thenS_normal, thenS_if, thenS_ret, thenS_exit, thenS_pan, thenS_none, blockS_normal, blockS_exit, blockS_ret, blockS_pan, blockS_if, condS_some, ifS_true, ifS_false, opS_val, opS_new, opS_wr, opS_fz, opS_pan, bindO_some, runS_nil, runS_cons, runS_guard, gS_t, gS_f, gS_undef, asG_lit, asG_undef, core_mv, core_pick, core_alloc, core_load, core_store, core_clr, core_nilck, core_bin, core_binb, core_un, core_fadr, core_iadr, core_sli, core_len, core_lenS, core_idxS, core_app, core_mki, core_call, core_extV, core_fld, core_mks, wrO_some, valO_some, lenV_sl, lenV_own, bin_eql, bin_neq, bin_lss, bin_leq, bin_gtr, bin_geq, bin_add, bin_sub, bin_mul, unop_not, asBool_lit, pickV_lit, load_ip, iadr_sl, iadr_own, ev_s, ev_k, get_cons, get_nil, put_cons, put_nil, putD_some, putD_none, keep_cons, keep_nil, initFr, Nat.reduceEqDiff, Nat.reduceLT, Nat.reduceAdd, if_true, if_false, List.mem_cons, List.not_mem_nil, or_false, false_or, or_true, true_or, or_self, ↓reduceIte, Nat.zero_add, decide_false, decide_true, Nat.reduceBEq, beq_self_eq_true, BEq.rfl, Option.map_some, Option.map_none, List.head?_cons, List.map_cons, List.map_nil, List.append_nil, List.nil_append, List.cons_append, Bool.not_true, Bool.not_false, cond_true, cond_false, Int.natCast_nonneg, Int.toNat_natCast, Int.ofNat_toNat, core_bslice1, bsV_int, codeW_drawn, headS_cons, headS_nil, headS_guard, hS_val, hS_new, tailS_nil, tailS_cons, tailS_guard, tlS_val, tlS_new, tlS_wr, tlS_fz, tlS_pan, anyMk_cons, anyMk_nil, makes, binb_eql, binb_neq, List.isEmpty_nil, List.isEmpty_cons, Bool.or_false, Bool.false_or, Bool.or_true, Bool.true_or, pickV_t, pickV_f, core_inv, core_callS, fnV_func, core_tas, tasV_iface, nilck_ptr, extV_tup, fldV_agg, List.getElem?_cons_zero, List.getElem?_cons_succ, hlt0, hlt1, hw, load_ptr hH, hcg, hsl, hk.1, hk.2, and_self, and_true, true_and, load_ptr h0, hld, Nat.mul_one, hst, hc, append_none]
        · obtain ⟨z, hc⟩ := needs_call1 g k.toNat row hrow (by omega) H1 H1.length hn
          rw [← kk] at hc
          have hpos : 0 < (needG g row).length := List.length_pos_iff.2 hn
          have hq : (H1 ++ [AO.row (cellsI (needG g row) ++ z) 3])[H1.length]? = some (.row (cellsI (needG g row) ++ z) 3) := getH_last _ _
          have hap := append_own (id := (H1 ++ [AO.row (cellsI (needG g row) ++ z) 3]).length) (r := r) (n := s.length) (q := H1.length) (m := (needG g row).length) (e := 1) (bytes := 8) (c := none) (c' := none) (getH_app (o := .row (cellsI (needG g row) ++ z) 3) hHs) hq hpos (by omega) (by simp [cellsI]) (by have := need_40 hf k.toNat; rw [← hneed] at this; omega)
          rw [Nat.mul_one, Nat.mul_one, hcs'] at hap
          rw [List.take_left' (by simp [cellsI])] at hap
          generalize hH2 : setL (H1 ++ [AO.row (cellsI (needG g row) ++ z) 3]) r .dead = H2 at hap
          have hH2len : H2.length = H1.length + 1 := by rw [← hH2, setL_len]; simp
          have e2 : cellsI s ++ cellsI (needG g row) = cellsI (s ++ need g k.toNat) := by rw [hneed]; simp [cellsI]
          rw [e2] at hap
          have el : s.length + (needG g row).length = (s ++ need g k.toNat).length := by rw [hneed]; simp
          rw [el] at hap
          obtain ⟨A', H', hL, h0'⟩ := ih (out.set k.toNat true) (s ++ need g k.toNat) (.own (H1.length + 1) 0 (s ++ need g k.toNat).length 1 none) (H2 ++ [AO.row (cellsI (s ++ need g k.toNat)) 3]) (by omega) (by simpa using hl)
            (fun z hz => by
              rcases List.mem_append.1 hz with hz | hz
              · exact hs' z hz
              · exact need_rng _ _ hz)
            (getH_app (by rw [← hH2, getH_set_ne hr]; exact getH_app h0s)) (.inr ⟨H1.length + 1, cellsI (s ++ need g k.toNat), by omega, rfl, by rw [← hH2len]; exact getH_last _ _, by rw [List.take_of_length_le]; simp [cellsI], by simp [cellsI]⟩) (by omega)
          refine ⟨A', H', loopW_round ?_ hL, h0'⟩
          have hlen2 : (H1 ++ [AO.row (cellsI (needG g row) ++ z) 3]).length = H1.length + 1 := by simp
          rw [hlen2] at hap
          simp -implicitDefEqProofs only [c12l0, codeW_seq, codeW_reg, codeW_cond, codeW_block, codeW_loop, codeW_skip, codeW_exit, codeW_ret, thenS_normal, thenS_if, thenS_ret, thenS_exit, thenS_pan, thenS_none, blockS_normal, blockS_exit, blockS_ret, blockS_pan, blockS_if, condS_some, ifS_true, ifS_false, opS_val, opS_new, opS_wr, opS_fz, opS_pan, bindO_some, runS_nil, runS_cons, runS_guard, gS_t, gS_f, gS_undef, asG_lit, asG_undef, core_mv, core_pick, core_alloc, core_load, core_store, core_clr, core_nilck, core_bin, core_binb, core_un, core_fadr, core_iadr, core_sli, core_len, core_lenS, core_idxS, core_app, core_mki, core_call, core_extV, core_fld, core_mks, wrO_some, valO_some, lenV_sl, lenV_own, bin_eql, bin_neq, bin_lss, bin_leq, bin_gtr, bin_geq, bin_add, bin_sub, bin_mul, unop_not, asBool_lit, pickV_lit, load_ip, iadr_sl, iadr_own, ev_s, ev_k, get_cons, get_nil, put_cons, put_nil, putD_some, putD_none, keep_cons, keep_nil, initFr, Nat.reduceEqDiff, Nat.reduceLT, Nat.reduceAdd, if_true, if_false, List.mem_cons, List.not_mem_nil, or_false, false_or, or_true, true_or, or_self, ↓reduceIte, Nat.zero_add, decide_false, decide_true, Nat.reduceBEq, beq_self_eq_true, BEq.rfl, Option.map_some, Option.map_none, List.head?_cons, List.map_cons, List.map_nil, List.append_nil, List.nil_append, List.cons_append, Bool.not_true, Bool.not_false, cond_true, cond_false, Int.natCast_nonneg, Int.toNat_natCast, Int.ofNat_toNat, core_bslice1, bsV_int, codeW_drawn, headS_cons, headS_nil, headS_guard, hS_val, hS_new, tailS_nil, tailS_cons, tailS_guard, tlS_val, tlS_new, tlS_wr, tlS_fz, tlS_pan, anyMk_cons, anyMk_nil, makes, binb_eql, binb_neq, List.isEmpty_nil, List.isEmpty_cons, Bool.or_false, Bool.false_or, Bool.or_true, Bool.true_or, pickV_t, pickV_f, core_inv, core_callS, fnV_func, core_tas, tasV_iface, nilck_ptr, extV_tup, fldV_agg, List.getElem?_cons_zero, List.getElem?_cons_succ, hlt0, hlt1, hw, load_ptr hH, hcg, hsl, hk.1, hk.2, and_self, and_true, true_and, load_ptr h0, hld, Nat.mul_one, hst, hc, hlen2, hap]
end Go.Proofs.Ytoemnjclhheeoaa.Ai

namespace Go.Proofs.Ytoemnjclhheeoaa.Ai
open Go Go.Ai
set_option linter.unusedSimpArgs false
set_option linter.unusedVariables false
variable {call : CallF} {mt : MtF} {md : FuncId → Md}

/-- What is reached from a place. -/
def reachL (g : List (List Int)) (i : Nat) : List Bool := dfs g (left (List.replicate g.length false) (need g i)) (List.replicate g.length false) (need g i)
theorem dfs_len (g : List (List Int)) : ∀ (m : Nat) (out : List Bool) (stk : List Int), (dfs g m out stk).length = out.length
  | 0, _, _ => rfl
  | m + 1, out, stk => by
    simp only [dfs]
    split
    · rfl
    · split
      · rw [dfs_len]; simp
      · rw [dfs_len]
theorem reachL_len (g : List (List Int)) (i : Nat) : (reachL g i).length = g.length := by unfold reachL; rw [dfs_len]; simp
theorem reachL_road {g : List (List Int)} (hf : fewG g = true) (i k : Nat) (hk : k < g.length) : (reachL g i)[k]? = some true ↔ Road g i k := dfs_road need_rng (need_40 hf) (Nat.le_refl _) k hk

theorem cells_rep (n : Nat) : reps n [litB false] = cellsB (List.replicate n false) := by rw [reps_one]; simp [cellsB]

theorem reach_tells (g : List (List Int)) (hf : fewG g = true) (i : Nat) (hi : i < g.length) :
    ∃ H', cw 12 [gA g, litI .i64 i] [] = some (.ret (.own 0 0 g.length 1 (some g.length)), H') ∧ H'[0]? = some (.row (cellsB (reachL g i)) 4) := by
  obtain ⟨row, hrow⟩ : ∃ row, g[i]? = some row := ⟨_, List.getElem?_eq_getElem hi⟩
  have hneed : needG g row = need g i := by unfold need; rw [hrow]
  have h20 := few_len hf
  have hr40 := few_row hf hrow
  have n40 := need_40 hf i
  have hle : left (List.replicate g.length false) (need g i) ≤ 1000 := by unfold left; rw [List.count_replicate_self]; omega
  have hm := mksV_ok (id := 0) (e := 1) (bytes := 1) (z := [litB false]) (t := 4) (n := g.length) (by omega) (by omega)
  rw [cells_rep] at hm
  have h1 : ¬ (i : Int) < 0 := by omega
  have h2 : ¬ (g.length : Int) ≤ i := by omega
  by_cases hn : needG g row = []
  · have hc := needs_call0 g i row hrow (by omega) [AO.row (cellsB (List.replicate g.length false)) 4] 1 hn
    obtain ⟨A', H', L, h0'⟩ := reach_loop g hf _ (List.replicate g.length false) (need g i) (.sl 0 [] (some 0)) [AO.row (cellsB (List.replicate g.length false)) 4] (Nat.le_refl _) (by simp) (fun k hk => need_rng _ _ hk) rfl (.inl ⟨rfl, by rw [← hneed, hn]⟩) hle
    refine ⟨H', cw_of fn12 (c := c12) rfl rfl rfl rfl ?_, h0'⟩
    simp -implicitDefEqProofs only [c12, codeW_seq, codeW_reg, codeW_cond, codeW_block, codeW_loop, codeW_skip, codeW_exit, codeW_ret, thenS_normal, thenS_if, thenS_ret, thenS_exit, thenS_pan, thenS_none, blockS_normal, blockS_exit, blockS_ret, blockS_pan, blockS_if, condS_some, ifS_true, ifS_false, opS_val, opS_new, opS_wr, opS_fz, opS_pan, bindO_some, runS_nil, runS_cons, runS_guard, gS_t, gS_f, gS_undef, asG_lit, asG_undef, core_mv, core_pick, core_alloc, core_load, core_store, core_clr, core_nilck, core_bin, core_binb, core_un, core_fadr, core_iadr, core_sli, core_len, core_lenS, core_idxS, core_app, core_mki, core_call, core_extV, core_fld, core_mks, wrO_some, valO_some, lenV_sl, lenV_own, bin_eql, bin_neq, bin_lss, bin_leq, bin_gtr, bin_geq, bin_add, bin_sub, bin_mul, unop_not, asBool_lit, pickV_lit, load_ip, iadr_sl, iadr_own, ev_s, ev_k, get_cons, get_nil, put_cons, put_nil, putD_some, putD_none, keep_cons, keep_nil, initFr, Nat.reduceEqDiff, Nat.reduceLT, Nat.reduceAdd, if_true, if_false, List.mem_cons, List.not_mem_nil, or_false, false_or, or_true, true_or, or_self, ↓reduceIte, Nat.zero_add, decide_false, decide_true, Nat.reduceBEq, beq_self_eq_true, BEq.rfl, Option.map_some, Option.map_none, List.head?_cons, List.map_cons, List.map_nil, List.append_nil, List.nil_append, List.cons_append, Bool.not_true, Bool.not_false, cond_true, cond_false, Int.natCast_nonneg, Int.toNat_natCast, Int.ofNat_toNat, core_bslice1, bsV_int, codeW_drawn, headS_cons, headS_nil, headS_guard, hS_val, hS_new, tailS_nil, tailS_cons, tailS_guard, tlS_val, tlS_new, tlS_wr, tlS_fz, tlS_pan, anyMk_cons, anyMk_nil, makes, binb_eql, binb_neq, List.isEmpty_nil, List.isEmpty_cons, Bool.or_false, Bool.false_or, Bool.or_true, Bool.true_or, pickV_t, pickV_f, core_inv, core_callS, fnV_func, core_tas, tasV_iface, nilck_ptr, extV_tup, fldV_agg, List.getElem?_cons_zero, List.getElem?_cons_succ, lenV_g, List.length_nil, hm, h1, h2, List.length_cons, hc, L]
    rfl
  · obtain ⟨z, hc⟩ := needs_call1 g i row hrow (by omega) [AO.row (cellsB (List.replicate g.length false)) 4] 1 hn
    obtain ⟨A', H', L, h0'⟩ := reach_loop g hf _ (List.replicate g.length false) (need g i) (.own 1 0 (needG g row).length 1 none) [AO.row (cellsB (List.replicate g.length false)) 4, .row (cellsI (needG g row) ++ z) 3] (Nat.le_refl _) (by simp) (fun k hk => need_rng _ _ hk) rfl
      (.inr ⟨1, cellsI (needG g row) ++ z, by omega, by rw [hneed], rfl, by rw [← hneed, List.take_left' (by simp [cellsI])], by rw [← hneed]; simp [cellsI]⟩) hle
    refine ⟨H', cw_of fn12 (c := c12) rfl rfl rfl rfl ?_, h0'⟩
    simp -implicitDefEqProofs only [c12, codeW_seq, codeW_reg, codeW_cond, codeW_block, codeW_loop, codeW_skip, codeW_exit, codeW_ret, thenS_normal, thenS_if, thenS_ret, thenS_exit, thenS_pan, thenS_none, blockS_normal, blockS_exit, blockS_ret, blockS_pan, blockS_if, condS_some, ifS_true, ifS_false, opS_val, opS_new, opS_wr, opS_fz, opS_pan, bindO_some, runS_nil, runS_cons, runS_guard, gS_t, gS_f, gS_undef, asG_lit, asG_undef, core_mv, core_pick, core_alloc, core_load, core_store, core_clr, core_nilck, core_bin, core_binb, core_un, core_fadr, core_iadr, core_sli, core_len, core_lenS, core_idxS, core_app, core_mki, core_call, core_extV, core_fld, core_mks, wrO_some, valO_some, lenV_sl, lenV_own, bin_eql, bin_neq, bin_lss, bin_leq, bin_gtr, bin_geq, bin_add, bin_sub, bin_mul, unop_not, asBool_lit, pickV_lit, load_ip, iadr_sl, iadr_own, ev_s, ev_k, get_cons, get_nil, put_cons, put_nil, putD_some, putD_none, keep_cons, keep_nil, initFr, Nat.reduceEqDiff, Nat.reduceLT, Nat.reduceAdd, if_true, if_false, List.mem_cons, List.not_mem_nil, or_false, false_or, or_true, true_or, or_self, ↓reduceIte, Nat.zero_add, decide_false, decide_true, Nat.reduceBEq, beq_self_eq_true, BEq.rfl, Option.map_some, Option.map_none, List.head?_cons, List.map_cons, List.map_nil, List.append_nil, List.nil_append, List.cons_append, Bool.not_true, Bool.not_false, cond_true, cond_false, Int.natCast_nonneg, Int.toNat_natCast, Int.ofNat_toNat, core_bslice1, bsV_int, codeW_drawn, headS_cons, headS_nil, headS_guard, hS_val, hS_new, tailS_nil, tailS_cons, tailS_guard, tlS_val, tlS_new, tlS_wr, tlS_fz, tlS_pan, anyMk_cons, anyMk_nil, makes, binb_eql, binb_neq, List.isEmpty_nil, List.isEmpty_cons, Bool.or_false, Bool.false_or, Bool.or_true, Bool.true_or, pickV_t, pickV_f, core_inv, core_callS, fnV_func, core_tas, tasV_iface, nilck_ptr, extV_tup, fldV_agg, List.getElem?_cons_zero, List.getElem?_cons_succ, lenV_g, List.length_nil, hm, h1, h2, List.length_cons, hc, L]
    rfl

/-- A row of truths, told whole. -/
def boolsA (l : List Bool) (c : Option Nat) : AV := .sl 1 (l.map fun b => [litB b]) c
theorem lenV_bools (l : List Bool) (c : Option Nat) : lenV (boolsA l c) = some (litI .i64 l.length) := by simp [boolsA, lenV]
theorem iadr_bools (l : List Bool) (c : Option Nat) (n : Nat) : iadr 1 (boolsA l c) (litI .i64 n) = (l[n]?).map fun b => .ip [litB b] := by
  rw [boolsA, iadr_sl]; simp [Function.comp_def]
theorem reach_call (g : List (List Int)) (hf : fewG g = true) (i : Nat) (hi : i < g.length) (H : List AO) (id : Nat) : callV cw mds 12 [gA g, litI .i64 i] H id = some (.val (boolsA (reachL g i) (some g.length)) none) := by
  obtain ⟨H', h1, h2⟩ := reach_tells g hf i hi
  have := callV_fz (md := mds) (H := H) (id := id) rfl rfl h1 h2 (by rw [cellsB_len, reachL_len]; exact Nat.le_refl _) (by
    rw [List.all_eq_true]; intro a ha
    obtain ⟨b, _, rfl⟩ := List.mem_map.1 ha; rfl)
  rw [this, List.take_of_length_le (by rw [cellsB_len, reachL_len]; exact Nat.le_refl _)]
  simp [boolsA, cellsB, Function.comp_def]

/-! ### ref.Needs -/
theorem rneeds_loop (g : List (List Int)) (row : List Int) (i : Nat) (k : Int) (hi : g[i]? = some row) (hl : row.length ≤ 1000) : ∀ (m n : Nat), m + n = row.length →
    loopW (codeW call mt md c10l0) [0, 1, 2, 7] [(0, gA g), (1, litI .i64 i), (2, litI .i64 k), (7, litI .i64 n)] [] =
      some (if (row.drop n).contains k = true then (.ret, [(6, litB true)], []) else (EX.exit 0, [(0, gA g), (1, litI .i64 i), (2, litI .i64 k), (7, litI .i64 row.length), (32, litB false)], []))
  | 0, n, h => by
    have hn : n = row.length := by omega
    subst hn
    rw [if_neg (by simp)]
    refine loopW_out ?_ (by simp)
    simp -implicitDefEqProofs only [c10l0, codeW_seq, codeW_reg, codeW_cond, codeW_block, codeW_loop, codeW_skip, codeW_exit, codeW_ret, thenS_normal, thenS_if, thenS_ret, thenS_exit, thenS_pan, thenS_none, blockS_normal, blockS_exit, blockS_ret, blockS_pan, blockS_if, condS_some, ifS_true, ifS_false, opS_val, opS_new, opS_wr, opS_fz, opS_pan, bindO_some, runS_nil, runS_cons, runS_guard, gS_t, gS_f, gS_undef, asG_lit, asG_undef, core_mv, core_pick, core_alloc, core_load, core_store, core_clr, core_nilck, core_bin, core_binb, core_un, core_fadr, core_iadr, core_sli, core_len, core_lenS, core_idxS, core_app, core_mki, core_call, core_extV, core_fld, core_mks, wrO_some, valO_some, lenV_sl, lenV_own, bin_eql, bin_neq, bin_lss, bin_leq, bin_gtr, bin_geq, bin_add, bin_sub, bin_mul, unop_not, asBool_lit, pickV_lit, load_ip, iadr_sl, iadr_own, ev_s, ev_k, get_cons, get_nil, put_cons, put_nil, putD_some, putD_none, keep_cons, keep_nil, initFr, Nat.reduceEqDiff, Nat.reduceLT, Nat.reduceAdd, if_true, if_false, List.mem_cons, List.not_mem_nil, or_false, false_or, or_true, true_or, or_self, ↓reduceIte, Nat.zero_add, decide_false, decide_true, Nat.reduceBEq, beq_self_eq_true, BEq.rfl, Option.map_some, Option.map_none, List.head?_cons, List.map_cons, List.map_nil, List.append_nil, List.nil_append, List.cons_append, Bool.not_true, Bool.not_false, cond_true, cond_false, Int.natCast_nonneg, Int.toNat_natCast, Int.ofNat_toNat, core_bslice1, bsV_int, codeW_drawn, headS_cons, headS_nil, headS_guard, hS_val, hS_new, tailS_nil, tailS_cons, tailS_guard, tlS_val, tlS_new, tlS_wr, tlS_fz, tlS_pan, anyMk_cons, anyMk_nil, makes, binb_eql, binb_neq, List.isEmpty_nil, List.isEmpty_cons, Bool.or_false, Bool.false_or, Bool.or_true, Bool.true_or, pickV_t, pickV_f, core_inv, core_callS, fnV_func, core_tas, tasV_iface, nilck_ptr, extV_tup, fldV_agg, List.getElem?_cons_zero, List.getElem?_cons_succ, iadr_g, hi, lenV_row, Int.lt_irrefl]
  | m + 1, n, h => by
    have hn : n < row.length := by omega
    have hg : row[n]? = some row[n] := List.getElem?_eq_getElem hn
    have hlt : (n : Int) < row.length := by omega
    have hd : row.drop n = row[n] :: row.drop (n + 1) := List.drop_eq_getElem_cons hn
    have hw := wrap1 (show n < 4611686018427387904 by omega)
    rw [hd, List.contains_cons]
    by_cases hk : row[n] = k
    · have : (k == row[n]) = true := by simp [hk]
      rw [if_pos (by rw [this]; rfl)]
      have h2 : (row[n] == k) = true := by simp [hk]
      refine loopW_out ?_ (by simp)
      simp -implicitDefEqProofs only [c10l0, codeW_seq, codeW_reg, codeW_cond, codeW_block, codeW_loop, codeW_skip, codeW_exit, codeW_ret, thenS_normal, thenS_if, thenS_ret, thenS_exit, thenS_pan, thenS_none, blockS_normal, blockS_exit, blockS_ret, blockS_pan, blockS_if, condS_some, ifS_true, ifS_false, opS_val, opS_new, opS_wr, opS_fz, opS_pan, bindO_some, runS_nil, runS_cons, runS_guard, gS_t, gS_f, gS_undef, asG_lit, asG_undef, core_mv, core_pick, core_alloc, core_load, core_store, core_clr, core_nilck, core_bin, core_binb, core_un, core_fadr, core_iadr, core_sli, core_len, core_lenS, core_idxS, core_app, core_mki, core_call, core_extV, core_fld, core_mks, wrO_some, valO_some, lenV_sl, lenV_own, bin_eql, bin_neq, bin_lss, bin_leq, bin_gtr, bin_geq, bin_add, bin_sub, bin_mul, unop_not, asBool_lit, pickV_lit, load_ip, iadr_sl, iadr_own, ev_s, ev_k, get_cons, get_nil, put_cons, put_nil, putD_some, putD_none, keep_cons, keep_nil, initFr, Nat.reduceEqDiff, Nat.reduceLT, Nat.reduceAdd, if_true, if_false, List.mem_cons, List.not_mem_nil, or_false, false_or, or_true, true_or, or_self, ↓reduceIte, Nat.zero_add, decide_false, decide_true, Nat.reduceBEq, beq_self_eq_true, BEq.rfl, Option.map_some, Option.map_none, List.head?_cons, List.map_cons, List.map_nil, List.append_nil, List.nil_append, List.cons_append, Bool.not_true, Bool.not_false, cond_true, cond_false, Int.natCast_nonneg, Int.toNat_natCast, Int.ofNat_toNat, core_bslice1, bsV_int, codeW_drawn, headS_cons, headS_nil, headS_guard, hS_val, hS_new, tailS_nil, tailS_cons, tailS_guard, tlS_val, tlS_new, tlS_wr, tlS_fz, tlS_pan, anyMk_cons, anyMk_nil, makes, binb_eql, binb_neq, List.isEmpty_nil, List.isEmpty_cons, Bool.or_false, Bool.false_or, Bool.or_true, Bool.true_or, pickV_t, pickV_f, core_inv, core_callS, fnV_func, core_tas, tasV_iface, nilck_ptr, extV_tup, fldV_agg, List.getElem?_cons_zero, List.getElem?_cons_succ, iadr_g, hi, lenV_row, hlt, iadr_row, hg, h2]
    · have : (k == row[n]) = false := by simp; exact fun e => hk e.symm
      rw [this, Bool.false_or]
      have h2 : (row[n] == k) = false := by simp [hk]
      refine loopW_round ?_ (rneeds_loop g row i k hi hl m (n + 1) (by omega))
      simp -implicitDefEqProofs only [c10l0, codeW_seq, codeW_reg, codeW_cond, codeW_block, codeW_loop, codeW_skip, codeW_exit, codeW_ret, thenS_normal, thenS_if, thenS_ret, thenS_exit, thenS_pan, thenS_none, blockS_normal, blockS_exit, blockS_ret, blockS_pan, blockS_if, condS_some, ifS_true, ifS_false, opS_val, opS_new, opS_wr, opS_fz, opS_pan, bindO_some, runS_nil, runS_cons, runS_guard, gS_t, gS_f, gS_undef, asG_lit, asG_undef, core_mv, core_pick, core_alloc, core_load, core_store, core_clr, core_nilck, core_bin, core_binb, core_un, core_fadr, core_iadr, core_sli, core_len, core_lenS, core_idxS, core_app, core_mki, core_call, core_extV, core_fld, core_mks, wrO_some, valO_some, lenV_sl, lenV_own, bin_eql, bin_neq, bin_lss, bin_leq, bin_gtr, bin_geq, bin_add, bin_sub, bin_mul, unop_not, asBool_lit, pickV_lit, load_ip, iadr_sl, iadr_own, ev_s, ev_k, get_cons, get_nil, put_cons, put_nil, putD_some, putD_none, keep_cons, keep_nil, initFr, Nat.reduceEqDiff, Nat.reduceLT, Nat.reduceAdd, if_true, if_false, List.mem_cons, List.not_mem_nil, or_false, false_or, or_true, true_or, or_self, ↓reduceIte, Nat.zero_add, decide_false, decide_true, Nat.reduceBEq, beq_self_eq_true, BEq.rfl, Option.map_some, Option.map_none, List.head?_cons, List.map_cons, List.map_nil, List.append_nil, List.nil_append, List.cons_append, Bool.not_true, Bool.not_false, cond_true, cond_false, Int.natCast_nonneg, Int.toNat_natCast, Int.ofNat_toNat, core_bslice1, bsV_int, codeW_drawn, headS_cons, headS_nil, headS_guard, hS_val, hS_new, tailS_nil, tailS_cons, tailS_guard, tlS_val, tlS_new, tlS_wr, tlS_fz, tlS_pan, anyMk_cons, anyMk_nil, makes, binb_eql, binb_neq, List.isEmpty_nil, List.isEmpty_cons, Bool.or_false, Bool.false_or, Bool.or_true, Bool.true_or, pickV_t, pickV_f, core_inv, core_callS, fnV_func, core_tas, tasV_iface, nilck_ptr, extV_tup, fldV_agg, List.getElem?_cons_zero, List.getElem?_cons_succ, iadr_g, hi, lenV_row, hlt, iadr_row, hg, h2, hw]

theorem rneeds_tells (g : List (List Int)) (row : List Int) (i k : Nat) (hi : g[i]? = some row) (hl : row.length ≤ 1000) (hk : k < g.length) : cw 10 [gA g, litI .i64 i, litI .i64 k] [] = some (.ret (litB (row.contains (k : Int))), []) := by
  have hil : i < g.length := (List.getElem?_eq_some_iff.1 hi).1
  have h1 : ¬ (i : Int) < 0 := by omega
  have h2 : ¬ (g.length : Int) ≤ i := by omega
  have h3 : ¬ (k : Int) < 0 := by omega
  have h4 : ¬ (g.length : Int) ≤ k := by omega
  have L := rneeds_loop (call := cw) (mt := lookM mtl) (md := mds) g row i k hi hl row.length 0 (by omega)
  rw [List.drop_zero, show ((0 : Nat) : Int) = 0 from rfl] at L
  refine cw_of fn10 (c := c10) rfl rfl rfl rfl ?_
  cases hc : row.contains (k : Int) with
  | true =>
    rw [hc, if_pos rfl] at L
    simp -implicitDefEqProofs only [c10, codeW_seq, codeW_reg, codeW_cond, codeW_block, codeW_loop, codeW_skip, codeW_exit, codeW_ret, thenS_normal, thenS_if, thenS_ret, thenS_exit, thenS_pan, thenS_none, blockS_normal, blockS_exit, blockS_ret, blockS_pan, blockS_if, condS_some, ifS_true, ifS_false, opS_val, opS_new, opS_wr, opS_fz, opS_pan, bindO_some, runS_nil, runS_cons, runS_guard, gS_t, gS_f, gS_undef, asG_lit, asG_undef, core_mv, core_pick, core_alloc, core_load, core_store, core_clr, core_nilck, core_bin, core_binb, core_un, core_fadr, core_iadr, core_sli, core_len, core_lenS, core_idxS, core_app, core_mki, core_call, core_extV, core_fld, core_mks, wrO_some, valO_some, lenV_sl, lenV_own, bin_eql, bin_neq, bin_lss, bin_leq, bin_gtr, bin_geq, bin_add, bin_sub, bin_mul, unop_not, asBool_lit, pickV_lit, load_ip, iadr_sl, iadr_own, ev_s, ev_k, get_cons, get_nil, put_cons, put_nil, putD_some, putD_none, keep_cons, keep_nil, initFr, Nat.reduceEqDiff, Nat.reduceLT, Nat.reduceAdd, if_true, if_false, List.mem_cons, List.not_mem_nil, or_false, false_or, or_true, true_or, or_self, ↓reduceIte, Nat.zero_add, decide_false, decide_true, Nat.reduceBEq, beq_self_eq_true, BEq.rfl, Option.map_some, Option.map_none, List.head?_cons, List.map_cons, List.map_nil, List.append_nil, List.nil_append, List.cons_append, Bool.not_true, Bool.not_false, cond_true, cond_false, Int.natCast_nonneg, Int.toNat_natCast, Int.ofNat_toNat, core_bslice1, bsV_int, codeW_drawn, headS_cons, headS_nil, headS_guard, hS_val, hS_new, tailS_nil, tailS_cons, tailS_guard, tlS_val, tlS_new, tlS_wr, tlS_fz, tlS_pan, anyMk_cons, anyMk_nil, makes, binb_eql, binb_neq, List.isEmpty_nil, List.isEmpty_cons, Bool.or_false, Bool.false_or, Bool.or_true, Bool.true_or, pickV_t, pickV_f, core_inv, core_callS, fnV_func, core_tas, tasV_iface, nilck_ptr, extV_tup, fldV_agg, List.getElem?_cons_zero, List.getElem?_cons_succ, lenV_g, h1, h2, h3, h4, L]
    rfl
  | false =>
    rw [hc, if_neg (by simp)] at L
    simp -implicitDefEqProofs only [c10, codeW_seq, codeW_reg, codeW_cond, codeW_block, codeW_loop, codeW_skip, codeW_exit, codeW_ret, thenS_normal, thenS_if, thenS_ret, thenS_exit, thenS_pan, thenS_none, blockS_normal, blockS_exit, blockS_ret, blockS_pan, blockS_if, condS_some, ifS_true, ifS_false, opS_val, opS_new, opS_wr, opS_fz, opS_pan, bindO_some, runS_nil, runS_cons, runS_guard, gS_t, gS_f, gS_undef, asG_lit, asG_undef, core_mv, core_pick, core_alloc, core_load, core_store, core_clr, core_nilck, core_bin, core_binb, core_un, core_fadr, core_iadr, core_sli, core_len, core_lenS, core_idxS, core_app, core_mki, core_call, core_extV, core_fld, core_mks, wrO_some, valO_some, lenV_sl, lenV_own, bin_eql, bin_neq, bin_lss, bin_leq, bin_gtr, bin_geq, bin_add, bin_sub, bin_mul, unop_not, asBool_lit, pickV_lit, load_ip, iadr_sl, iadr_own, ev_s, ev_k, get_cons, get_nil, put_cons, put_nil, putD_some, putD_none, keep_cons, keep_nil, initFr, Nat.reduceEqDiff, Nat.reduceLT, Nat.reduceAdd, if_true, if_false, List.mem_cons, List.not_mem_nil, or_false, false_or, or_true, true_or, or_self, ↓reduceIte, Nat.zero_add, decide_false, decide_true, Nat.reduceBEq, beq_self_eq_true, BEq.rfl, Option.map_some, Option.map_none, List.head?_cons, List.map_cons, List.map_nil, List.append_nil, List.nil_append, List.cons_append, Bool.not_true, Bool.not_false, cond_true, cond_false, Int.natCast_nonneg, Int.toNat_natCast, Int.ofNat_toNat, core_bslice1, bsV_int, codeW_drawn, headS_cons, headS_nil, headS_guard, hS_val, hS_new, tailS_nil, tailS_cons, tailS_guard, tlS_val, tlS_new, tlS_wr, tlS_fz, tlS_pan, anyMk_cons, anyMk_nil, makes, binb_eql, binb_neq, List.isEmpty_nil, List.isEmpty_cons, Bool.or_false, Bool.false_or, Bool.or_true, Bool.true_or, pickV_t, pickV_f, core_inv, core_callS, fnV_func, core_tas, tasV_iface, nilck_ptr, extV_tup, fldV_agg, List.getElem?_cons_zero, List.getElem?_cons_succ, lenV_g, h1, h2, h3, h4, L]
    rfl
/-- Does place i need place k? -/
def needB (g : List (List Int)) (i k : Nat) : Bool := match g[i]? with | some row => row.contains (k : Int) | none => false
theorem needB_iff {g : List (List Int)} {i k : Nat} (hk : k < g.length) : needB g i k = true ↔ (k : Int) ∈ need g i := by
  unfold needB
  cases hg : g[i]? with
  | none => simp [need, hg]
  | some row =>
    rw [mem_need hg]
    simp only [List.contains_iff_mem]
    exact ⟨fun h => ⟨h, by omega, by omega⟩, fun h => h.1⟩
theorem rneeds_call (g : List (List Int)) (hf : fewG g = true) (i k : Nat) (hi : i < g.length) (hk : k < g.length) (H : List AO) (id : Nat) : callV cw mds 10 [gA g, litI .i64 i, litI .i64 k] H id = some (.val (litB (needB g i k)) none) := by
  obtain ⟨row, hrow⟩ : ∃ row, g[i]? = some row := ⟨_, List.getElem?_eq_getElem hi⟩
  have := rneeds_tells g row i k hrow (by have := few_row hf hrow; omega) hk
  have e : needB g i k = row.contains (k : Int) := by unfold needB; rw [hrow]
  rw [← e] at this
  exact callV_pure rfl rfl this rfl
end Go.Proofs.Ytoemnjclhheeoaa.Ai

namespace Go.Proofs.Ytoemnjclhheeoaa.Ai
open Go Go.Ai
set_option linter.unusedSimpArgs false
set_option linter.unusedVariables false

/-- Chapter 7's examples hold: by running them. -/
theorem awake_tells : ∃ H', cw 9 [] [] = some (.ret (litB true), H') := by
  have h0 : saysTrue (call (lookF tb) ovs (lookM mtl) mds 400 9 [] []) = true := by kernel_rfl
  obtain ⟨H', h⟩ := saysTrue_some h0
  exact ⟨H', callW_some.2 ⟨400, h⟩⟩
theorem awake_call (H : List AO) (id : Nat) : callV cw mds 9 [] H id = some (.val (litB true) none) := by
  obtain ⟨H', h⟩ := awake_tells
  exact callV_pure rfl rfl h rfl

theorem getD_set (l : List Bool) (n k : Nat) (b : Bool) (h : n < l.length) : (l.set n b).getD k false = if n = k then b else l.getD k false := by
  rw [List.getD_eq_getElem?_getD, List.getD_eq_getElem?_getD, List.getElem?_set]
  by_cases e : n = k
  · subst e; simp [h]
  · simp [e]
theorem getD_some {l : List Bool} {n : Nat} (h : n < l.length) : l[n]? = some (l.getD n false) := by
  rw [List.getD_eq_getElem?_getD, List.getElem?_eq_getElem h]; rfl

variable {call : CallF} {mt : MtF} {md : FuncId → Md}
/-- What one place reaches is joined. -/
theorem join_loop (g : List (List Int)) (hl : g.length ≤ 20) (i k : Nat) (A : AV) (s : List Bool) (hs : s.length = g.length) (c : Option Nat) : ∀ (m n : Nat) (w : List Bool), m + n = g.length → w.length = g.length →
    ∃ w', loopW (codeW call mt md c6l0) [0, 1, 5, 6, 7, 8, 9] [(0, gA g), (1, litI .i64 i), (5, A), (6, .own 0 0 g.length 1 (some g.length)), (7, litI .i64 k), (8, boolsA s c), (9, litI .i64 n)] [.row (cellsB w) 4] =
      some (EX.exit 2, [(0, gA g), (1, litI .i64 i), (5, A), (6, .own 0 0 g.length 1 (some g.length)), (7, litI .i64 k), (8, boolsA s c), (9, litI .i64 g.length), (66, litB false)], [.row (cellsB w') 4]) ∧
      w'.length = g.length ∧ ∀ q, w'.getD q false = (w.getD q false || (decide (n ≤ q) && s.getD q false))
  | 0, n, w, h, hw => by
    have hn : n = g.length := by omega
    subst hn
    refine ⟨w, loopW_out ?_ (by simp), hw, fun q => ?_⟩
    · simp -implicitDefEqProofs only [c6l0, codeW_seq, codeW_reg, codeW_cond, codeW_block, codeW_loop, codeW_skip, codeW_exit, codeW_ret, thenS_normal, thenS_if, thenS_ret, thenS_exit, thenS_pan, thenS_none, blockS_normal, blockS_exit, blockS_ret, blockS_pan, blockS_if, condS_some, ifS_true, ifS_false, opS_val, opS_new, opS_wr, opS_fz, opS_pan, bindO_some, runS_nil, runS_cons, runS_guard, gS_t, gS_f, gS_undef, asG_lit, asG_undef, core_mv, core_pick, core_alloc, core_load, core_store, core_clr, core_nilck, core_bin, core_binb, core_un, core_fadr, core_iadr, core_sli, core_len, core_lenS, core_idxS, core_app, core_mki, core_call, core_extV, core_fld, core_mks, wrO_some, valO_some, lenV_sl, lenV_own, bin_eql, bin_neq, bin_lss, bin_leq, bin_gtr, bin_geq, bin_add, bin_sub, bin_mul, unop_not, asBool_lit, pickV_lit, load_ip, iadr_sl, iadr_own, ev_s, ev_k, get_cons, get_nil, put_cons, put_nil, putD_some, putD_none, keep_cons, keep_nil, initFr, Nat.reduceEqDiff, Nat.reduceLT, Nat.reduceAdd, if_true, if_false, List.mem_cons, List.not_mem_nil, or_false, false_or, or_true, true_or, or_self, ↓reduceIte, Nat.zero_add, decide_false, decide_true, Nat.reduceBEq, beq_self_eq_true, BEq.rfl, Option.map_some, Option.map_none, List.head?_cons, List.map_cons, List.map_nil, List.append_nil, List.nil_append, List.cons_append, Bool.not_true, Bool.not_false, cond_true, cond_false, Int.natCast_nonneg, Int.toNat_natCast, Int.ofNat_toNat, core_bslice1, bsV_int, codeW_drawn, headS_cons, headS_nil, headS_guard, hS_val, hS_new, tailS_nil, tailS_cons, tailS_guard, tlS_val, tlS_new, tlS_wr, tlS_fz, tlS_pan, anyMk_cons, anyMk_nil, makes, binb_eql, binb_neq, List.isEmpty_nil, List.isEmpty_cons, Bool.or_false, Bool.false_or, Bool.or_true, Bool.true_or, pickV_t, pickV_f, core_inv, core_callS, fnV_func, core_tas, tasV_iface, nilck_ptr, extV_tup, fldV_agg, List.getElem?_cons_zero, List.getElem?_cons_succ, lenV_g, Int.lt_irrefl]
    · by_cases hq : g.length ≤ q
      · have : s.getD q false = false := by rw [List.getD_eq_getElem?_getD, List.getElem?_eq_none (by omega)]; rfl
        rw [this]; simp
      · simp [hq]
  | m + 1, n, w, h, hw => by
    have hn : n < g.length := by omega
    have hlt : (n : Int) < g.length := by omega
    have h0 : (0 : Int) ≤ n := by omega
    have hw1 := wrap1 (show n < 4611686018427387904 by omega)
    have hR : [AO.row (cellsB w) 4][0]? = some (.row (cellsB w) 4) := rfl
    have hwn : (cellsB w)[n]? = some (litB (w.getD n false)) := by rw [cellsB_get, getD_some (by omega)]; rfl
    have hsn : s[n]? = some (s.getD n false) := getD_some (by omega)
    have st : ∀ b, storeAt [AO.row (cellsB w) 4] 1 (.ptr 0 n) (litB b) = some [AO.row (cellsB (w.set n b)) 4] := by
      intro b
      rw [store_ptr hR (by rw [cellsB_len]; omega) rfl rfl, cellsB_set]; rfl
    obtain ⟨w', L, hl', hq'⟩ := join_loop g hl i k A s hs c m (n + 1) (w.set n (w.getD n false || s.getD n false)) (by omega) (by simpa using hw)
    refine ⟨w', loopW_round ?_ L, hl', fun q => ?_⟩
    · cases hb : w.getD n false with
      | true =>
        rw [hb] at hwn
        simp -implicitDefEqProofs only [c6l0, codeW_seq, codeW_reg, codeW_cond, codeW_block, codeW_loop, codeW_skip, codeW_exit, codeW_ret, thenS_normal, thenS_if, thenS_ret, thenS_exit, thenS_pan, thenS_none, blockS_normal, blockS_exit, blockS_ret, blockS_pan, blockS_if, condS_some, ifS_true, ifS_false, opS_val, opS_new, opS_wr, opS_fz, opS_pan, bindO_some, runS_nil, runS_cons, runS_guard, gS_t, gS_f, gS_undef, asG_lit, asG_undef, core_mv, core_pick, core_alloc, core_load, core_store, core_clr, core_nilck, core_bin, core_binb, core_un, core_fadr, core_iadr, core_sli, core_len, core_lenS, core_idxS, core_app, core_mki, core_call, core_extV, core_fld, core_mks, wrO_some, valO_some, lenV_sl, lenV_own, bin_eql, bin_neq, bin_lss, bin_leq, bin_gtr, bin_geq, bin_add, bin_sub, bin_mul, unop_not, asBool_lit, pickV_lit, load_ip, iadr_sl, iadr_own, ev_s, ev_k, get_cons, get_nil, put_cons, put_nil, putD_some, putD_none, keep_cons, keep_nil, initFr, Nat.reduceEqDiff, Nat.reduceLT, Nat.reduceAdd, if_true, if_false, List.mem_cons, List.not_mem_nil, or_false, false_or, or_true, true_or, or_self, ↓reduceIte, Nat.zero_add, decide_false, decide_true, Nat.reduceBEq, beq_self_eq_true, BEq.rfl, Option.map_some, Option.map_none, List.head?_cons, List.map_cons, List.map_nil, List.append_nil, List.nil_append, List.cons_append, Bool.not_true, Bool.not_false, cond_true, cond_false, Int.natCast_nonneg, Int.toNat_natCast, Int.ofNat_toNat, core_bslice1, bsV_int, codeW_drawn, headS_cons, headS_nil, headS_guard, hS_val, hS_new, tailS_nil, tailS_cons, tailS_guard, tlS_val, tlS_new, tlS_wr, tlS_fz, tlS_pan, anyMk_cons, anyMk_nil, makes, binb_eql, binb_neq, List.isEmpty_nil, List.isEmpty_cons, Bool.or_false, Bool.false_or, Bool.or_true, Bool.true_or, pickV_t, pickV_f, core_inv, core_callS, fnV_func, core_tas, tasV_iface, nilck_ptr, extV_tup, fldV_agg, List.getElem?_cons_zero, List.getElem?_cons_succ, lenV_g, lenV_bools, hs, hlt, h0, and_self, load_ptr hR, hwn, Nat.mul_one, hw1, st]
      | false =>
        rw [hb] at hwn
        simp -implicitDefEqProofs only [c6l0, codeW_seq, codeW_reg, codeW_cond, codeW_block, codeW_loop, codeW_skip, codeW_exit, codeW_ret, thenS_normal, thenS_if, thenS_ret, thenS_exit, thenS_pan, thenS_none, blockS_normal, blockS_exit, blockS_ret, blockS_pan, blockS_if, condS_some, ifS_true, ifS_false, opS_val, opS_new, opS_wr, opS_fz, opS_pan, bindO_some, runS_nil, runS_cons, runS_guard, gS_t, gS_f, gS_undef, asG_lit, asG_undef, core_mv, core_pick, core_alloc, core_load, core_store, core_clr, core_nilck, core_bin, core_binb, core_un, core_fadr, core_iadr, core_sli, core_len, core_lenS, core_idxS, core_app, core_mki, core_call, core_extV, core_fld, core_mks, wrO_some, valO_some, lenV_sl, lenV_own, bin_eql, bin_neq, bin_lss, bin_leq, bin_gtr, bin_geq, bin_add, bin_sub, bin_mul, unop_not, asBool_lit, pickV_lit, load_ip, iadr_sl, iadr_own, ev_s, ev_k, get_cons, get_nil, put_cons, put_nil, putD_some, putD_none, keep_cons, keep_nil, initFr, Nat.reduceEqDiff, Nat.reduceLT, Nat.reduceAdd, if_true, if_false, List.mem_cons, List.not_mem_nil, or_false, false_or, or_true, true_or, or_self, ↓reduceIte, Nat.zero_add, decide_false, decide_true, Nat.reduceBEq, beq_self_eq_true, BEq.rfl, Option.map_some, Option.map_none, List.head?_cons, List.map_cons, List.map_nil, List.append_nil, List.nil_append, List.cons_append, Bool.not_true, Bool.not_false, cond_true, cond_false, Int.natCast_nonneg, Int.toNat_natCast, Int.ofNat_toNat, core_bslice1, bsV_int, codeW_drawn, headS_cons, headS_nil, headS_guard, hS_val, hS_new, tailS_nil, tailS_cons, tailS_guard, tlS_val, tlS_new, tlS_wr, tlS_fz, tlS_pan, anyMk_cons, anyMk_nil, makes, binb_eql, binb_neq, List.isEmpty_nil, List.isEmpty_cons, Bool.or_false, Bool.false_or, Bool.or_true, Bool.true_or, pickV_t, pickV_f, core_inv, core_callS, fnV_func, core_tas, tasV_iface, nilck_ptr, extV_tup, fldV_agg, List.getElem?_cons_zero, List.getElem?_cons_succ, lenV_g, lenV_bools, hs, hlt, h0, and_self, load_ptr hR, hwn, Nat.mul_one, hw1, st, iadr_bools, hsn]
    · rw [hq', getD_set _ _ _ _ (by omega)]
      by_cases e : n = q
      · subst e
        have : ¬ n + 1 ≤ n := by omega
        simp [this]
      · rw [if_neg e]
        by_cases e2 : n ≤ q
        · have : n + 1 ≤ q := by omega
          simp [e2, this]
        · have : ¬ n + 1 ≤ q := by omega
          simp [e2, this]

/-- What places reach that are needed is joined. -/
theorem want_loop (g : List (List Int)) (hf : fewG g = true) (i : Nat) (hi : i < g.length) (A : AV) : ∀ (m n : Nat) (w : List Bool), m + n = g.length → w.length = g.length →
    ∃ w', loopW (codeW cw (lookM mtl) mds c6l1) [0, 1, 5, 6, 7] [(0, gA g), (1, litI .i64 i), (5, A), (6, .own 0 0 g.length 1 (some g.length)), (7, litI .i64 n)] [.row (cellsB w) 4] =
      some (EX.exit 0, [(0, gA g), (1, litI .i64 i), (5, A), (6, .own 0 0 g.length 1 (some g.length)), (7, litI .i64 g.length), (43, litB false)], [.row (cellsB w') 4]) ∧
      w'.length = g.length ∧ ∀ q, q < g.length → (w'.getD q false = true ↔ (w.getD q false = true ∨ ∃ k, n ≤ k ∧ k < g.length ∧ (k : Int) ∈ need g i ∧ (k = q ∨ Road g k q)))
  | 0, n, w, h, hw => by
    have hn : n = g.length := by omega
    subst hn
    refine ⟨w, loopW_out ?_ (by simp), hw, fun q hq => ?_⟩
    · simp -implicitDefEqProofs only [c6l1, codeW_seq, codeW_reg, codeW_cond, codeW_block, codeW_loop, codeW_skip, codeW_exit, codeW_ret, thenS_normal, thenS_if, thenS_ret, thenS_exit, thenS_pan, thenS_none, blockS_normal, blockS_exit, blockS_ret, blockS_pan, blockS_if, condS_some, ifS_true, ifS_false, opS_val, opS_new, opS_wr, opS_fz, opS_pan, bindO_some, runS_nil, runS_cons, runS_guard, gS_t, gS_f, gS_undef, asG_lit, asG_undef, core_mv, core_pick, core_alloc, core_load, core_store, core_clr, core_nilck, core_bin, core_binb, core_un, core_fadr, core_iadr, core_sli, core_len, core_lenS, core_idxS, core_app, core_mki, core_call, core_extV, core_fld, core_mks, wrO_some, valO_some, lenV_sl, lenV_own, bin_eql, bin_neq, bin_lss, bin_leq, bin_gtr, bin_geq, bin_add, bin_sub, bin_mul, unop_not, asBool_lit, pickV_lit, load_ip, iadr_sl, iadr_own, ev_s, ev_k, get_cons, get_nil, put_cons, put_nil, putD_some, putD_none, keep_cons, keep_nil, initFr, Nat.reduceEqDiff, Nat.reduceLT, Nat.reduceAdd, if_true, if_false, List.mem_cons, List.not_mem_nil, or_false, false_or, or_true, true_or, or_self, ↓reduceIte, Nat.zero_add, decide_false, decide_true, Nat.reduceBEq, beq_self_eq_true, BEq.rfl, Option.map_some, Option.map_none, List.head?_cons, List.map_cons, List.map_nil, List.append_nil, List.nil_append, List.cons_append, Bool.not_true, Bool.not_false, cond_true, cond_false, Int.natCast_nonneg, Int.toNat_natCast, Int.ofNat_toNat, core_bslice1, bsV_int, codeW_drawn, headS_cons, headS_nil, headS_guard, hS_val, hS_new, tailS_nil, tailS_cons, tailS_guard, tlS_val, tlS_new, tlS_wr, tlS_fz, tlS_pan, anyMk_cons, anyMk_nil, makes, binb_eql, binb_neq, List.isEmpty_nil, List.isEmpty_cons, Bool.or_false, Bool.false_or, Bool.or_true, Bool.true_or, pickV_t, pickV_f, core_inv, core_callS, fnV_func, core_tas, tasV_iface, nilck_ptr, extV_tup, fldV_agg, List.getElem?_cons_zero, List.getElem?_cons_succ, lenV_g, Int.lt_irrefl]
    · constructor
      · exact .inl
      · rintro (h | ⟨k, h1, h2, _⟩)
        · exact h
        · omega
  | m + 1, n, w, h, hw => by
    have hn : n < g.length := by omega
    have hlt : (n : Int) < g.length := by omega
    have h0 : (0 : Int) ≤ n := by omega
    have h20 := few_len hf
    have hw1 := wrap1 (show n < 4611686018427387904 by omega)
    have hR : [AO.row (cellsB w) 4][0]? = some (.row (cellsB w) 4) := rfl
    have hc := fun H id => rneeds_call g hf i n hi hn H id
    cases hb : needB g i n with
    | false =>
      obtain ⟨w', L, hl', hq'⟩ := want_loop g hf i hi A m (n + 1) w (by omega) hw
      refine ⟨w', loopW_round ?_ L, hl', fun q hq => ?_⟩
      · simp -implicitDefEqProofs only [c6l1, codeW_seq, codeW_reg, codeW_cond, codeW_block, codeW_loop, codeW_skip, codeW_exit, codeW_ret, thenS_normal, thenS_if, thenS_ret, thenS_exit, thenS_pan, thenS_none, blockS_normal, blockS_exit, blockS_ret, blockS_pan, blockS_if, condS_some, ifS_true, ifS_false, opS_val, opS_new, opS_wr, opS_fz, opS_pan, bindO_some, runS_nil, runS_cons, runS_guard, gS_t, gS_f, gS_undef, asG_lit, asG_undef, core_mv, core_pick, core_alloc, core_load, core_store, core_clr, core_nilck, core_bin, core_binb, core_un, core_fadr, core_iadr, core_sli, core_len, core_lenS, core_idxS, core_app, core_mki, core_call, core_extV, core_fld, core_mks, wrO_some, valO_some, lenV_sl, lenV_own, bin_eql, bin_neq, bin_lss, bin_leq, bin_gtr, bin_geq, bin_add, bin_sub, bin_mul, unop_not, asBool_lit, pickV_lit, load_ip, iadr_sl, iadr_own, ev_s, ev_k, get_cons, get_nil, put_cons, put_nil, putD_some, putD_none, keep_cons, keep_nil, initFr, Nat.reduceEqDiff, Nat.reduceLT, Nat.reduceAdd, if_true, if_false, List.mem_cons, List.not_mem_nil, or_false, false_or, or_true, true_or, or_self, ↓reduceIte, Nat.zero_add, decide_false, decide_true, Nat.reduceBEq, beq_self_eq_true, BEq.rfl, Option.map_some, Option.map_none, List.head?_cons, List.map_cons, List.map_nil, List.append_nil, List.nil_append, List.cons_append, Bool.not_true, Bool.not_false, cond_true, cond_false, Int.natCast_nonneg, Int.toNat_natCast, Int.ofNat_toNat, core_bslice1, bsV_int, codeW_drawn, headS_cons, headS_nil, headS_guard, hS_val, hS_new, tailS_nil, tailS_cons, tailS_guard, tlS_val, tlS_new, tlS_wr, tlS_fz, tlS_pan, anyMk_cons, anyMk_nil, makes, binb_eql, binb_neq, List.isEmpty_nil, List.isEmpty_cons, Bool.or_false, Bool.false_or, Bool.or_true, Bool.true_or, pickV_t, pickV_f, core_inv, core_callS, fnV_func, core_tas, tasV_iface, nilck_ptr, extV_tup, fldV_agg, List.getElem?_cons_zero, List.getElem?_cons_succ, lenV_g, hlt, hc, hb, hw1]
      · rw [hq' q hq]
        have hnn : ¬ (n : Int) ∈ need g i := by rw [← needB_iff hn, hb]; simp
        constructor
        · rintro (h | ⟨k, h1, h2⟩)
          · exact .inl h
          · exact .inr ⟨k, by omega, h2⟩
        · rintro (h | ⟨k, h1, h2, h3, h4⟩)
          · exact .inl h
          · have : n ≠ k := by intro e; subst e; exact hnn h3
            exact .inr ⟨k, by omega, h2, h3, h4⟩
    | true =>
      have hr := fun H id => reach_call g hf n hn H id
      have st : storeAt [AO.row (cellsB w) 4] 1 (.ptr 0 n) (litB true) = some [AO.row (cellsB (w.set n true)) 4] := by
        rw [store_ptr hR (by rw [cellsB_len]; omega) rfl rfl, cellsB_set]; rfl
      obtain ⟨w1, L1, hl1, hq1⟩ := join_loop (call := cw) (mt := lookM mtl) (md := mds) g h20 i n A (reachL g n) (reachL_len g n) (some g.length) g.length 0 (w.set n true) (by omega) (by simpa using hw)
      rw [show ((0 : Nat) : Int) = 0 from rfl] at L1
      obtain ⟨w', L, hl', hq'⟩ := want_loop g hf i hi A m (n + 1) w1 (by omega) hl1
      refine ⟨w', loopW_round ?_ L, hl', fun q hq => ?_⟩
      · simp -implicitDefEqProofs only [c6l1, codeW_seq, codeW_reg, codeW_cond, codeW_block, codeW_loop, codeW_skip, codeW_exit, codeW_ret, thenS_normal, thenS_if, thenS_ret, thenS_exit, thenS_pan, thenS_none, blockS_normal, blockS_exit, blockS_ret, blockS_pan, blockS_if, condS_some, ifS_true, ifS_false, opS_val, opS_new, opS_wr, opS_fz, opS_pan, bindO_some, runS_nil, runS_cons, runS_guard, gS_t, gS_f, gS_undef, asG_lit, asG_undef, core_mv, core_pick, core_alloc, core_load, core_store, core_clr, core_nilck, core_bin, core_binb, core_un, core_fadr, core_iadr, core_sli, core_len, core_lenS, core_idxS, core_app, core_mki, core_call, core_extV, core_fld, core_mks, wrO_some, valO_some, lenV_sl, lenV_own, bin_eql, bin_neq, bin_lss, bin_leq, bin_gtr, bin_geq, bin_add, bin_sub, bin_mul, unop_not, asBool_lit, pickV_lit, load_ip, iadr_sl, iadr_own, ev_s, ev_k, get_cons, get_nil, put_cons, put_nil, putD_some, putD_none, keep_cons, keep_nil, initFr, Nat.reduceEqDiff, Nat.reduceLT, Nat.reduceAdd, if_true, if_false, List.mem_cons, List.not_mem_nil, or_false, false_or, or_true, true_or, or_self, ↓reduceIte, Nat.zero_add, decide_false, decide_true, Nat.reduceBEq, beq_self_eq_true, BEq.rfl, Option.map_some, Option.map_none, List.head?_cons, List.map_cons, List.map_nil, List.append_nil, List.nil_append, List.cons_append, Bool.not_true, Bool.not_false, cond_true, cond_false, Int.natCast_nonneg, Int.toNat_natCast, Int.ofNat_toNat, core_bslice1, bsV_int, codeW_drawn, headS_cons, headS_nil, headS_guard, hS_val, hS_new, tailS_nil, tailS_cons, tailS_guard, tlS_val, tlS_new, tlS_wr, tlS_fz, tlS_pan, anyMk_cons, anyMk_nil, makes, binb_eql, binb_neq, List.isEmpty_nil, List.isEmpty_cons, Bool.or_false, Bool.false_or, Bool.or_true, Bool.true_or, pickV_t, pickV_f, core_inv, core_callS, fnV_func, core_tas, tasV_iface, nilck_ptr, extV_tup, fldV_agg, List.getElem?_cons_zero, List.getElem?_cons_succ, lenV_g, hlt, h0, hc, hb, hw1, hr, st, L1, and_self, Nat.mul_one]
      · have hnn : (n : Int) ∈ need g i := by rw [← needB_iff hn, hb]
        have hroad := reachL_road hf n q hq
        rw [List.getElem?_eq_getElem (by rw [reachL_len]; exact hq)] at hroad
        have hgd : (reachL g n).getD q false = (reachL g n)[q]'(by rw [reachL_len]; exact hq) := by
          rw [List.getD_eq_getElem?_getD, List.getElem?_eq_getElem (by rw [reachL_len]; exact hq)]; rfl
        rw [hq' q hq, hq1, getD_set _ _ _ _ (by omega), hgd]
        simp only [Nat.zero_le, decide_true, Bool.true_and, Bool.or_eq_true]
        simp only [Option.some.injEq] at hroad
        rw [hroad]
        constructor
        · rintro ((h | h) | ⟨k, h1, h2⟩)
          · by_cases e : n = q
            · exact .inr ⟨n, Nat.le_refl _, hn, hnn, .inl e⟩
            · rw [if_neg e] at h; exact .inl h
          · exact .inr ⟨n, Nat.le_refl _, hn, hnn, .inr h⟩
          · exact .inr ⟨k, by omega, h2⟩
        · rintro (h | ⟨k, h1, h2, h3, h4⟩)
          · left; left
            by_cases e : n = q
            · rw [if_pos e]
            · rw [if_neg e]; exact h
          · by_cases e : n = k
            · subst e
              left
              rcases h4 with h4 | h4
              · left; rw [if_pos h4]
              · exact .inr h4
            · exact .inr ⟨k, by omega, h2, h3, h4⟩

/-- Two rows are the same. -/
theorem cmp_loop (g : List (List Int)) (hl : g.length ≤ 20) (r w : List Bool) (c : Option Nat) (hr : r.length = g.length) (hw : w.length = g.length) (he : ∀ q, q < g.length → r.getD q false = w.getD q false) : ∀ (m n : Nat), m + n = g.length →
    loopW (codeW call mt md c6l2) [0, 5, 6, 10] [(0, gA g), (5, boolsA r c), (6, .own 0 0 g.length 1 (some g.length)), (10, litI .i64 n)] [.row (cellsB w) 4] =
      some (EX.exit 4, [(0, gA g), (5, boolsA r c), (6, .own 0 0 g.length 1 (some g.length)), (10, litI .i64 g.length), (85, litB false)], [.row (cellsB w) 4])
  | 0, n, h => by
    have hn : n = g.length := by omega
    subst hn
    refine loopW_out ?_ (by simp)
    simp -implicitDefEqProofs only [c6l2, codeW_seq, codeW_reg, codeW_cond, codeW_block, codeW_loop, codeW_skip, codeW_exit, codeW_ret, thenS_normal, thenS_if, thenS_ret, thenS_exit, thenS_pan, thenS_none, blockS_normal, blockS_exit, blockS_ret, blockS_pan, blockS_if, condS_some, ifS_true, ifS_false, opS_val, opS_new, opS_wr, opS_fz, opS_pan, bindO_some, runS_nil, runS_cons, runS_guard, gS_t, gS_f, gS_undef, asG_lit, asG_undef, core_mv, core_pick, core_alloc, core_load, core_store, core_clr, core_nilck, core_bin, core_binb, core_un, core_fadr, core_iadr, core_sli, core_len, core_lenS, core_idxS, core_app, core_mki, core_call, core_extV, core_fld, core_mks, wrO_some, valO_some, lenV_sl, lenV_own, bin_eql, bin_neq, bin_lss, bin_leq, bin_gtr, bin_geq, bin_add, bin_sub, bin_mul, unop_not, asBool_lit, pickV_lit, load_ip, iadr_sl, iadr_own, ev_s, ev_k, get_cons, get_nil, put_cons, put_nil, putD_some, putD_none, keep_cons, keep_nil, initFr, Nat.reduceEqDiff, Nat.reduceLT, Nat.reduceAdd, if_true, if_false, List.mem_cons, List.not_mem_nil, or_false, false_or, or_true, true_or, or_self, ↓reduceIte, Nat.zero_add, decide_false, decide_true, Nat.reduceBEq, beq_self_eq_true, BEq.rfl, Option.map_some, Option.map_none, List.head?_cons, List.map_cons, List.map_nil, List.append_nil, List.nil_append, List.cons_append, Bool.not_true, Bool.not_false, cond_true, cond_false, Int.natCast_nonneg, Int.toNat_natCast, Int.ofNat_toNat, core_bslice1, bsV_int, codeW_drawn, headS_cons, headS_nil, headS_guard, hS_val, hS_new, tailS_nil, tailS_cons, tailS_guard, tlS_val, tlS_new, tlS_wr, tlS_fz, tlS_pan, anyMk_cons, anyMk_nil, makes, binb_eql, binb_neq, List.isEmpty_nil, List.isEmpty_cons, Bool.or_false, Bool.false_or, Bool.or_true, Bool.true_or, pickV_t, pickV_f, core_inv, core_callS, fnV_func, core_tas, tasV_iface, nilck_ptr, extV_tup, fldV_agg, List.getElem?_cons_zero, List.getElem?_cons_succ, lenV_g, Int.lt_irrefl]
  | m + 1, n, h => by
    have hn : n < g.length := by omega
    have hlt : (n : Int) < g.length := by omega
    have h0 : (0 : Int) ≤ n := by omega
    have hw1 := wrap1 (show n < 4611686018427387904 by omega)
    have hR : [AO.row (cellsB w) 4][0]? = some (.row (cellsB w) 4) := rfl
    have hwn : (cellsB w)[n]? = some (litB (w.getD n false)) := by rw [cellsB_get, getD_some (by omega)]; rfl
    have hrn : r[n]? = some (w.getD n false) := by rw [getD_some (by omega), he n hn]
    refine loopW_round ?_ (cmp_loop g hl r w c hr hw he m (n + 1) (by omega))
    simp -implicitDefEqProofs only [c6l2, codeW_seq, codeW_reg, codeW_cond, codeW_block, codeW_loop, codeW_skip, codeW_exit, codeW_ret, thenS_normal, thenS_if, thenS_ret, thenS_exit, thenS_pan, thenS_none, blockS_normal, blockS_exit, blockS_ret, blockS_pan, blockS_if, condS_some, ifS_true, ifS_false, opS_val, opS_new, opS_wr, opS_fz, opS_pan, bindO_some, runS_nil, runS_cons, runS_guard, gS_t, gS_f, gS_undef, asG_lit, asG_undef, core_mv, core_pick, core_alloc, core_load, core_store, core_clr, core_nilck, core_bin, core_binb, core_un, core_fadr, core_iadr, core_sli, core_len, core_lenS, core_idxS, core_app, core_mki, core_call, core_extV, core_fld, core_mks, wrO_some, valO_some, lenV_sl, lenV_own, bin_eql, bin_neq, bin_lss, bin_leq, bin_gtr, bin_geq, bin_add, bin_sub, bin_mul, unop_not, asBool_lit, pickV_lit, load_ip, iadr_sl, iadr_own, ev_s, ev_k, get_cons, get_nil, put_cons, put_nil, putD_some, putD_none, keep_cons, keep_nil, initFr, Nat.reduceEqDiff, Nat.reduceLT, Nat.reduceAdd, if_true, if_false, List.mem_cons, List.not_mem_nil, or_false, false_or, or_true, true_or, or_self, ↓reduceIte, Nat.zero_add, decide_false, decide_true, Nat.reduceBEq, beq_self_eq_true, BEq.rfl, Option.map_some, Option.map_none, List.head?_cons, List.map_cons, List.map_nil, List.append_nil, List.nil_append, List.cons_append, Bool.not_true, Bool.not_false, cond_true, cond_false, Int.natCast_nonneg, Int.toNat_natCast, Int.ofNat_toNat, core_bslice1, bsV_int, codeW_drawn, headS_cons, headS_nil, headS_guard, hS_val, hS_new, tailS_nil, tailS_cons, tailS_guard, tlS_val, tlS_new, tlS_wr, tlS_fz, tlS_pan, anyMk_cons, anyMk_nil, makes, binb_eql, binb_neq, List.isEmpty_nil, List.isEmpty_cons, Bool.or_false, Bool.false_or, Bool.or_true, Bool.true_or, pickV_t, pickV_f, core_inv, core_callS, fnV_func, core_tas, tasV_iface, nilck_ptr, extV_tup, fldV_agg, List.getElem?_cons_zero, List.getElem?_cons_succ, lenV_g, hlt, h0, and_self, load_ptr hR, hwn, iadr_bools, hrn, Nat.mul_one, hw1]

theorem rem_place (i : Int) {n : Nat} (h : 0 < n) (hn : n ≤ 20) : ∃ k : Nat, k < n ∧ (i.tmod n + n).tmod n = k ∧ IntKind.wrap .i64 (i.tmod n + n) = i.tmod n + n := by
  have h1 : i.tmod n < n := Int.tmod_lt_of_pos i (by omega)
  have h2 : -(n : Int) < i.tmod n := by
    have := Int.lt_tmod_of_pos i (b := n) (by omega)
    exact this
  refine ⟨((i.tmod n + n).tmod n).toNat, ?_, ?_, by rw [wrap_small] <;> omega⟩
  · have h3 : (i.tmod n + n).tmod n < n := Int.tmod_lt_of_pos _ (by omega)
    omega
  · have h4 : 0 ≤ (i.tmod n + n).tmod n := Int.tmod_nonneg _ (by omega)
    omega

theorem road_lt {g : List (List Int)} {i k : Nat} (r : Road g i k) : k < g.length := by
  induction r with
  | one h => have := need_rng _ _ h; omega
  | more _ _ ih => exact ih

theorem law_tells (g : List (List Int)) (i : Int) : ∃ H', cw 6 [gA g, litI .i64 i] [] = some (.ret (litB true), H') := by
  cases hf : fewG g with
  | false =>
    refine ⟨[], cw_of fn6 (c := c6) rfl rfl rfl rfl ?_⟩
    simp -implicitDefEqProofs only [c6, codeW_seq, codeW_reg, codeW_cond, codeW_block, codeW_loop, codeW_skip, codeW_exit, codeW_ret, thenS_normal, thenS_if, thenS_ret, thenS_exit, thenS_pan, thenS_none, blockS_normal, blockS_exit, blockS_ret, blockS_pan, blockS_if, condS_some, ifS_true, ifS_false, opS_val, opS_new, opS_wr, opS_fz, opS_pan, bindO_some, runS_nil, runS_cons, runS_guard, gS_t, gS_f, gS_undef, asG_lit, asG_undef, core_mv, core_pick, core_alloc, core_load, core_store, core_clr, core_nilck, core_bin, core_binb, core_un, core_fadr, core_iadr, core_sli, core_len, core_lenS, core_idxS, core_app, core_mki, core_call, core_extV, core_fld, core_mks, wrO_some, valO_some, lenV_sl, lenV_own, bin_eql, bin_neq, bin_lss, bin_leq, bin_gtr, bin_geq, bin_add, bin_sub, bin_mul, unop_not, asBool_lit, pickV_lit, load_ip, iadr_sl, iadr_own, ev_s, ev_k, get_cons, get_nil, put_cons, put_nil, putD_some, putD_none, keep_cons, keep_nil, initFr, Nat.reduceEqDiff, Nat.reduceLT, Nat.reduceAdd, if_true, if_false, List.mem_cons, List.not_mem_nil, or_false, false_or, or_true, true_or, or_self, ↓reduceIte, Nat.zero_add, decide_false, decide_true, Nat.reduceBEq, beq_self_eq_true, BEq.rfl, Option.map_some, Option.map_none, List.head?_cons, List.map_cons, List.map_nil, List.append_nil, List.nil_append, List.cons_append, Bool.not_true, Bool.not_false, cond_true, cond_false, Int.natCast_nonneg, Int.toNat_natCast, Int.ofNat_toNat, core_bslice1, bsV_int, codeW_drawn, headS_cons, headS_nil, headS_guard, hS_val, hS_new, tailS_nil, tailS_cons, tailS_guard, tlS_val, tlS_new, tlS_wr, tlS_fz, tlS_pan, anyMk_cons, anyMk_nil, makes, binb_eql, binb_neq, List.isEmpty_nil, List.isEmpty_cons, Bool.or_false, Bool.false_or, Bool.or_true, Bool.true_or, pickV_t, pickV_f, core_inv, core_callS, fnV_func, core_tas, tasV_iface, nilck_ptr, extV_tup, fldV_agg, List.getElem?_cons_zero, List.getElem?_cons_succ, few_call, hf]
    rfl
  | true =>
    by_cases hn : g.length = 0
    · refine ⟨[], cw_of fn6 (c := c6) rfl rfl rfl rfl ?_⟩
      have : ((g.length : Int) == 0) = true := by simp [hn]
      simp -implicitDefEqProofs only [c6, codeW_seq, codeW_reg, codeW_cond, codeW_block, codeW_loop, codeW_skip, codeW_exit, codeW_ret, thenS_normal, thenS_if, thenS_ret, thenS_exit, thenS_pan, thenS_none, blockS_normal, blockS_exit, blockS_ret, blockS_pan, blockS_if, condS_some, ifS_true, ifS_false, opS_val, opS_new, opS_wr, opS_fz, opS_pan, bindO_some, runS_nil, runS_cons, runS_guard, gS_t, gS_f, gS_undef, asG_lit, asG_undef, core_mv, core_pick, core_alloc, core_load, core_store, core_clr, core_nilck, core_bin, core_binb, core_un, core_fadr, core_iadr, core_sli, core_len, core_lenS, core_idxS, core_app, core_mki, core_call, core_extV, core_fld, core_mks, wrO_some, valO_some, lenV_sl, lenV_own, bin_eql, bin_neq, bin_lss, bin_leq, bin_gtr, bin_geq, bin_add, bin_sub, bin_mul, unop_not, asBool_lit, pickV_lit, load_ip, iadr_sl, iadr_own, ev_s, ev_k, get_cons, get_nil, put_cons, put_nil, putD_some, putD_none, keep_cons, keep_nil, initFr, Nat.reduceEqDiff, Nat.reduceLT, Nat.reduceAdd, if_true, if_false, List.mem_cons, List.not_mem_nil, or_false, false_or, or_true, true_or, or_self, ↓reduceIte, Nat.zero_add, decide_false, decide_true, Nat.reduceBEq, beq_self_eq_true, BEq.rfl, Option.map_some, Option.map_none, List.head?_cons, List.map_cons, List.map_nil, List.append_nil, List.nil_append, List.cons_append, Bool.not_true, Bool.not_false, cond_true, cond_false, Int.natCast_nonneg, Int.toNat_natCast, Int.ofNat_toNat, core_bslice1, bsV_int, codeW_drawn, headS_cons, headS_nil, headS_guard, hS_val, hS_new, tailS_nil, tailS_cons, tailS_guard, tlS_val, tlS_new, tlS_wr, tlS_fz, tlS_pan, anyMk_cons, anyMk_nil, makes, binb_eql, binb_neq, List.isEmpty_nil, List.isEmpty_cons, Bool.or_false, Bool.false_or, Bool.or_true, Bool.true_or, pickV_t, pickV_f, core_inv, core_callS, fnV_func, core_tas, tasV_iface, nilck_ptr, extV_tup, fldV_agg, List.getElem?_cons_zero, List.getElem?_cons_succ, few_call, hf, lenV_g, this]
      rfl
    · have h20 := few_len hf
      have hz : ((g.length : Int) == 0) = false := by rw [beq_eq_false_iff_ne]; omega
      have hnz : (g.length : Int) ≠ 0 := by omega
      obtain ⟨k, hk, e1, e2⟩ := rem_place i (n := g.length) (by omega) h20
      have hm := mksV_ok (id := 0) (e := 1) (bytes := 1) (z := [litB false]) (t := 4) (n := g.length) (by omega) (by omega)
      rw [cells_rep] at hm
      have hne : ((g.length : Int) != g.length) = false := by simp
      obtain ⟨w, L1, hw, hq⟩ := want_loop g hf k hk (boolsA (reachL g k) (some g.length)) g.length 0 (List.replicate g.length false) (by omega) (by simp)
      rw [show ((0 : Nat) : Int) = 0 from rfl] at L1
      have he : ∀ q, q < g.length → (reachL g k).getD q false = w.getD q false := by
        intro q hql
        have h1 := hq q hql
        have h2 := reachL_road hf k q hql
        rw [getD_some (by rw [reachL_len]; exact hql), Option.some.injEq] at h2
        rw [Bool.eq_iff_iff, h1, h2]
        have h3 : (List.replicate g.length false).getD q false = false := by simp [List.getD_eq_getElem?_getD, List.getElem?_replicate, hql]
        rw [h3]
        constructor
        · intro r
          right
          cases r with
          | one h => exact ⟨q, by omega, hql, h, .inl rfl⟩
          | more h r => exact ⟨_, by omega, by have := need_rng _ _ h; omega, h, .inr r⟩
        · rintro (h | ⟨j, _, _, h, rfl | r⟩)
          · cases h
          · exact .one h
          · exact .more h r
      have L2 := cmp_loop (call := cw) (mt := lookM mtl) (md := mds) g h20 (reachL g k) w (some g.length) (reachL_len g k) hw he g.length 0 (by omega)
      rw [show ((0 : Nat) : Int) = 0 from rfl] at L2
      refine ⟨[.row (cellsB w) 4], cw_of fn6 (c := c6) rfl rfl rfl rfl ?_⟩
      simp -implicitDefEqProofs only [c6, codeW_seq, codeW_reg, codeW_cond, codeW_block, codeW_loop, codeW_skip, codeW_exit, codeW_ret, thenS_normal, thenS_if, thenS_ret, thenS_exit, thenS_pan, thenS_none, blockS_normal, blockS_exit, blockS_ret, blockS_pan, blockS_if, condS_some, ifS_true, ifS_false, opS_val, opS_new, opS_wr, opS_fz, opS_pan, bindO_some, runS_nil, runS_cons, runS_guard, gS_t, gS_f, gS_undef, asG_lit, asG_undef, core_mv, core_pick, core_alloc, core_load, core_store, core_clr, core_nilck, core_bin, core_binb, core_un, core_fadr, core_iadr, core_sli, core_len, core_lenS, core_idxS, core_app, core_mki, core_call, core_extV, core_fld, core_mks, wrO_some, valO_some, lenV_sl, lenV_own, bin_eql, bin_neq, bin_lss, bin_leq, bin_gtr, bin_geq, bin_add, bin_sub, bin_mul, unop_not, asBool_lit, pickV_lit, load_ip, iadr_sl, iadr_own, ev_s, ev_k, get_cons, get_nil, put_cons, put_nil, putD_some, putD_none, keep_cons, keep_nil, initFr, Nat.reduceEqDiff, Nat.reduceLT, Nat.reduceAdd, if_true, if_false, List.mem_cons, List.not_mem_nil, or_false, false_or, or_true, true_or, or_self, ↓reduceIte, Nat.zero_add, decide_false, decide_true, Nat.reduceBEq, beq_self_eq_true, BEq.rfl, Option.map_some, Option.map_none, List.head?_cons, List.map_cons, List.map_nil, List.append_nil, List.nil_append, List.cons_append, Bool.not_true, Bool.not_false, cond_true, cond_false, Int.natCast_nonneg, Int.toNat_natCast, Int.ofNat_toNat, core_bslice1, bsV_int, codeW_drawn, headS_cons, headS_nil, headS_guard, hS_val, hS_new, tailS_nil, tailS_cons, tailS_guard, tlS_val, tlS_new, tlS_wr, tlS_fz, tlS_pan, anyMk_cons, anyMk_nil, makes, binb_eql, binb_neq, List.isEmpty_nil, List.isEmpty_cons, Bool.or_false, Bool.false_or, Bool.or_true, Bool.true_or, pickV_t, pickV_f, core_inv, core_callS, fnV_func, core_tas, tasV_iface, nilck_ptr, extV_tup, fldV_agg, List.getElem?_cons_zero, List.getElem?_cons_succ, few_call, hf, lenV_g, hz, bin_rem .i64 hnz, e1, e2, reach_call g hf k hk, lenV_bools, reachL_len, hne, List.length_nil, hm, L1, L2, awake_call]
      rfl
end Go.Proofs.Ytoemnjclhheeoaa.Ai
