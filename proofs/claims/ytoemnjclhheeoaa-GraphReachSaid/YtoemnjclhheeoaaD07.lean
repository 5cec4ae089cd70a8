/- Layer 7: what its functions tell. No condition. -/
import Derived.Test.YtoemnjclhheeoaaA35
import Derived.Test.YtoemnjclhheeoaaC07
namespace Go.Proofs.Ytoemnjclhheeoaa.Ai
open Go Go.Ai
set_option linter.unusedSimpArgs false
set_option linter.unusedVariables false
variable {call : CallF} {mt : MtF} {md : FuncId → Md}

/-- A row of ints; a graph. -/
def rowA (r : List Int) : AV := .sl 1 (r.map fun i => [litI .i64 i]) none
def gA (g : List (List Int)) : AV := .sl 1 (g.map fun r => [rowA r]) none
theorem lenV_g (g : List (List Int)) : lenV (gA g) = some (litI .i64 g.length) := by simp [gA, lenV]
theorem lenV_row (g : List Int) : lenV (rowA g) = some (litI .i64 g.length) := by simp [rowA, lenV]
theorem iadr_g (g : List (List Int)) (n : Nat) : iadr 1 (gA g) (litI .i64 n) = (g[n]?).map fun r => .ip [rowA r] := by
  rw [gA, iadr_sl]; simp [Function.comp_def]
theorem iadr_row (g : List Int) (n : Nat) : iadr 1 (rowA g) (litI .i64 n) = (g[n]?).map fun r => .ip [litI .i64 r] := by
  rw [rowA, iadr_sl]; simp [Function.comp_def]
theorem wrap1 {n : Nat} (h : n < 4611686018427387904) : IntKind.wrap .i64 ((n : Int) + 1) = ((n + 1 : Nat) : Int) := by rw [wrap_small] <;> omega

/-! ### few -/
theorem few_loop (g : List (List Int)) (hl : g.length ≤ 20) : ∀ (m n : Nat), m + n = g.length →
    loopW (codeW call mt md c7l0) [0, 3] [(0, gA g), (3, litI .i64 n)] [] = some (if (g.drop n).all (fun x => decide (x.length ≤ 40)) = true then (EX.exit 0, [(0, gA g), (3, litI .i64 g.length), (10, litB false)], []) else (.ret, [(2, litB false)], []))
  | 0, n, h => by
    have hn : n = g.length := by omega
    subst hn
    rw [if_pos (by simp)]
    refine loopW_out ?_ (by simp)
    simp -implicitDefEqProofs only [c7l0, codeW_seq, codeW_reg, codeW_cond, codeW_block, codeW_loop, codeW_skip, codeW_exit, codeW_ret, thenS_normal, thenS_if, thenS_ret, thenS_exit, thenS_pan, thenS_none, blockS_normal, blockS_exit, blockS_ret, blockS_pan, blockS_if, condS_some, ifS_true, ifS_false, opS_val, opS_new, opS_wr, opS_fz, opS_pan, bindO_some, runS_nil, runS_cons, runS_guard, gS_t, gS_f, gS_undef, asG_lit, asG_undef, core_mv, core_pick, core_alloc, core_load, core_store, core_clr, core_nilck, core_bin, core_binb, core_un, core_fadr, core_iadr, core_sli, core_len, core_lenS, core_idxS, core_app, core_mki, core_call, core_extV, core_fld, core_mks, wrO_some, valO_some, lenV_sl, lenV_own, bin_eql, bin_neq, bin_lss, bin_leq, bin_gtr, bin_geq, bin_add, bin_sub, bin_mul, unop_not, asBool_lit, pickV_lit, load_ip, iadr_sl, iadr_own, ev_s, ev_k, get_cons, get_nil, put_cons, put_nil, putD_some, putD_none, keep_cons, keep_nil, initFr, Nat.reduceEqDiff, Nat.reduceLT, Nat.reduceAdd, if_true, if_false, List.mem_cons, List.not_mem_nil, or_false, false_or, or_true, true_or, or_self, ↓reduceIte, Nat.zero_add, decide_false, decide_true, Nat.reduceBEq, beq_self_eq_true, BEq.rfl, Option.map_some, Option.map_none, List.head?_cons, List.map_cons, List.map_nil, List.append_nil, List.nil_append, List.cons_append, Bool.not_true, Bool.not_false, cond_true, cond_false, Int.natCast_nonneg, Int.toNat_natCast, Int.ofNat_toNat, core_bslice1, bsV_int, codeW_drawn, headS_cons, headS_nil, headS_guard, hS_val, hS_new, tailS_nil, tailS_cons, tailS_guard, tlS_val, tlS_new, tlS_wr, tlS_fz, tlS_pan, anyMk_cons, anyMk_nil, makes, binb_eql, binb_neq, List.isEmpty_nil, List.isEmpty_cons, Bool.or_false, Bool.false_or, Bool.or_true, Bool.true_or, pickV_t, pickV_f, lenV_g, Int.lt_irrefl]
  | m + 1, n, h => by
    have hn : n < g.length := by omega
    have hg : g[n]? = some g[n] := List.getElem?_eq_getElem hn
    have hlt : (n : Int) < g.length := by omega
    have hd : g.drop n = g[n] :: g.drop (n + 1) := List.drop_eq_getElem_cons hn
    rw [hd, List.all_cons]
    by_cases h40 : g[n].length ≤ 40
    · have h4 : ¬ (40 : Int) < g[n].length := by omega
      rw [decide_eq_true h40, Bool.true_and]
      refine loopW_round ?_ (few_loop g hl m (n + 1) (by omega))
      simp -implicitDefEqProofs only [c7l0, codeW_seq, codeW_reg, codeW_cond, codeW_block, codeW_loop, codeW_skip, codeW_exit, codeW_ret, thenS_normal, thenS_if, thenS_ret, thenS_exit, thenS_pan, thenS_none, blockS_normal, blockS_exit, blockS_ret, blockS_pan, blockS_if, condS_some, ifS_true, ifS_false, opS_val, opS_new, opS_wr, opS_fz, opS_pan, bindO_some, runS_nil, runS_cons, runS_guard, gS_t, gS_f, gS_undef, asG_lit, asG_undef, core_mv, core_pick, core_alloc, core_load, core_store, core_clr, core_nilck, core_bin, core_binb, core_un, core_fadr, core_iadr, core_sli, core_len, core_lenS, core_idxS, core_app, core_mki, core_call, core_extV, core_fld, core_mks, wrO_some, valO_some, lenV_sl, lenV_own, bin_eql, bin_neq, bin_lss, bin_leq, bin_gtr, bin_geq, bin_add, bin_sub, bin_mul, unop_not, asBool_lit, pickV_lit, load_ip, iadr_sl, iadr_own, ev_s, ev_k, get_cons, get_nil, put_cons, put_nil, putD_some, putD_none, keep_cons, keep_nil, initFr, Nat.reduceEqDiff, Nat.reduceLT, Nat.reduceAdd, if_true, if_false, List.mem_cons, List.not_mem_nil, or_false, false_or, or_true, true_or, or_self, ↓reduceIte, Nat.zero_add, decide_false, decide_true, Nat.reduceBEq, beq_self_eq_true, BEq.rfl, Option.map_some, Option.map_none, List.head?_cons, List.map_cons, List.map_nil, List.append_nil, List.nil_append, List.cons_append, Bool.not_true, Bool.not_false, cond_true, cond_false, Int.natCast_nonneg, Int.toNat_natCast, Int.ofNat_toNat, core_bslice1, bsV_int, codeW_drawn, headS_cons, headS_nil, headS_guard, hS_val, hS_new, tailS_nil, tailS_cons, tailS_guard, tlS_val, tlS_new, tlS_wr, tlS_fz, tlS_pan, anyMk_cons, anyMk_nil, makes, binb_eql, binb_neq, List.isEmpty_nil, List.isEmpty_cons, Bool.or_false, Bool.false_or, Bool.or_true, Bool.true_or, pickV_t, pickV_f, lenV_g, lenV_row, iadr_g, hg, hlt, h4, wrap1 (show n < 4611686018427387904 by omega)]
    · have h4 : (40 : Int) < g[n].length := by omega
      rw [decide_eq_false h40, Bool.false_and, if_neg (by simp)]
      refine loopW_out ?_ (by simp)
      simp -implicitDefEqProofs only [c7l0, codeW_seq, codeW_reg, codeW_cond, codeW_block, codeW_loop, codeW_skip, codeW_exit, codeW_ret, thenS_normal, thenS_if, thenS_ret, thenS_exit, thenS_pan, thenS_none, blockS_normal, blockS_exit, blockS_ret, blockS_pan, blockS_if, condS_some, ifS_true, ifS_false, opS_val, opS_new, opS_wr, opS_fz, opS_pan, bindO_some, runS_nil, runS_cons, runS_guard, gS_t, gS_f, gS_undef, asG_lit, asG_undef, core_mv, core_pick, core_alloc, core_load, core_store, core_clr, core_nilck, core_bin, core_binb, core_un, core_fadr, core_iadr, core_sli, core_len, core_lenS, core_idxS, core_app, core_mki, core_call, core_extV, core_fld, core_mks, wrO_some, valO_some, lenV_sl, lenV_own, bin_eql, bin_neq, bin_lss, bin_leq, bin_gtr, bin_geq, bin_add, bin_sub, bin_mul, unop_not, asBool_lit, pickV_lit, load_ip, iadr_sl, iadr_own, ev_s, ev_k, get_cons, get_nil, put_cons, put_nil, putD_some, putD_none, keep_cons, keep_nil, initFr, Nat.reduceEqDiff, Nat.reduceLT, Nat.reduceAdd, if_true, if_false, List.mem_cons, List.not_mem_nil, or_false, false_or, or_true, true_or, or_self, ↓reduceIte, Nat.zero_add, decide_false, decide_true, Nat.reduceBEq, beq_self_eq_true, BEq.rfl, Option.map_some, Option.map_none, List.head?_cons, List.map_cons, List.map_nil, List.append_nil, List.nil_append, List.cons_append, Bool.not_true, Bool.not_false, cond_true, cond_false, Int.natCast_nonneg, Int.toNat_natCast, Int.ofNat_toNat, core_bslice1, bsV_int, codeW_drawn, headS_cons, headS_nil, headS_guard, hS_val, hS_new, tailS_nil, tailS_cons, tailS_guard, tlS_val, tlS_new, tlS_wr, tlS_fz, tlS_pan, anyMk_cons, anyMk_nil, makes, binb_eql, binb_neq, List.isEmpty_nil, List.isEmpty_cons, Bool.or_false, Bool.false_or, Bool.or_true, Bool.true_or, pickV_t, pickV_f, lenV_g, lenV_row, iadr_g, hg, hlt, h4]

/-- Is a graph small? -/
def fewG (g : List (List Int)) : Bool := decide (g.length ≤ 20) && g.all fun x => decide (x.length ≤ 40)

theorem few_tells (g : List (List Int)) : cw 7 [gA g] [] = some (.ret (litB (fewG g)), []) := by
  refine cw_of fn7 (c := c7) rfl rfl rfl rfl ?_
  by_cases hl : g.length ≤ 20
  · have h1 : ¬ (20 : Int) < g.length := by omega
    have L := few_loop (call := cw) (mt := lookM mtl) (md := mds) g hl g.length 0 (by omega)
    rw [List.drop_zero, show ((0 : Nat) : Int) = 0 from rfl] at L
    by_cases ha : g.all (fun x => decide (x.length ≤ 40)) = true
    · rw [if_pos ha] at L
      have hf : fewG g = true := by simp only [fewG, hl, ha, decide_true, Bool.and_self]
      rw [hf]
      simp -implicitDefEqProofs only [c7, codeW_seq, codeW_reg, codeW_cond, codeW_block, codeW_loop, codeW_skip, codeW_exit, codeW_ret, thenS_normal, thenS_if, thenS_ret, thenS_exit, thenS_pan, thenS_none, blockS_normal, blockS_exit, blockS_ret, blockS_pan, blockS_if, condS_some, ifS_true, ifS_false, opS_val, opS_new, opS_wr, opS_fz, opS_pan, bindO_some, runS_nil, runS_cons, runS_guard, gS_t, gS_f, gS_undef, asG_lit, asG_undef, core_mv, core_pick, core_alloc, core_load, core_store, core_clr, core_nilck, core_bin, core_binb, core_un, core_fadr, core_iadr, core_sli, core_len, core_lenS, core_idxS, core_app, core_mki, core_call, core_extV, core_fld, core_mks, wrO_some, valO_some, lenV_sl, lenV_own, bin_eql, bin_neq, bin_lss, bin_leq, bin_gtr, bin_geq, bin_add, bin_sub, bin_mul, unop_not, asBool_lit, pickV_lit, load_ip, iadr_sl, iadr_own, ev_s, ev_k, get_cons, get_nil, put_cons, put_nil, putD_some, putD_none, keep_cons, keep_nil, initFr, Nat.reduceEqDiff, Nat.reduceLT, Nat.reduceAdd, if_true, if_false, List.mem_cons, List.not_mem_nil, or_false, false_or, or_true, true_or, or_self, ↓reduceIte, Nat.zero_add, decide_false, decide_true, Nat.reduceBEq, beq_self_eq_true, BEq.rfl, Option.map_some, Option.map_none, List.head?_cons, List.map_cons, List.map_nil, List.append_nil, List.nil_append, List.cons_append, Bool.not_true, Bool.not_false, cond_true, cond_false, Int.natCast_nonneg, Int.toNat_natCast, Int.ofNat_toNat, core_bslice1, bsV_int, codeW_drawn, headS_cons, headS_nil, headS_guard, hS_val, hS_new, tailS_nil, tailS_cons, tailS_guard, tlS_val, tlS_new, tlS_wr, tlS_fz, tlS_pan, anyMk_cons, anyMk_nil, makes, binb_eql, binb_neq, List.isEmpty_nil, List.isEmpty_cons, Bool.or_false, Bool.false_or, Bool.or_true, Bool.true_or, pickV_t, pickV_f, lenV_g, h1, L]
      rfl
    · rw [if_neg ha] at L
      have hf : fewG g = false := by simp only [fewG, Bool.eq_false_iff.mpr ha, Bool.and_false]
      rw [hf]
      simp -implicitDefEqProofs only [c7, codeW_seq, codeW_reg, codeW_cond, codeW_block, codeW_loop, codeW_skip, codeW_exit, codeW_ret, thenS_normal, thenS_if, thenS_ret, thenS_exit, thenS_pan, thenS_none, blockS_normal, blockS_exit, blockS_ret, blockS_pan, blockS_if, condS_some, ifS_true, ifS_false, opS_val, opS_new, opS_wr, opS_fz, opS_pan, bindO_some, runS_nil, runS_cons, runS_guard, gS_t, gS_f, gS_undef, asG_lit, asG_undef, core_mv, core_pick, core_alloc, core_load, core_store, core_clr, core_nilck, core_bin, core_binb, core_un, core_fadr, core_iadr, core_sli, core_len, core_lenS, core_idxS, core_app, core_mki, core_call, core_extV, core_fld, core_mks, wrO_some, valO_some, lenV_sl, lenV_own, bin_eql, bin_neq, bin_lss, bin_leq, bin_gtr, bin_geq, bin_add, bin_sub, bin_mul, unop_not, asBool_lit, pickV_lit, load_ip, iadr_sl, iadr_own, ev_s, ev_k, get_cons, get_nil, put_cons, put_nil, putD_some, putD_none, keep_cons, keep_nil, initFr, Nat.reduceEqDiff, Nat.reduceLT, Nat.reduceAdd, if_true, if_false, List.mem_cons, List.not_mem_nil, or_false, false_or, or_true, true_or, or_self, ↓reduceIte, Nat.zero_add, decide_false, decide_true, Nat.reduceBEq, beq_self_eq_true, BEq.rfl, Option.map_some, Option.map_none, List.head?_cons, List.map_cons, List.map_nil, List.append_nil, List.nil_append, List.cons_append, Bool.not_true, Bool.not_false, cond_true, cond_false, Int.natCast_nonneg, Int.toNat_natCast, Int.ofNat_toNat, core_bslice1, bsV_int, codeW_drawn, headS_cons, headS_nil, headS_guard, hS_val, hS_new, tailS_nil, tailS_cons, tailS_guard, tlS_val, tlS_new, tlS_wr, tlS_fz, tlS_pan, anyMk_cons, anyMk_nil, makes, binb_eql, binb_neq, List.isEmpty_nil, List.isEmpty_cons, Bool.or_false, Bool.false_or, Bool.or_true, Bool.true_or, pickV_t, pickV_f, lenV_g, h1, L]
      rfl
  · have h1 : (20 : Int) < g.length := by omega
    have hf : fewG g = false := by simp only [fewG, hl, decide_false, Bool.false_and]
    rw [hf]
    simp -implicitDefEqProofs only [c7, codeW_seq, codeW_reg, codeW_cond, codeW_block, codeW_loop, codeW_skip, codeW_exit, codeW_ret, thenS_normal, thenS_if, thenS_ret, thenS_exit, thenS_pan, thenS_none, blockS_normal, blockS_exit, blockS_ret, blockS_pan, blockS_if, condS_some, ifS_true, ifS_false, opS_val, opS_new, opS_wr, opS_fz, opS_pan, bindO_some, runS_nil, runS_cons, runS_guard, gS_t, gS_f, gS_undef, asG_lit, asG_undef, core_mv, core_pick, core_alloc, core_load, core_store, core_clr, core_nilck, core_bin, core_binb, core_un, core_fadr, core_iadr, core_sli, core_len, core_lenS, core_idxS, core_app, core_mki, core_call, core_extV, core_fld, core_mks, wrO_some, valO_some, lenV_sl, lenV_own, bin_eql, bin_neq, bin_lss, bin_leq, bin_gtr, bin_geq, bin_add, bin_sub, bin_mul, unop_not, asBool_lit, pickV_lit, load_ip, iadr_sl, iadr_own, ev_s, ev_k, get_cons, get_nil, put_cons, put_nil, putD_some, putD_none, keep_cons, keep_nil, initFr, Nat.reduceEqDiff, Nat.reduceLT, Nat.reduceAdd, if_true, if_false, List.mem_cons, List.not_mem_nil, or_false, false_or, or_true, true_or, or_self, ↓reduceIte, Nat.zero_add, decide_false, decide_true, Nat.reduceBEq, beq_self_eq_true, BEq.rfl, Option.map_some, Option.map_none, List.head?_cons, List.map_cons, List.map_nil, List.append_nil, List.nil_append, List.cons_append, Bool.not_true, Bool.not_false, cond_true, cond_false, Int.natCast_nonneg, Int.toNat_natCast, Int.ofNat_toNat, core_bslice1, bsV_int, codeW_drawn, headS_cons, headS_nil, headS_guard, hS_val, hS_new, tailS_nil, tailS_cons, tailS_guard, tlS_val, tlS_new, tlS_wr, tlS_fz, tlS_pan, anyMk_cons, anyMk_nil, makes, binb_eql, binb_neq, List.isEmpty_nil, List.isEmpty_cons, Bool.or_false, Bool.false_or, Bool.or_true, Bool.true_or, pickV_t, pickV_f, lenV_g, h1]
    rfl
theorem few_call (g : List (List Int)) (H : List AO) (id : Nat) : callV cw mds 7 [gA g] H id = some (.val (litB (fewG g)) none) := callV_pure rfl rfl (few_tells g) rfl

/-! ### needs -/
theorem pick_undef (b : AV) : pickV false (.lit undef) b = b := by cases b <;> rfl
def inG (g : List (List Int)) (k : Int) : Bool := decide (0 ≤ k) && decide (k < g.length)

theorem needs_loop (g : List (List Int)) (row : List Int) (hl : row.length ≤ 1000) : ∀ (m n : Nat) (out : List Int), m + n = row.length → out.length ≤ n →
    loopW (codeW call mt md c13l0) [0, 5, 11, 12, 13] [(0, gA g), (5, outA out), (11, rowA row), (12, litI .i64 row.length), (13, litI .i64 n)] (outH 3 out) =
      some (EX.exit 0, [(0, gA g), (5, outA (out ++ (row.drop n).filter (inG g))), (11, rowA row), (12, litI .i64 row.length), (13, litI .i64 row.length), (14, litB false)], outH 3 (out ++ (row.drop n).filter (inG g)))
  | 0, n, out, h, ho => by
    have hn : n = row.length := by omega
    subst hn
    refine loopW_out ?_ (by simp)
    simp -implicitDefEqProofs only [c13l0, codeW_seq, codeW_reg, codeW_cond, codeW_block, codeW_loop, codeW_skip, codeW_exit, codeW_ret, thenS_normal, thenS_if, thenS_ret, thenS_exit, thenS_pan, thenS_none, blockS_normal, blockS_exit, blockS_ret, blockS_pan, blockS_if, condS_some, ifS_true, ifS_false, opS_val, opS_new, opS_wr, opS_fz, opS_pan, bindO_some, runS_nil, runS_cons, runS_guard, gS_t, gS_f, gS_undef, asG_lit, asG_undef, core_mv, core_pick, core_alloc, core_load, core_store, core_clr, core_nilck, core_bin, core_binb, core_un, core_fadr, core_iadr, core_sli, core_len, core_lenS, core_idxS, core_app, core_mki, core_call, core_extV, core_fld, core_mks, wrO_some, valO_some, lenV_sl, lenV_own, bin_eql, bin_neq, bin_lss, bin_leq, bin_gtr, bin_geq, bin_add, bin_sub, bin_mul, unop_not, asBool_lit, pickV_lit, load_ip, iadr_sl, iadr_own, ev_s, ev_k, get_cons, get_nil, put_cons, put_nil, putD_some, putD_none, keep_cons, keep_nil, initFr, Nat.reduceEqDiff, Nat.reduceLT, Nat.reduceAdd, if_true, if_false, List.mem_cons, List.not_mem_nil, or_false, false_or, or_true, true_or, or_self, ↓reduceIte, Nat.zero_add, decide_false, decide_true, Nat.reduceBEq, beq_self_eq_true, BEq.rfl, Option.map_some, Option.map_none, List.head?_cons, List.map_cons, List.map_nil, List.append_nil, List.nil_append, List.cons_append, Bool.not_true, Bool.not_false, cond_true, cond_false, Int.natCast_nonneg, Int.toNat_natCast, Int.ofNat_toNat, core_bslice1, bsV_int, codeW_drawn, headS_cons, headS_nil, headS_guard, hS_val, hS_new, tailS_nil, tailS_cons, tailS_guard, tlS_val, tlS_new, tlS_wr, tlS_fz, tlS_pan, anyMk_cons, anyMk_nil, makes, binb_eql, binb_neq, List.isEmpty_nil, List.isEmpty_cons, Bool.or_false, Bool.false_or, Bool.or_true, Bool.true_or, pickV_t, pickV_f, Int.lt_irrefl, List.drop_length, List.filter_nil]
  | m + 1, n, out, h, ho => by
    have hn : n < row.length := by omega
    have hg : row[n]? = some row[n] := List.getElem?_eq_getElem hn
    have hlt : (n : Int) < row.length := by omega
    have hd : row.drop n = row[n] :: row.drop (n + 1) := List.drop_eq_getElem_cons hn
    have hw := wrap1 (show n < 4611686018427387904 by omega)
    rw [hd, List.filter_cons]
    by_cases h0 : 0 ≤ row[n]
    · by_cases h1 : row[n] < g.length
      · have hi : inG g row[n] = true := by simp [inG, h0, h1]
        rw [if_pos hi]
        have ih := needs_loop g row hl m (n + 1) (out ++ [row[n]]) (by omega) (by simp; omega)
        rw [List.append_assoc, List.singleton_append] at ih
        refine loopW_round ?_ ih
        simp -implicitDefEqProofs only [c13l0, codeW_seq, codeW_reg, codeW_cond, codeW_block, codeW_loop, codeW_skip, codeW_exit, codeW_ret, thenS_normal, thenS_if, thenS_ret, thenS_exit, thenS_pan, thenS_none, blockS_normal, blockS_exit, blockS_ret, blockS_pan, blockS_if, condS_some, ifS_true, ifS_false, opS_val, opS_new, opS_wr, opS_fz, opS_pan, bindO_some, runS_nil, runS_cons, runS_guard, gS_t, gS_f, gS_undef, asG_lit, asG_undef, core_mv, core_pick, core_alloc, core_load, core_store, core_clr, core_nilck, core_bin, core_binb, core_un, core_fadr, core_iadr, core_sli, core_len, core_lenS, core_idxS, core_app, core_mki, core_call, core_extV, core_fld, core_mks, wrO_some, valO_some, lenV_sl, lenV_own, bin_eql, bin_neq, bin_lss, bin_leq, bin_gtr, bin_geq, bin_add, bin_sub, bin_mul, unop_not, asBool_lit, pickV_lit, load_ip, iadr_sl, iadr_own, ev_s, ev_k, get_cons, get_nil, put_cons, put_nil, putD_some, putD_none, keep_cons, keep_nil, initFr, Nat.reduceEqDiff, Nat.reduceLT, Nat.reduceAdd, if_true, if_false, List.mem_cons, List.not_mem_nil, or_false, false_or, or_true, true_or, or_self, ↓reduceIte, Nat.zero_add, decide_false, decide_true, Nat.reduceBEq, beq_self_eq_true, BEq.rfl, Option.map_some, Option.map_none, List.head?_cons, List.map_cons, List.map_nil, List.append_nil, List.nil_append, List.cons_append, Bool.not_true, Bool.not_false, cond_true, cond_false, Int.natCast_nonneg, Int.toNat_natCast, Int.ofNat_toNat, core_bslice1, bsV_int, codeW_drawn, headS_cons, headS_nil, headS_guard, hS_val, hS_new, tailS_nil, tailS_cons, tailS_guard, tlS_val, tlS_new, tlS_wr, tlS_fz, tlS_pan, anyMk_cons, anyMk_nil, makes, binb_eql, binb_neq, List.isEmpty_nil, List.isEmpty_cons, Bool.or_false, Bool.false_or, Bool.or_true, Bool.true_or, pickV_t, pickV_f, hlt, iadr_row, hg, h0, h1, lenV_g,  append_out (show out.length < 1099511627776 by omega), hw]
      · have hi : inG g row[n] = false := by simp [inG, h0, h1]
        rw [if_neg (by rw [hi]; simp)]
        refine loopW_round ?_ (needs_loop g row hl m (n + 1) out (by omega) (by omega))
        simp -implicitDefEqProofs only [c13l0, codeW_seq, codeW_reg, codeW_cond, codeW_block, codeW_loop, codeW_skip, codeW_exit, codeW_ret, thenS_normal, thenS_if, thenS_ret, thenS_exit, thenS_pan, thenS_none, blockS_normal, blockS_exit, blockS_ret, blockS_pan, blockS_if, condS_some, ifS_true, ifS_false, opS_val, opS_new, opS_wr, opS_fz, opS_pan, bindO_some, runS_nil, runS_cons, runS_guard, gS_t, gS_f, gS_undef, asG_lit, asG_undef, core_mv, core_pick, core_alloc, core_load, core_store, core_clr, core_nilck, core_bin, core_binb, core_un, core_fadr, core_iadr, core_sli, core_len, core_lenS, core_idxS, core_app, core_mki, core_call, core_extV, core_fld, core_mks, wrO_some, valO_some, lenV_sl, lenV_own, bin_eql, bin_neq, bin_lss, bin_leq, bin_gtr, bin_geq, bin_add, bin_sub, bin_mul, unop_not, asBool_lit, pickV_lit, load_ip, iadr_sl, iadr_own, ev_s, ev_k, get_cons, get_nil, put_cons, put_nil, putD_some, putD_none, keep_cons, keep_nil, initFr, Nat.reduceEqDiff, Nat.reduceLT, Nat.reduceAdd, if_true, if_false, List.mem_cons, List.not_mem_nil, or_false, false_or, or_true, true_or, or_self, ↓reduceIte, Nat.zero_add, decide_false, decide_true, Nat.reduceBEq, beq_self_eq_true, BEq.rfl, Option.map_some, Option.map_none, List.head?_cons, List.map_cons, List.map_nil, List.append_nil, List.nil_append, List.cons_append, Bool.not_true, Bool.not_false, cond_true, cond_false, Int.natCast_nonneg, Int.toNat_natCast, Int.ofNat_toNat, core_bslice1, bsV_int, codeW_drawn, headS_cons, headS_nil, headS_guard, hS_val, hS_new, tailS_nil, tailS_cons, tailS_guard, tlS_val, tlS_new, tlS_wr, tlS_fz, tlS_pan, anyMk_cons, anyMk_nil, makes, binb_eql, binb_neq, List.isEmpty_nil, List.isEmpty_cons, Bool.or_false, Bool.false_or, Bool.or_true, Bool.true_or, pickV_t, pickV_f, hlt, iadr_row, hg, h0, h1, lenV_g, hw]
    · have hi : inG g row[n] = false := by simp [inG, h0]
      rw [if_neg (by rw [hi]; simp)]
      refine loopW_round ?_ (needs_loop g row hl m (n + 1) out (by omega) (by omega))
      simp -implicitDefEqProofs only [c13l0, codeW_seq, codeW_reg, codeW_cond, codeW_block, codeW_loop, codeW_skip, codeW_exit, codeW_ret, thenS_normal, thenS_if, thenS_ret, thenS_exit, thenS_pan, thenS_none, blockS_normal, blockS_exit, blockS_ret, blockS_pan, blockS_if, condS_some, ifS_true, ifS_false, opS_val, opS_new, opS_wr, opS_fz, opS_pan, bindO_some, runS_nil, runS_cons, runS_guard, gS_t, gS_f, gS_undef, asG_lit, asG_undef, core_mv, core_pick, core_alloc, core_load, core_store, core_clr, core_nilck, core_bin, core_binb, core_un, core_fadr, core_iadr, core_sli, core_len, core_lenS, core_idxS, core_app, core_mki, core_call, core_extV, core_fld, core_mks, wrO_some, valO_some, lenV_sl, lenV_own, bin_eql, bin_neq, bin_lss, bin_leq, bin_gtr, bin_geq, bin_add, bin_sub, bin_mul, unop_not, asBool_lit, pickV_lit, load_ip, iadr_sl, iadr_own, ev_s, ev_k, get_cons, get_nil, put_cons, put_nil, putD_some, putD_none, keep_cons, keep_nil, initFr, Nat.reduceEqDiff, Nat.reduceLT, Nat.reduceAdd, if_true, if_false, List.mem_cons, List.not_mem_nil, or_false, false_or, or_true, true_or, or_self, ↓reduceIte, Nat.zero_add, decide_false, decide_true, Nat.reduceBEq, beq_self_eq_true, BEq.rfl, Option.map_some, Option.map_none, List.head?_cons, List.map_cons, List.map_nil, List.append_nil, List.nil_append, List.cons_append, Bool.not_true, Bool.not_false, cond_true, cond_false, Int.natCast_nonneg, Int.toNat_natCast, Int.ofNat_toNat, core_bslice1, bsV_int, codeW_drawn, headS_cons, headS_nil, headS_guard, hS_val, hS_new, tailS_nil, tailS_cons, tailS_guard, tlS_val, tlS_new, tlS_wr, tlS_fz, tlS_pan, anyMk_cons, anyMk_nil, makes, binb_eql, binb_neq, List.isEmpty_nil, List.isEmpty_cons, Bool.or_false, Bool.false_or, Bool.or_true, Bool.true_or, pickV_t, pickV_f, hlt, iadr_row, hg, h0, lenV_g, hw]

/-- What a place needs, rising, each once. -/
def needG (g : List (List Int)) (row : List Int) : List Int := compI' (sortI (row.filter (inG g)))

theorem all_below_lits (n k : Nat) (l : List Int) : (cellsI l).all (below n (k + 1)) = true := below_lits fun a ha => by
  obtain ⟨x, _, rfl⟩ := List.mem_map.1 ha
  exact ⟨_, rfl⟩

theorem needs_tells (g : List (List Int)) (i : Nat) (row : List Int) (hi : g[i]? = some row) (hl : row.length ≤ 1000) :
    cw 13 [gA g, litI .i64 i] [] = some (.ret (match row.filter (inG g) with | [] => .sl 0 [] (some 0) | x :: l => .own l.length 0 (needG g row).length 1 none),
      match row.filter (inG g) with | [] => [] | x :: l => List.replicate l.length .dead ++ [.row (cellsI (needG g row ++ List.replicate ((x :: l).length - (needG g row).length) 0)) 3]) := by
  have L := needs_loop (call := cw) (mt := lookM mtl) (md := mds) g row hl row.length 0 [] (by omega) (by simp)
  rw [List.drop_zero, List.nil_append, show ((0 : Nat) : Int) = 0 from rfl] at L
  have e0 : outA [] = .sl 0 [] (some 0) := rfl
  have e1 : outH 3 [] = [] := rfl
  rw [e0, e1] at L
  refine cw_of fn13 (c := c13) rfl rfl rfl rfl ?_
  unfold needG
  have hfl : (row.filter (inG g)).length ≤ 1000 := Nat.le_trans (List.length_filter_le _ _) hl
  generalize row.filter (inG g) = f at L hfl ⊢
  cases f with
  | nil =>
    have c19 : ∀ id, callV cw mds 19 [outA []] (outH 3 []) id = some (.wr (.tup []) []) := fun id => callV_ref rfl (cw_ov rfl rfl) rfl
    have c20 : ∀ id, callV cw mds 20 [outA []] [] id = some (.wr (.sl 0 [] (some 0)) []) := fun id => callV_ref rfl (cw_ov rfl rfl) rfl
    simp -implicitDefEqProofs only [c13, codeW_seq, codeW_reg, codeW_cond, codeW_block, codeW_loop, codeW_skip, codeW_exit, codeW_ret, thenS_normal, thenS_if, thenS_ret, thenS_exit, thenS_pan, thenS_none, blockS_normal, blockS_exit, blockS_ret, blockS_pan, blockS_if, condS_some, ifS_true, ifS_false, opS_val, opS_new, opS_wr, opS_fz, opS_pan, bindO_some, runS_nil, runS_cons, runS_guard, gS_t, gS_f, gS_undef, asG_lit, asG_undef, core_mv, core_pick, core_alloc, core_load, core_store, core_clr, core_nilck, core_bin, core_binb, core_un, core_fadr, core_iadr, core_sli, core_len, core_lenS, core_idxS, core_app, core_mki, core_call, core_extV, core_fld, core_mks, wrO_some, valO_some, lenV_sl, lenV_own, bin_eql, bin_neq, bin_lss, bin_leq, bin_gtr, bin_geq, bin_add, bin_sub, bin_mul, unop_not, asBool_lit, pickV_lit, load_ip, iadr_sl, iadr_own, ev_s, ev_k, get_cons, get_nil, put_cons, put_nil, putD_some, putD_none, keep_cons, keep_nil, initFr, Nat.reduceEqDiff, Nat.reduceLT, Nat.reduceAdd, if_true, if_false, List.mem_cons, List.not_mem_nil, or_false, false_or, or_true, true_or, or_self, ↓reduceIte, Nat.zero_add, decide_false, decide_true, Nat.reduceBEq, beq_self_eq_true, BEq.rfl, Option.map_some, Option.map_none, List.head?_cons, List.map_cons, List.map_nil, List.append_nil, List.nil_append, List.cons_append, Bool.not_true, Bool.not_false, cond_true, cond_false, Int.natCast_nonneg, Int.toNat_natCast, Int.ofNat_toNat, core_bslice1, bsV_int, codeW_drawn, headS_cons, headS_nil, headS_guard, hS_val, hS_new, tailS_nil, tailS_cons, tailS_guard, tlS_val, tlS_new, tlS_wr, tlS_fz, tlS_pan, anyMk_cons, anyMk_nil, makes, binb_eql, binb_neq, List.isEmpty_nil, List.isEmpty_cons, Bool.or_false, Bool.false_or, Bool.or_true, Bool.true_or, pickV_t, pickV_f, iadr_g, hi, lenV_row, L, c19, c20]
    rfl
  | cons x l =>
    have hne : (x :: l) ≠ [] := by simp
    have hr : (outH 3 (x :: l))[l.length]? = some (.row ([] ++ cellsI (x :: l) ++ []) 3) := by rw [outH_get]; simp
    have s1 := sortG_row (cap := none) hr rfl hne (by simp at hfl ⊢; omega)
    have hs : (sortI (x :: l)).length = (x :: l).length := sortI_len _
    have hH1 : setL (outH 3 (x :: l)) l.length (.row ([] ++ cellsI (sortI (x :: l)) ++ []) 3) = List.replicate l.length .dead ++ [.row (cellsI (sortI (x :: l))) 3] := by
      simp only [setL, outH, List.nil_append, List.append_nil]
      rw [List.set_append_right _ _ (by simp)]
      simp
    rw [hH1] at s1
    have c19 : ∀ id, callV cw mds 19 [outA (x :: l)] (outH 3 (x :: l)) id = some (.wr (.tup []) (List.replicate l.length .dead ++ [.row (cellsI (sortI (x :: l))) 3])) := by
      intro id
      have := callV_ref (md := mds) (id := id) (f := 19) rfl (cw_ov rfl s1) (by
        rw [outH_len, List.take_of_length_le (by simp)]
        simp only [Bool.and_eq_true, List.all_append, List.all_cons, List.all_nil, Bool.and_true]
        refine ⟨rfl, ?_, all_below_lits _ 15 _⟩
        rw [List.all_eq_true]
        intro a ha
        rw [List.eq_of_mem_replicate ha]; rfl)
      rw [outH_len, List.take_of_length_le (by simp)] at this
      exact this
    have hr2 : (List.replicate l.length AO.dead ++ [.row (cellsI (sortI (x :: l))) 3])[l.length]? = some (.row ([] ++ cellsI (sortI (x :: l)) ++ []) 3) := by simp
    have hne2 : sortI (x :: l) ≠ [] := by intro e; rw [e] at hs; simp at hs
    have s2 := compactG_row (cap := none) hr2 rfl hne2 (by rw [hs]; simp at hfl ⊢; omega)
    have hH2 : ∀ o, setL (List.replicate l.length AO.dead ++ [.row (cellsI (sortI (x :: l))) 3]) l.length o = List.replicate l.length .dead ++ [o] := by
      intro o
      simp only [setL]
      rw [List.set_append_right _ _ (by simp)]
      simp
    rw [hH2, hs] at s2
    simp only [List.nil_append, List.append_nil] at s2
    have c20 : ∀ id, callV cw mds 20 [outA (x :: l)] (List.replicate l.length .dead ++ [.row (cellsI (sortI (x :: l))) 3]) id = some (.wr (.own l.length 0 (compI' (sortI (x :: l))).length 1 none) (List.replicate l.length .dead ++ [.row (cellsI (compI' (sortI (x :: l)) ++ List.replicate ((x :: l).length - (compI' (sortI (x :: l))).length) 0)) 3])) := by
      intro id
      have := callV_ref (md := mds) (id := id) (f := 20) rfl (cw_ov rfl s2) (by
        simp only [List.length_append, List.length_replicate, List.length_cons, List.length_nil]
        rw [List.take_of_length_le (by simp)]
        simp only [Bool.and_eq_true, List.all_append, List.all_cons, List.all_nil, Bool.and_true]
        refine ⟨?_, ?_, all_below_lits _ 15 _⟩
        · show Nat.blt l.length _ = true
          rw [Nat.blt_eq]; omega
        · rw [List.all_eq_true]
          intro a ha
          rw [List.eq_of_mem_replicate ha]; rfl)
      simp only [List.length_append, List.length_replicate, List.length_cons, List.length_nil] at this
      rw [List.take_of_length_le (by simp)] at this
      exact this
    simp -implicitDefEqProofs only [c13, codeW_seq, codeW_reg, codeW_cond, codeW_block, codeW_loop, codeW_skip, codeW_exit, codeW_ret, thenS_normal, thenS_if, thenS_ret, thenS_exit, thenS_pan, thenS_none, blockS_normal, blockS_exit, blockS_ret, blockS_pan, blockS_if, condS_some, ifS_true, ifS_false, opS_val, opS_new, opS_wr, opS_fz, opS_pan, bindO_some, runS_nil, runS_cons, runS_guard, gS_t, gS_f, gS_undef, asG_lit, asG_undef, core_mv, core_pick, core_alloc, core_load, core_store, core_clr, core_nilck, core_bin, core_binb, core_un, core_fadr, core_iadr, core_sli, core_len, core_lenS, core_idxS, core_app, core_mki, core_call, core_extV, core_fld, core_mks, wrO_some, valO_some, lenV_sl, lenV_own, bin_eql, bin_neq, bin_lss, bin_leq, bin_gtr, bin_geq, bin_add, bin_sub, bin_mul, unop_not, asBool_lit, pickV_lit, load_ip, iadr_sl, iadr_own, ev_s, ev_k, get_cons, get_nil, put_cons, put_nil, putD_some, putD_none, keep_cons, keep_nil, initFr, Nat.reduceEqDiff, Nat.reduceLT, Nat.reduceAdd, if_true, if_false, List.mem_cons, List.not_mem_nil, or_false, false_or, or_true, true_or, or_self, ↓reduceIte, Nat.zero_add, decide_false, decide_true, Nat.reduceBEq, beq_self_eq_true, BEq.rfl, Option.map_some, Option.map_none, List.head?_cons, List.map_cons, List.map_nil, List.append_nil, List.nil_append, List.cons_append, Bool.not_true, Bool.not_false, cond_true, cond_false, Int.natCast_nonneg, Int.toNat_natCast, Int.ofNat_toNat, core_bslice1, bsV_int, codeW_drawn, headS_cons, headS_nil, headS_guard, hS_val, hS_new, tailS_nil, tailS_cons, tailS_guard, tlS_val, tlS_new, tlS_wr, tlS_fz, tlS_pan, anyMk_cons, anyMk_nil, makes, binb_eql, binb_neq, List.isEmpty_nil, List.isEmpty_cons, Bool.or_false, Bool.false_or, Bool.or_true, Bool.true_or, pickV_t, pickV_f, iadr_g, hi, lenV_row, L, c19, c20]
    rfl

theorem needG_nil {g : List (List Int)} {row : List Int} (h : row.filter (inG g) = []) : needG g row = [] := by unfold needG; rw [h]; rfl
theorem needG_ne {g : List (List Int)} {row : List Int} (h : row.filter (inG g) ≠ []) : needG g row ≠ [] := by
  unfold needG
  exact compI_ne _ (fun e => h (by have := sortI_len (row.filter (inG g)); rw [e] at this; exact List.eq_nil_of_length_eq_zero this.symm))

/-- needs, called where its slice stays an object. -/
theorem needs_call0 (g : List (List Int)) (i : Nat) (row : List Int) (hi : g[i]? = some row) (hl : row.length ≤ 1000) (H : List AO) (id : Nat) (h : needG g row = []) :
    callV cw mds 13 [gA g, litI .i64 i] H id = some (.val (.sl 0 [] (some 0)) none) := by
  have hf : row.filter (inG g) = [] := by
    cases hf : row.filter (inG g) with
    | nil => rfl
    | cons x l => exact absurd h (needG_ne (by rw [hf]; simp))
  have := needs_tells g i row hi hl
  rw [hf] at this
  exact callV_ownP rfl rfl this rfl
theorem needs_call1 (g : List (List Int)) (i : Nat) (row : List Int) (hi : g[i]? = some row) (hl : row.length ≤ 1000) (H : List AO) (id : Nat) (h : needG g row ≠ []) :
    ∃ z, callV cw mds 13 [gA g, litI .i64 i] H id = some (.val (.own id 0 (needG g row).length 1 none) (some (.row (cellsI (needG g row) ++ z) 3))) := by
  have := needs_tells g i row hi hl
  cases hf : row.filter (inG g) with
  | nil => exact absurd (needG_nil hf) h
  | cons x l =>
    rw [hf] at this
    simp only at this
    refine ⟨cellsI (List.replicate ((x :: l).length - (needG g row).length) 0), ?_⟩
    have e : cellsI (needG g row ++ List.replicate ((x :: l).length - (needG g row).length) 0) = cellsI (needG g row) ++ cellsI (List.replicate ((x :: l).length - (needG g row).length) 0) := by simp [cellsI]
    rw [e] at this
    refine callV_own rfl rfl this (by simp) ?_
    rw [List.all_eq_true]
    intro a ha
    rw [← e] at ha
    obtain ⟨y, _, rfl⟩ := List.mem_map.1 ha
    rfl
end Go.Proofs.Ytoemnjclhheeoaa.Ai
