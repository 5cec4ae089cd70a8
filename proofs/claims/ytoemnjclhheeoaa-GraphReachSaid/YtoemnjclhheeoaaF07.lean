/- Layer 7: Reach and Needs, as they are called; what GraphReach tells. No condition. -/
import Derived.Test.YtoemnjclhheeoaaE07
namespace Go.Proofs.Ytoemnjclhheeoaa.Ai
open Go Go.Ai
set_option linter.unusedSimpArgs false
set_option linter.unusedVariables false
variable {call : CallF} {mt : MtF} {md : FuncId → Md}

/-- What is reached from a place. -/
def reachL (g : List (List Int)) (i : Nat) : List Bool := dfs g (left (List.replicate g.length false) (need g i)) (List.replicate g.length false) (need g i)
theorem dfs_len (g : List (List Int)) : ∀ (m : Nat) (out : List Bool) (stk : List Int), (dfs g m out stk).length = out.length
  | 0, _, _ => rfl
  | m + 1, out, stk => by
    simp only [dfs]
    split
    · rfl
    · split
      · rw [dfs_len]; simp
      · rw [dfs_len]
theorem reachL_len (g : List (List Int)) (i : Nat) : (reachL g i).length = g.length := by unfold reachL; rw [dfs_len]; simp
theorem reachL_road {g : List (List Int)} (hf : fewG g = true) (i k : Nat) (hk : k < g.length) : (reachL g i)[k]? = some true ↔ Road g i k := dfs_road need_rng (need_40 hf) (Nat.le_refl _) k hk

theorem cells_rep (n : Nat) : reps n [litB false] = cellsB (List.replicate n false) := by rw [reps_one]; simp [cellsB]

theorem reach_tells (g : List (List Int)) (hf : fewG g = true) (i : Nat) (hi : i < g.length) :
    ∃ H', cw 12 [gA g, litI .i64 i] [] = some (.ret (.own 0 0 g.length 1 (some g.length)), H') ∧ H'[0]? = some (.row (cellsB (reachL g i)) 4) := by
  obtain ⟨row, hrow⟩ : ∃ row, g[i]? = some row := ⟨_, List.getElem?_eq_getElem hi⟩
  have hneed : needG g row = need g i := by unfold need; rw [hrow]
  have h20 := few_len hf
  have hr40 := few_row hf hrow
  have n40 := need_40 hf i
  have hle : left (List.replicate g.length false) (need g i) ≤ 1000 := by unfold left; rw [List.count_replicate_self]; omega
  have hm := mksV_ok (id := 0) (e := 1) (bytes := 1) (z := [litB false]) (t := 4) (n := g.length) (by omega) (by omega)
  rw [cells_rep] at hm
  have h1 : ¬ (i : Int) < 0 := by omega
  have h2 : ¬ (g.length : Int) ≤ i := by omega
  by_cases hn : needG g row = []
  · have hc := needs_call0 g i row hrow (by omega) [AO.row (cellsB (List.replicate g.length false)) 4] 1 hn
    obtain ⟨A', H', L, h0'⟩ := reach_loop g hf _ (List.replicate g.length false) (need g i) (.sl 0 [] (some 0)) [AO.row (cellsB (List.replicate g.length false)) 4] (Nat.le_refl _) (by simp) (fun k hk => need_rng _ _ hk) rfl (.inl ⟨rfl, by rw [← hneed, hn]⟩) hle
    refine ⟨H', cw_of fn12 (c := c12) rfl rfl rfl rfl ?_, h0'⟩
    simp -implicitDefEqProofs only [c12, codeW_seq, codeW_reg, codeW_cond, codeW_block, codeW_loop, codeW_skip, codeW_exit, codeW_ret, thenS_normal, thenS_if, thenS_ret, thenS_exit, thenS_pan, thenS_none, blockS_normal, blockS_exit, blockS_ret, blockS_pan, blockS_if, condS_some, ifS_true, ifS_false, opS_val, opS_new, opS_wr, opS_fz, opS_pan, bindO_some, runS_nil, runS_cons, runS_guard, gS_t, gS_f, gS_undef, asG_lit, asG_undef, core_mv, core_pick, core_alloc, core_load, core_store, core_clr, core_nilck, core_bin, core_binb, core_un, core_fadr, core_iadr, core_sli, core_len, core_lenS, core_idxS, core_app, core_mki, core_call, core_extV, core_fld, core_mks, wrO_some, valO_some, lenV_sl, lenV_own, bin_eql, bin_neq, bin_lss, bin_leq, bin_gtr, bin_geq, bin_add, bin_sub, bin_mul, unop_not, asBool_lit, pickV_lit, load_ip, iadr_sl, iadr_own, ev_s, ev_k, get_cons, get_nil, put_cons, put_nil, putD_some, putD_none, keep_cons, keep_nil, initFr, Nat.reduceEqDiff, Nat.reduceLT, Nat.reduceAdd, if_true, if_false, List.mem_cons, List.not_mem_nil, or_false, false_or, or_true, true_or, or_self, ↓reduceIte, Nat.zero_add, decide_false, decide_true, Nat.reduceBEq, beq_self_eq_true, BEq.rfl, Option.map_some, Option.map_none, List.head?_cons, List.map_cons, List.map_nil, List.append_nil, List.nil_append, List.cons_append, Bool.not_true, Bool.not_false, cond_true, cond_false, Int.natCast_nonneg, Int.toNat_natCast, Int.ofNat_toNat, core_bslice1, bsV_int, codeW_drawn, headS_cons, headS_nil, headS_guard, hS_val, hS_new, tailS_nil, tailS_cons, tailS_guard, tlS_val, tlS_new, tlS_wr, tlS_fz, tlS_pan, anyMk_cons, anyMk_nil, makes, binb_eql, binb_neq, List.isEmpty_nil, List.isEmpty_cons, Bool.or_false, Bool.false_or, Bool.or_true, Bool.true_or, pickV_t, pickV_f, lenV_g, List.length_nil, hm, h1, h2, List.length_cons, hc, L]
    rfl
  · obtain ⟨z, hc⟩ := needs_call1 g i row hrow (by omega) [AO.row (cellsB (List.replicate g.length false)) 4] 1 hn
    obtain ⟨A', H', L, h0'⟩ := reach_loop g hf _ (List.replicate g.length false) (need g i) (.own 1 0 (needG g row).length 1 none) [AO.row (cellsB (List.replicate g.length false)) 4, .row (cellsI (needG g row) ++ z) 3] (Nat.le_refl _) (by simp) (fun k hk => need_rng _ _ hk) rfl
      (.inr ⟨1, cellsI (needG g row) ++ z, by omega, by rw [hneed], rfl, by rw [← hneed, List.take_left' (by simp [cellsI])], by rw [← hneed]; simp [cellsI]⟩) hle
    refine ⟨H', cw_of fn12 (c := c12) rfl rfl rfl rfl ?_, h0'⟩
    simp -implicitDefEqProofs only [c12, codeW_seq, codeW_reg, codeW_cond, codeW_block, codeW_loop, codeW_skip, codeW_exit, codeW_ret, thenS_normal, thenS_if, thenS_ret, thenS_exit, thenS_pan, thenS_none, blockS_normal, blockS_exit, blockS_ret, blockS_pan, blockS_if, condS_some, ifS_true, ifS_false, opS_val, opS_new, opS_wr, opS_fz, opS_pan, bindO_some, runS_nil, runS_cons, runS_guard, gS_t, gS_f, gS_undef, asG_lit, asG_undef, core_mv, core_pick, core_alloc, core_load, core_store, core_clr, core_nilck, core_bin, core_binb, core_un, core_fadr, core_iadr, core_sli, core_len, core_lenS, core_idxS, core_app, core_mki, core_call, core_extV, core_fld, core_mks, wrO_some, valO_some, lenV_sl, lenV_own, bin_eql, bin_neq, bin_lss, bin_leq, bin_gtr, bin_geq, bin_add, bin_sub, bin_mul, unop_not, asBool_lit, pickV_lit, load_ip, iadr_sl, iadr_own, ev_s, ev_k, get_cons, get_nil, put_cons, put_nil, putD_some, putD_none, keep_cons, keep_nil, initFr, Nat.reduceEqDiff, Nat.reduceLT, Nat.reduceAdd, if_true, if_false, List.mem_cons, List.not_mem_nil, or_false, false_or, or_true, true_or, or_self, ↓reduceIte, Nat.zero_add, decide_false, decide_true, Nat.reduceBEq, beq_self_eq_true, BEq.rfl, Option.map_some, Option.map_none, List.head?_cons, List.map_cons, List.map_nil, List.append_nil, List.nil_append, List.cons_append, Bool.not_true, Bool.not_false, cond_true, cond_false, Int.natCast_nonneg, Int.toNat_natCast, Int.ofNat_toNat, core_bslice1, bsV_int, codeW_drawn, headS_cons, headS_nil, headS_guard, hS_val, hS_new, tailS_nil, tailS_cons, tailS_guard, tlS_val, tlS_new, tlS_wr, tlS_fz, tlS_pan, anyMk_cons, anyMk_nil, makes, binb_eql, binb_neq, List.isEmpty_nil, List.isEmpty_cons, Bool.or_false, Bool.false_or, Bool.or_true, Bool.true_or, pickV_t, pickV_f, lenV_g, List.length_nil, hm, h1, h2, List.length_cons, hc, L]
    rfl

/-- A row of truths, told whole. -/
def boolsA (l : List Bool) (c : Option Nat) : AV := .sl 1 (l.map fun b => [litB b]) c
theorem lenV_bools (l : List Bool) (c : Option Nat) : lenV (boolsA l c) = some (litI .i64 l.length) := by simp [boolsA, lenV]
theorem iadr_bools (l : List Bool) (c : Option Nat) (n : Nat) : iadr 1 (boolsA l c) (litI .i64 n) = (l[n]?).map fun b => .ip [litB b] := by
  rw [boolsA, iadr_sl]; simp [Function.comp_def]
theorem reach_call (g : List (List Int)) (hf : fewG g = true) (i : Nat) (hi : i < g.length) (H : List AO) (id : Nat) : callV cw mds 12 [gA g, litI .i64 i] H id = some (.val (boolsA (reachL g i) (some g.length)) none) := by
  obtain ⟨H', h1, h2⟩ := reach_tells g hf i hi
  have := callV_fz (md := mds) (H := H) (id := id) rfl rfl h1 h2 (by rw [cellsB_len, reachL_len]; exact Nat.le_refl _) (by
    rw [List.all_eq_true]; intro a ha
    obtain ⟨b, _, rfl⟩ := List.mem_map.1 ha; rfl)
  rw [this, List.take_of_length_le (by rw [cellsB_len, reachL_len]; exact Nat.le_refl _)]
  simp [boolsA, cellsB, Function.comp_def]

/-! ### ref.Needs -/
theorem rneeds_loop (g : List (List Int)) (row : List Int) (i : Nat) (k : Int) (hi : g[i]? = some row) (hl : row.length ≤ 1000) : ∀ (m n : Nat), m + n = row.length →
    loopW (codeW call mt md c10l0) [0, 1, 2, 7] [(0, gA g), (1, litI .i64 i), (2, litI .i64 k), (7, litI .i64 n)] [] =
      some (if (row.drop n).contains k = true then (.ret, [(6, litB true)], []) else (EX.exit 0, [(0, gA g), (1, litI .i64 i), (2, litI .i64 k), (7, litI .i64 row.length), (32, litB false)], []))
  | 0, n, h => by
    have hn : n = row.length := by omega
    subst hn
    rw [if_neg (by simp)]
    refine loopW_out ?_ (by simp)
    simp -implicitDefEqProofs only [c10l0, codeW_seq, codeW_reg, codeW_cond, codeW_block, codeW_loop, codeW_skip, codeW_exit, codeW_ret, thenS_normal, thenS_if, thenS_ret, thenS_exit, thenS_pan, thenS_none, blockS_normal, blockS_exit, blockS_ret, blockS_pan, blockS_if, condS_some, ifS_true, ifS_false, opS_val, opS_new, opS_wr, opS_fz, opS_pan, bindO_some, runS_nil, runS_cons, runS_guard, gS_t, gS_f, gS_undef, asG_lit, asG_undef, core_mv, core_pick, core_alloc, core_load, core_store, core_clr, core_nilck, core_bin, core_binb, core_un, core_fadr, core_iadr, core_sli, core_len, core_lenS, core_idxS, core_app, core_mki, core_call, core_extV, core_fld, core_mks, wrO_some, valO_some, lenV_sl, lenV_own, bin_eql, bin_neq, bin_lss, bin_leq, bin_gtr, bin_geq, bin_add, bin_sub, bin_mul, unop_not, asBool_lit, pickV_lit, load_ip, iadr_sl, iadr_own, ev_s, ev_k, get_cons, get_nil, put_cons, put_nil, putD_some, putD_none, keep_cons, keep_nil, initFr, Nat.reduceEqDiff, Nat.reduceLT, Nat.reduceAdd, if_true, if_false, List.mem_cons, List.not_mem_nil, or_false, false_or, or_true, true_or, or_self, ↓reduceIte, Nat.zero_add, decide_false, decide_true, Nat.reduceBEq, beq_self_eq_true, BEq.rfl, Option.map_some, Option.map_none, List.head?_cons, List.map_cons, List.map_nil, List.append_nil, List.nil_append, List.cons_append, Bool.not_true, Bool.not_false, cond_true, cond_false, Int.natCast_nonneg, Int.toNat_natCast, Int.ofNat_toNat, core_bslice1, bsV_int, codeW_drawn, headS_cons, headS_nil, headS_guard, hS_val, hS_new, tailS_nil, tailS_cons, tailS_guard, tlS_val, tlS_new, tlS_wr, tlS_fz, tlS_pan, anyMk_cons, anyMk_nil, makes, binb_eql, binb_neq, List.isEmpty_nil, List.isEmpty_cons, Bool.or_false, Bool.false_or, Bool.or_true, Bool.true_or, pickV_t, pickV_f, iadr_g, hi, lenV_row, Int.lt_irrefl]
  | m + 1, n, h => by
    have hn : n < row.length := by omega
    have hg : row[n]? = some row[n] := List.getElem?_eq_getElem hn
    have hlt : (n : Int) < row.length := by omega
    have hd : row.drop n = row[n] :: row.drop (n + 1) := List.drop_eq_getElem_cons hn
    have hw := wrap1 (show n < 4611686018427387904 by omega)
    rw [hd, List.contains_cons]
    by_cases hk : row[n] = k
    · have : (k == row[n]) = true := by simp [hk]
      rw [if_pos (by rw [this]; rfl)]
      have h2 : (row[n] == k) = true := by simp [hk]
      refine loopW_out ?_ (by simp)
      simp -implicitDefEqProofs only [c10l0, codeW_seq, codeW_reg, codeW_cond, codeW_block, codeW_loop, codeW_skip, codeW_exit, codeW_ret, thenS_normal, thenS_if, thenS_ret, thenS_exit, thenS_pan, thenS_none, blockS_normal, blockS_exit, blockS_ret, blockS_pan, blockS_if, condS_some, ifS_true, ifS_false, opS_val, opS_new, opS_wr, opS_fz, opS_pan, bindO_some, runS_nil, runS_cons, runS_guard, gS_t, gS_f, gS_undef, asG_lit, asG_undef, core_mv, core_pick, core_alloc, core_load, core_store, core_clr, core_nilck, core_bin, core_binb, core_un, core_fadr, core_iadr, core_sli, core_len, core_lenS, core_idxS, core_app, core_mki, core_call, core_extV, core_fld, core_mks, wrO_some, valO_some, lenV_sl, lenV_own, bin_eql, bin_neq, bin_lss, bin_leq, bin_gtr, bin_geq, bin_add, bin_sub, bin_mul, unop_not, asBool_lit, pickV_lit, load_ip, iadr_sl, iadr_own, ev_s, ev_k, get_cons, get_nil, put_cons, put_nil, putD_some, putD_none, keep_cons, keep_nil, initFr, Nat.reduceEqDiff, Nat.reduceLT, Nat.reduceAdd, if_true, if_false, List.mem_cons, List.not_mem_nil, or_false, false_or, or_true, true_or, or_self, ↓reduceIte, Nat.zero_add, decide_false, decide_true, Nat.reduceBEq, beq_self_eq_true, BEq.rfl, Option.map_some, Option.map_none, List.head?_cons, List.map_cons, List.map_nil, List.append_nil, List.nil_append, List.cons_append, Bool.not_true, Bool.not_false, cond_true, cond_false, Int.natCast_nonneg, Int.toNat_natCast, Int.ofNat_toNat, core_bslice1, bsV_int, codeW_drawn, headS_cons, headS_nil, headS_guard, hS_val, hS_new, tailS_nil, tailS_cons, tailS_guard, tlS_val, tlS_new, tlS_wr, tlS_fz, tlS_pan, anyMk_cons, anyMk_nil, makes, binb_eql, binb_neq, List.isEmpty_nil, List.isEmpty_cons, Bool.or_false, Bool.false_or, Bool.or_true, Bool.true_or, pickV_t, pickV_f, iadr_g, hi, lenV_row, hlt, iadr_row, hg, h2]
    · have : (k == row[n]) = false := by simp; exact fun e => hk e.symm
      rw [this, Bool.false_or]
      have h2 : (row[n] == k) = false := by simp [hk]
      refine loopW_round ?_ (rneeds_loop g row i k hi hl m (n + 1) (by omega))
      simp -implicitDefEqProofs only [c10l0, codeW_seq, codeW_reg, codeW_cond, codeW_block, codeW_loop, codeW_skip, codeW_exit, codeW_ret, thenS_normal, thenS_if, thenS_ret, thenS_exit, thenS_pan, thenS_none, blockS_normal, blockS_exit, blockS_ret, blockS_pan, blockS_if, condS_some, ifS_true, ifS_false, opS_val, opS_new, opS_wr, opS_fz, opS_pan, bindO_some, runS_nil, runS_cons, runS_guard, gS_t, gS_f, gS_undef, asG_lit, asG_undef, core_mv, core_pick, core_alloc, core_load, core_store, core_clr, core_nilck, core_bin, core_binb, core_un, core_fadr, core_iadr, core_sli, core_len, core_lenS, core_idxS, core_app, core_mki, core_call, core_extV, core_fld, core_mks, wrO_some, valO_some, lenV_sl, lenV_own, bin_eql, bin_neq, bin_lss, bin_leq, bin_gtr, bin_geq, bin_add, bin_sub, bin_mul, unop_not, asBool_lit, pickV_lit, load_ip, iadr_sl, iadr_own, ev_s, ev_k, get_cons, get_nil, put_cons, put_nil, putD_some, putD_none, keep_cons, keep_nil, initFr, Nat.reduceEqDiff, Nat.reduceLT, Nat.reduceAdd, if_true, if_false, List.mem_cons, List.not_mem_nil, or_false, false_or, or_true, true_or, or_self, ↓reduceIte, Nat.zero_add, decide_false, decide_true, Nat.reduceBEq, beq_self_eq_true, BEq.rfl, Option.map_some, Option.map_none, List.head?_cons, List.map_cons, List.map_nil, List.append_nil, List.nil_append, List.cons_append, Bool.not_true, Bool.not_false, cond_true, cond_false, Int.natCast_nonneg, Int.toNat_natCast, Int.ofNat_toNat, core_bslice1, bsV_int, codeW_drawn, headS_cons, headS_nil, headS_guard, hS_val, hS_new, tailS_nil, tailS_cons, tailS_guard, tlS_val, tlS_new, tlS_wr, tlS_fz, tlS_pan, anyMk_cons, anyMk_nil, makes, binb_eql, binb_neq, List.isEmpty_nil, List.isEmpty_cons, Bool.or_false, Bool.false_or, Bool.or_true, Bool.true_or, pickV_t, pickV_f, iadr_g, hi, lenV_row, hlt, iadr_row, hg, h2, hw]

theorem rneeds_tells (g : List (List Int)) (row : List Int) (i k : Nat) (hi : g[i]? = some row) (hl : row.length ≤ 1000) (hk : k < g.length) : cw 10 [gA g, litI .i64 i, litI .i64 k] [] = some (.ret (litB (row.contains (k : Int))), []) := by
  have hil : i < g.length := (List.getElem?_eq_some_iff.1 hi).1
  have h1 : ¬ (i : Int) < 0 := by omega
  have h2 : ¬ (g.length : Int) ≤ i := by omega
  have h3 : ¬ (k : Int) < 0 := by omega
  have h4 : ¬ (g.length : Int) ≤ k := by omega
  have L := rneeds_loop (call := cw) (mt := lookM mtl) (md := mds) g row i k hi hl row.length 0 (by omega)
  rw [List.drop_zero, show ((0 : Nat) : Int) = 0 from rfl] at L
  refine cw_of fn10 (c := c10) rfl rfl rfl rfl ?_
  cases hc : row.contains (k : Int) with
  | true =>
    rw [hc, if_pos rfl] at L
    simp -implicitDefEqProofs only [c10, codeW_seq, codeW_reg, codeW_cond, codeW_block, codeW_loop, codeW_skip, codeW_exit, codeW_ret, thenS_normal, thenS_if, thenS_ret, thenS_exit, thenS_pan, thenS_none, blockS_normal, blockS_exit, blockS_ret, blockS_pan, blockS_if, condS_some, ifS_true, ifS_false, opS_val, opS_new, opS_wr, opS_fz, opS_pan, bindO_some, runS_nil, runS_cons, runS_guard, gS_t, gS_f, gS_undef, asG_lit, asG_undef, core_mv, core_pick, core_alloc, core_load, core_store, core_clr, core_nilck, core_bin, core_binb, core_un, core_fadr, core_iadr, core_sli, core_len, core_lenS, core_idxS, core_app, core_mki, core_call, core_extV, core_fld, core_mks, wrO_some, valO_some, lenV_sl, lenV_own, bin_eql, bin_neq, bin_lss, bin_leq, bin_gtr, bin_geq, bin_add, bin_sub, bin_mul, unop_not, asBool_lit, pickV_lit, load_ip, iadr_sl, iadr_own, ev_s, ev_k, get_cons, get_nil, put_cons, put_nil, putD_some, putD_none, keep_cons, keep_nil, initFr, Nat.reduceEqDiff, Nat.reduceLT, Nat.reduceAdd, if_true, if_false, List.mem_cons, List.not_mem_nil, or_false, false_or, or_true, true_or, or_self, ↓reduceIte, Nat.zero_add, decide_false, decide_true, Nat.reduceBEq, beq_self_eq_true, BEq.rfl, Option.map_some, Option.map_none, List.head?_cons, List.map_cons, List.map_nil, List.append_nil, List.nil_append, List.cons_append, Bool.not_true, Bool.not_false, cond_true, cond_false, Int.natCast_nonneg, Int.toNat_natCast, Int.ofNat_toNat, core_bslice1, bsV_int, codeW_drawn, headS_cons, headS_nil, headS_guard, hS_val, hS_new, tailS_nil, tailS_cons, tailS_guard, tlS_val, tlS_new, tlS_wr, tlS_fz, tlS_pan, anyMk_cons, anyMk_nil, makes, binb_eql, binb_neq, List.isEmpty_nil, List.isEmpty_cons, Bool.or_false, Bool.false_or, Bool.or_true, Bool.true_or, pickV_t, pickV_f, lenV_g, h1, h2, h3, h4, L]
    rfl
  | false =>
    rw [hc, if_neg (by simp)] at L
    simp -implicitDefEqProofs only [c10, codeW_seq, codeW_reg, codeW_cond, codeW_block, codeW_loop, codeW_skip, codeW_exit, codeW_ret, thenS_normal, thenS_if, thenS_ret, thenS_exit, thenS_pan, thenS_none, blockS_normal, blockS_exit, blockS_ret, blockS_pan, blockS_if, condS_some, ifS_true, ifS_false, opS_val, opS_new, opS_wr, opS_fz, opS_pan, bindO_some, runS_nil, runS_cons, runS_guard, gS_t, gS_f, gS_undef, asG_lit, asG_undef, core_mv, core_pick, core_alloc, core_load, core_store, core_clr, core_nilck, core_bin, core_binb, core_un, core_fadr, core_iadr, core_sli, core_len, core_lenS, core_idxS, core_app, core_mki, core_call, core_extV, core_fld, core_mks, wrO_some, valO_some, lenV_sl, lenV_own, bin_eql, bin_neq, bin_lss, bin_leq, bin_gtr, bin_geq, bin_add, bin_sub, bin_mul, unop_not, asBool_lit, pickV_lit, load_ip, iadr_sl, iadr_own, ev_s, ev_k, get_cons, get_nil, put_cons, put_nil, putD_some, putD_none, keep_cons, keep_nil, initFr, Nat.reduceEqDiff, Nat.reduceLT, Nat.reduceAdd, if_true, if_false, List.mem_cons, List.not_mem_nil, or_false, false_or, or_true, true_or, or_self, ↓reduceIte, Nat.zero_add, decide_false, decide_true, Nat.reduceBEq, beq_self_eq_true, BEq.rfl, Option.map_some, Option.map_none, List.head?_cons, List.map_cons, List.map_nil, List.append_nil, List.nil_append, List.cons_append, Bool.not_true, Bool.not_false, cond_true, cond_false, Int.natCast_nonneg, Int.toNat_natCast, Int.ofNat_toNat, core_bslice1, bsV_int, codeW_drawn, headS_cons, headS_nil, headS_guard, hS_val, hS_new, tailS_nil, tailS_cons, tailS_guard, tlS_val, tlS_new, tlS_wr, tlS_fz, tlS_pan, anyMk_cons, anyMk_nil, makes, binb_eql, binb_neq, List.isEmpty_nil, List.isEmpty_cons, Bool.or_false, Bool.false_or, Bool.or_true, Bool.true_or, pickV_t, pickV_f, lenV_g, h1, h2, h3, h4, L]
    rfl
/-- Does place i need place k? -/
def needB (g : List (List Int)) (i k : Nat) : Bool := match g[i]? with | some row => row.contains (k : Int) | none => false
theorem needB_iff {g : List (List Int)} {i k : Nat} (hk : k < g.length) : needB g i k = true ↔ (k : Int) ∈ need g i := by
  unfold needB
  cases hg : g[i]? with
  | none => simp [need, hg]
  | some row =>
    rw [mem_need hg]
    simp only [List.contains_iff_mem]
    exact ⟨fun h => ⟨h, by omega, by omega⟩, fun h => h.1⟩
theorem rneeds_call (g : List (List Int)) (hf : fewG g = true) (i k : Nat) (hi : i < g.length) (hk : k < g.length) (H : List AO) (id : Nat) : callV cw mds 10 [gA g, litI .i64 i, litI .i64 k] H id = some (.val (litB (needB g i k)) none) := by
  obtain ⟨row, hrow⟩ : ∃ row, g[i]? = some row := ⟨_, List.getElem?_eq_getElem hi⟩
  have := rneeds_tells g row i k hrow (by have := few_row hf hrow; omega) hk
  have e : needB g i k = row.contains (k : Int) := by unfold needB; rw [hrow]
  rw [← e] at this
  exact callV_pure rfl rfl this rfl
end Go.Proofs.Ytoemnjclhheeoaa.Ai
