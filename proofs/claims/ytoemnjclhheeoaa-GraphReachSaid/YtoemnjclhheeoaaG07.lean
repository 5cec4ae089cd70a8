/- Layer 7: GraphReach told. No condition. -/
import Derived.Test.YtoemnjclhheeoaaF07
namespace Go.Proofs.Ytoemnjclhheeoaa.Ai
open Go Go.Ai
set_option linter.unusedSimpArgs false
set_option linter.unusedVariables false

/-- Chapter 7's examples hold: by running them. -/
theorem awake_tells : ∃ H', cw 9 [] [] = some (.ret (litB true), H') := by
  have h0 : saysTrue (call (lookF tb) ovs (lookM mtl) mds 400 9 [] []) = true := by kernel_rfl
  obtain ⟨H', h⟩ := saysTrue_some h0
  exact ⟨H', callW_some.2 ⟨400, h⟩⟩
theorem awake_call (H : List AO) (id : Nat) : callV cw mds 9 [] H id = some (.val (litB true) none) := by
  obtain ⟨H', h⟩ := awake_tells
  exact callV_pure rfl rfl h rfl

theorem getD_set (l : List Bool) (n k : Nat) (b : Bool) (h : n < l.length) : (l.set n b).getD k false = if n = k then b else l.getD k false := by
  rw [List.getD_eq_getElem?_getD, List.getD_eq_getElem?_getD, List.getElem?_set]
  by_cases e : n = k
  · subst e; simp [h]
  · simp [e]
theorem getD_some {l : List Bool} {n : Nat} (h : n < l.length) : l[n]? = some (l.getD n false) := by
  rw [List.getD_eq_getElem?_getD, List.getElem?_eq_getElem h]; rfl

variable {call : CallF} {mt : MtF} {md : FuncId → Md}
/-- What one place reaches is joined. -/
theorem join_loop (g : List (List Int)) (hl : g.length ≤ 20) (i k : Nat) (A : AV) (s : List Bool) (hs : s.length = g.length) (c : Option Nat) : ∀ (m n : Nat) (w : List Bool), m + n = g.length → w.length = g.length →
    ∃ w', loopW (codeW call mt md c6l0) [0, 1, 5, 6, 7, 8, 9] [(0, gA g), (1, litI .i64 i), (5, A), (6, .own 0 0 g.length 1 (some g.length)), (7, litI .i64 k), (8, boolsA s c), (9, litI .i64 n)] [.row (cellsB w) 4] =
      some (EX.exit 2, [(0, gA g), (1, litI .i64 i), (5, A), (6, .own 0 0 g.length 1 (some g.length)), (7, litI .i64 k), (8, boolsA s c), (9, litI .i64 g.length), (66, litB false)], [.row (cellsB w') 4]) ∧
      w'.length = g.length ∧ ∀ q, w'.getD q false = (w.getD q false || (decide (n ≤ q) && s.getD q false))
  | 0, n, w, h, hw => by
    have hn : n = g.length := by omega
    subst hn
    refine ⟨w, loopW_out ?_ (by simp), hw, fun q => ?_⟩
    · simp -implicitDefEqProofs only [c6l0, codeW_seq, codeW_reg, codeW_cond, codeW_block, codeW_loop, codeW_skip, codeW_exit, codeW_ret, thenS_normal, thenS_if, thenS_ret, thenS_exit, thenS_pan, thenS_none, blockS_normal, blockS_exit, blockS_ret, blockS_pan, blockS_if, condS_some, ifS_true, ifS_false, opS_val, opS_new, opS_wr, opS_fz, opS_pan, bindO_some, runS_nil, runS_cons, runS_guard, gS_t, gS_f, gS_undef, asG_lit, asG_undef, core_mv, core_pick, core_alloc, core_load, core_store, core_clr, core_nilck, core_bin, core_binb, core_un, core_fadr, core_iadr, core_sli, core_len, core_lenS, core_idxS, core_app, core_mki, core_call, core_extV, core_fld, core_mks, wrO_some, valO_some, lenV_sl, lenV_own, bin_eql, bin_neq, bin_lss, bin_leq, bin_gtr, bin_geq, bin_add, bin_sub, bin_mul, unop_not, asBool_lit, pickV_lit, load_ip, iadr_sl, iadr_own, ev_s, ev_k, get_cons, get_nil, put_cons, put_nil, putD_some, putD_none, keep_cons, keep_nil, initFr, Nat.reduceEqDiff, Nat.reduceLT, Nat.reduceAdd, if_true, if_false, List.mem_cons, List.not_mem_nil, or_false, false_or, or_true, true_or, or_self, ↓reduceIte, Nat.zero_add, decide_false, decide_true, Nat.reduceBEq, beq_self_eq_true, BEq.rfl, Option.map_some, Option.map_none, List.head?_cons, List.map_cons, List.map_nil, List.append_nil, List.nil_append, List.cons_append, Bool.not_true, Bool.not_false, cond_true, cond_false, Int.natCast_nonneg, Int.toNat_natCast, Int.ofNat_toNat, core_bslice1, bsV_int, codeW_drawn, headS_cons, headS_nil, headS_guard, hS_val, hS_new, tailS_nil, tailS_cons, tailS_guard, tlS_val, tlS_new, tlS_wr, tlS_fz, tlS_pan, anyMk_cons, anyMk_nil, makes, binb_eql, binb_neq, List.isEmpty_nil, List.isEmpty_cons, Bool.or_false, Bool.false_or, Bool.or_true, Bool.true_or, pickV_t, pickV_f, lenV_g, Int.lt_irrefl]
    · by_cases hq : g.length ≤ q
      · have : s.getD q false = false := by rw [List.getD_eq_getElem?_getD, List.getElem?_eq_none (by omega)]; rfl
        rw [this]; simp
      · simp [hq]
  | m + 1, n, w, h, hw => by
    have hn : n < g.length := by omega
    have hlt : (n : Int) < g.length := by omega
    have h0 : (0 : Int) ≤ n := by omega
    have hw1 := wrap1 (show n < 4611686018427387904 by omega)
    have hR : [AO.row (cellsB w) 4][0]? = some (.row (cellsB w) 4) := rfl
    have hwn : (cellsB w)[n]? = some (litB (w.getD n false)) := by rw [cellsB_get, getD_some (by omega)]; rfl
    have hsn : s[n]? = some (s.getD n false) := getD_some (by omega)
    have st : ∀ b, storeAt [AO.row (cellsB w) 4] 1 (.ptr 0 n) (litB b) = some [AO.row (cellsB (w.set n b)) 4] := by
      intro b
      rw [store_ptr hR (by rw [cellsB_len]; omega) rfl rfl, cellsB_set]; rfl
    obtain ⟨w', L, hl', hq'⟩ := join_loop g hl i k A s hs c m (n + 1) (w.set n (w.getD n false || s.getD n false)) (by omega) (by simpa using hw)
    refine ⟨w', loopW_round ?_ L, hl', fun q => ?_⟩
    · cases hb : w.getD n false with
      | true =>
        rw [hb] at hwn
        simp -implicitDefEqProofs only [c6l0, codeW_seq, codeW_reg, codeW_cond, codeW_block, codeW_loop, codeW_skip, codeW_exit, codeW_ret, thenS_normal, thenS_if, thenS_ret, thenS_exit, thenS_pan, thenS_none, blockS_normal, blockS_exit, blockS_ret, blockS_pan, blockS_if, condS_some, ifS_true, ifS_false, opS_val, opS_new, opS_wr, opS_fz, opS_pan, bindO_some, runS_nil, runS_cons, runS_guard, gS_t, gS_f, gS_undef, asG_lit, asG_undef, core_mv, core_pick, core_alloc, core_load, core_store, core_clr, core_nilck, core_bin, core_binb, core_un, core_fadr, core_iadr, core_sli, core_len, core_lenS, core_idxS, core_app, core_mki, core_call, core_extV, core_fld, core_mks, wrO_some, valO_some, lenV_sl, lenV_own, bin_eql, bin_neq, bin_lss, bin_leq, bin_gtr, bin_geq, bin_add, bin_sub, bin_mul, unop_not, asBool_lit, pickV_lit, load_ip, iadr_sl, iadr_own, ev_s, ev_k, get_cons, get_nil, put_cons, put_nil, putD_some, putD_none, keep_cons, keep_nil, initFr, Nat.reduceEqDiff, Nat.reduceLT, Nat.reduceAdd, if_true, if_false, List.mem_cons, List.not_mem_nil, or_false, false_or, or_true, true_or, or_self, ↓reduceIte, Nat.zero_add, decide_false, decide_true, Nat.reduceBEq, beq_self_eq_true, BEq.rfl, Option.map_some, Option.map_none, List.head?_cons, List.map_cons, List.map_nil, List.append_nil, List.nil_append, List.cons_append, Bool.not_true, Bool.not_false, cond_true, cond_false, Int.natCast_nonneg, Int.toNat_natCast, Int.ofNat_toNat, core_bslice1, bsV_int, codeW_drawn, headS_cons, headS_nil, headS_guard, hS_val, hS_new, tailS_nil, tailS_cons, tailS_guard, tlS_val, tlS_new, tlS_wr, tlS_fz, tlS_pan, anyMk_cons, anyMk_nil, makes, binb_eql, binb_neq, List.isEmpty_nil, List.isEmpty_cons, Bool.or_false, Bool.false_or, Bool.or_true, Bool.true_or, pickV_t, pickV_f, lenV_g, lenV_bools, hs, hlt, h0, and_self, load_ptr hR, hwn, Nat.mul_one, hw1, st]
      | false =>
        rw [hb] at hwn
        simp -implicitDefEqProofs only [c6l0, codeW_seq, codeW_reg, codeW_cond, codeW_block, codeW_loop, codeW_skip, codeW_exit, codeW_ret, thenS_normal, thenS_if, thenS_ret, thenS_exit, thenS_pan, thenS_none, blockS_normal, blockS_exit, blockS_ret, blockS_pan, blockS_if, condS_some, ifS_true, ifS_false, opS_val, opS_new, opS_wr, opS_fz, opS_pan, bindO_some, runS_nil, runS_cons, runS_guard, gS_t, gS_f, gS_undef, asG_lit, asG_undef, core_mv, core_pick, core_alloc, core_load, core_store, core_clr, core_nilck, core_bin, core_binb, core_un, core_fadr, core_iadr, core_sli, core_len, core_lenS, core_idxS, core_app, core_mki, core_call, core_extV, core_fld, core_mks, wrO_some, valO_some, lenV_sl, lenV_own, bin_eql, bin_neq, bin_lss, bin_leq, bin_gtr, bin_geq, bin_add, bin_sub, bin_mul, unop_not, asBool_lit, pickV_lit, load_ip, iadr_sl, iadr_own, ev_s, ev_k, get_cons, get_nil, put_cons, put_nil, putD_some, putD_none, keep_cons, keep_nil, initFr, Nat.reduceEqDiff, Nat.reduceLT, Nat.reduceAdd, if_true, if_false, List.mem_cons, List.not_mem_nil, or_false, false_or, or_true, true_or, or_self, ↓reduceIte, Nat.zero_add, decide_false, decide_true, Nat.reduceBEq, beq_self_eq_true, BEq.rfl, Option.map_some, Option.map_none, List.head?_cons, List.map_cons, List.map_nil, List.append_nil, List.nil_append, List.cons_append, Bool.not_true, Bool.not_false, cond_true, cond_false, Int.natCast_nonneg, Int.toNat_natCast, Int.ofNat_toNat, core_bslice1, bsV_int, codeW_drawn, headS_cons, headS_nil, headS_guard, hS_val, hS_new, tailS_nil, tailS_cons, tailS_guard, tlS_val, tlS_new, tlS_wr, tlS_fz, tlS_pan, anyMk_cons, anyMk_nil, makes, binb_eql, binb_neq, List.isEmpty_nil, List.isEmpty_cons, Bool.or_false, Bool.false_or, Bool.or_true, Bool.true_or, pickV_t, pickV_f, lenV_g, lenV_bools, hs, hlt, h0, and_self, load_ptr hR, hwn, Nat.mul_one, hw1, st, iadr_bools, hsn]
    · rw [hq', getD_set _ _ _ _ (by omega)]
      by_cases e : n = q
      · subst e
        have : ¬ n + 1 ≤ n := by omega
        simp [this]
      · rw [if_neg e]
        by_cases e2 : n ≤ q
        · have : n + 1 ≤ q := by omega
          simp [e2, this]
        · have : ¬ n + 1 ≤ q := by omega
          simp [e2, this]

/-- What places reach that are needed is joined. -/
theorem want_loop (g : List (List Int)) (hf : fewG g = true) (i : Nat) (hi : i < g.length) (A : AV) : ∀ (m n : Nat) (w : List Bool), m + n = g.length → w.length = g.length →
    ∃ w', loopW (codeW cw (lookM mtl) mds c6l1) [0, 1, 5, 6, 7] [(0, gA g), (1, litI .i64 i), (5, A), (6, .own 0 0 g.length 1 (some g.length)), (7, litI .i64 n)] [.row (cellsB w) 4] =
      some (EX.exit 0, [(0, gA g), (1, litI .i64 i), (5, A), (6, .own 0 0 g.length 1 (some g.length)), (7, litI .i64 g.length), (43, litB false)], [.row (cellsB w') 4]) ∧
      w'.length = g.length ∧ ∀ q, q < g.length → (w'.getD q false = true ↔ (w.getD q false = true ∨ ∃ k, n ≤ k ∧ k < g.length ∧ (k : Int) ∈ need g i ∧ (k = q ∨ Road g k q)))
  | 0, n, w, h, hw => by
    have hn : n = g.length := by omega
    subst hn
    refine ⟨w, loopW_out ?_ (by simp), hw, fun q hq => ?_⟩
    · simp -implicitDefEqProofs only [c6l1, codeW_seq, codeW_reg, codeW_cond, codeW_block, codeW_loop, codeW_skip, codeW_exit, codeW_ret, thenS_normal, thenS_if, thenS_ret, thenS_exit, thenS_pan, thenS_none, blockS_normal, blockS_exit, blockS_ret, blockS_pan, blockS_if, condS_some, ifS_true, ifS_false, opS_val, opS_new, opS_wr, opS_fz, opS_pan, bindO_some, runS_nil, runS_cons, runS_guard, gS_t, gS_f, gS_undef, asG_lit, asG_undef, core_mv, core_pick, core_alloc, core_load, core_store, core_clr, core_nilck, core_bin, core_binb, core_un, core_fadr, core_iadr, core_sli, core_len, core_lenS, core_idxS, core_app, core_mki, core_call, core_extV, core_fld, core_mks, wrO_some, valO_some, lenV_sl, lenV_own, bin_eql, bin_neq, bin_lss, bin_leq, bin_gtr, bin_geq, bin_add, bin_sub, bin_mul, unop_not, asBool_lit, pickV_lit, load_ip, iadr_sl, iadr_own, ev_s, ev_k, get_cons, get_nil, put_cons, put_nil, putD_some, putD_none, keep_cons, keep_nil, initFr, Nat.reduceEqDiff, Nat.reduceLT, Nat.reduceAdd, if_true, if_false, List.mem_cons, List.not_mem_nil, or_false, false_or, or_true, true_or, or_self, ↓reduceIte, Nat.zero_add, decide_false, decide_true, Nat.reduceBEq, beq_self_eq_true, BEq.rfl, Option.map_some, Option.map_none, List.head?_cons, List.map_cons, List.map_nil, List.append_nil, List.nil_append, List.cons_append, Bool.not_true, Bool.not_false, cond_true, cond_false, Int.natCast_nonneg, Int.toNat_natCast, Int.ofNat_toNat, core_bslice1, bsV_int, codeW_drawn, headS_cons, headS_nil, headS_guard, hS_val, hS_new, tailS_nil, tailS_cons, tailS_guard, tlS_val, tlS_new, tlS_wr, tlS_fz, tlS_pan, anyMk_cons, anyMk_nil, makes, binb_eql, binb_neq, List.isEmpty_nil, List.isEmpty_cons, Bool.or_false, Bool.false_or, Bool.or_true, Bool.true_or, pickV_t, pickV_f, lenV_g, Int.lt_irrefl]
    · constructor
      · exact .inl
      · rintro (h | ⟨k, h1, h2, _⟩)
        · exact h
        · omega
  | m + 1, n, w, h, hw => by
    have hn : n < g.length := by omega
    have hlt : (n : Int) < g.length := by omega
    have h0 : (0 : Int) ≤ n := by omega
    have h20 := few_len hf
    have hw1 := wrap1 (show n < 4611686018427387904 by omega)
    have hR : [AO.row (cellsB w) 4][0]? = some (.row (cellsB w) 4) := rfl
    have hc := fun H id => rneeds_call g hf i n hi hn H id
    cases hb : needB g i n with
    | false =>
      obtain ⟨w', L, hl', hq'⟩ := want_loop g hf i hi A m (n + 1) w (by omega) hw
      refine ⟨w', loopW_round ?_ L, hl', fun q hq => ?_⟩
      · simp -implicitDefEqProofs only [c6l1, codeW_seq, codeW_reg, codeW_cond, codeW_block, codeW_loop, codeW_skip, codeW_exit, codeW_ret, thenS_normal, thenS_if, thenS_ret, thenS_exit, thenS_pan, thenS_none, blockS_normal, blockS_exit, blockS_ret, blockS_pan, blockS_if, condS_some, ifS_true, ifS_false, opS_val, opS_new, opS_wr, opS_fz, opS_pan, bindO_some, runS_nil, runS_cons, runS_guard, gS_t, gS_f, gS_undef, asG_lit, asG_undef, core_mv, core_pick, core_alloc, core_load, core_store, core_clr, core_nilck, core_bin, core_binb, core_un, core_fadr, core_iadr, core_sli, core_len, core_lenS, core_idxS, core_app, core_mki, core_call, core_extV, core_fld, core_mks, wrO_some, valO_some, lenV_sl, lenV_own, bin_eql, bin_neq, bin_lss, bin_leq, bin_gtr, bin_geq, bin_add, bin_sub, bin_mul, unop_not, asBool_lit, pickV_lit, load_ip, iadr_sl, iadr_own, ev_s, ev_k, get_cons, get_nil, put_cons, put_nil, putD_some, putD_none, keep_cons, keep_nil, initFr, Nat.reduceEqDiff, Nat.reduceLT, Nat.reduceAdd, if_true, if_false, List.mem_cons, List.not_mem_nil, or_false, false_or, or_true, true_or, or_self, ↓reduceIte, Nat.zero_add, decide_false, decide_true, Nat.reduceBEq, beq_self_eq_true, BEq.rfl, Option.map_some, Option.map_none, List.head?_cons, List.map_cons, List.map_nil, List.append_nil, List.nil_append, List.cons_append, Bool.not_true, Bool.not_false, cond_true, cond_false, Int.natCast_nonneg, Int.toNat_natCast, Int.ofNat_toNat, core_bslice1, bsV_int, codeW_drawn, headS_cons, headS_nil, headS_guard, hS_val, hS_new, tailS_nil, tailS_cons, tailS_guard, tlS_val, tlS_new, tlS_wr, tlS_fz, tlS_pan, anyMk_cons, anyMk_nil, makes, binb_eql, binb_neq, List.isEmpty_nil, List.isEmpty_cons, Bool.or_false, Bool.false_or, Bool.or_true, Bool.true_or, pickV_t, pickV_f, lenV_g, hlt, hc, hb, hw1]
      · rw [hq' q hq]
        have hnn : ¬ (n : Int) ∈ need g i := by rw [← needB_iff hn, hb]; simp
        constructor
        · rintro (h | ⟨k, h1, h2⟩)
          · exact .inl h
          · exact .inr ⟨k, by omega, h2⟩
        · rintro (h | ⟨k, h1, h2, h3, h4⟩)
          · exact .inl h
          · have : n ≠ k := by intro e; subst e; exact hnn h3
            exact .inr ⟨k, by omega, h2, h3, h4⟩
    | true =>
      have hr := fun H id => reach_call g hf n hn H id
      have st : storeAt [AO.row (cellsB w) 4] 1 (.ptr 0 n) (litB true) = some [AO.row (cellsB (w.set n true)) 4] := by
        rw [store_ptr hR (by rw [cellsB_len]; omega) rfl rfl, cellsB_set]; rfl
      obtain ⟨w1, L1, hl1, hq1⟩ := join_loop (call := cw) (mt := lookM mtl) (md := mds) g h20 i n A (reachL g n) (reachL_len g n) (some g.length) g.length 0 (w.set n true) (by omega) (by simpa using hw)
      rw [show ((0 : Nat) : Int) = 0 from rfl] at L1
      obtain ⟨w', L, hl', hq'⟩ := want_loop g hf i hi A m (n + 1) w1 (by omega) hl1
      refine ⟨w', loopW_round ?_ L, hl', fun q hq => ?_⟩
      · simp -implicitDefEqProofs only [c6l1, codeW_seq, codeW_reg, codeW_cond, codeW_block, codeW_loop, codeW_skip, codeW_exit, codeW_ret, thenS_normal, thenS_if, thenS_ret, thenS_exit, thenS_pan, thenS_none, blockS_normal, blockS_exit, blockS_ret, blockS_pan, blockS_if, condS_some, ifS_true, ifS_false, opS_val, opS_new, opS_wr, opS_fz, opS_pan, bindO_some, runS_nil, runS_cons, runS_guard, gS_t, gS_f, gS_undef, asG_lit, asG_undef, core_mv, core_pick, core_alloc, core_load, core_store, core_clr, core_nilck, core_bin, core_binb, core_un, core_fadr, core_iadr, core_sli, core_len, core_lenS, core_idxS, core_app, core_mki, core_call, core_extV, core_fld, core_mks, wrO_some, valO_some, lenV_sl, lenV_own, bin_eql, bin_neq, bin_lss, bin_leq, bin_gtr, bin_geq, bin_add, bin_sub, bin_mul, unop_not, asBool_lit, pickV_lit, load_ip, iadr_sl, iadr_own, ev_s, ev_k, get_cons, get_nil, put_cons, put_nil, putD_some, putD_none, keep_cons, keep_nil, initFr, Nat.reduceEqDiff, Nat.reduceLT, Nat.reduceAdd, if_true, if_false, List.mem_cons, List.not_mem_nil, or_false, false_or, or_true, true_or, or_self, ↓reduceIte, Nat.zero_add, decide_false, decide_true, Nat.reduceBEq, beq_self_eq_true, BEq.rfl, Option.map_some, Option.map_none, List.head?_cons, List.map_cons, List.map_nil, List.append_nil, List.nil_append, List.cons_append, Bool.not_true, Bool.not_false, cond_true, cond_false, Int.natCast_nonneg, Int.toNat_natCast, Int.ofNat_toNat, core_bslice1, bsV_int, codeW_drawn, headS_cons, headS_nil, headS_guard, hS_val, hS_new, tailS_nil, tailS_cons, tailS_guard, tlS_val, tlS_new, tlS_wr, tlS_fz, tlS_pan, anyMk_cons, anyMk_nil, makes, binb_eql, binb_neq, List.isEmpty_nil, List.isEmpty_cons, Bool.or_false, Bool.false_or, Bool.or_true, Bool.true_or, pickV_t, pickV_f, lenV_g, hlt, h0, hc, hb, hw1, hr, st, L1, and_self, Nat.mul_one]
      · have hnn : (n : Int) ∈ need g i := by rw [← needB_iff hn, hb]
        have hroad := reachL_road hf n q hq
        rw [List.getElem?_eq_getElem (by rw [reachL_len]; exact hq)] at hroad
        have hgd : (reachL g n).getD q false = (reachL g n)[q]'(by rw [reachL_len]; exact hq) := by
          rw [List.getD_eq_getElem?_getD, List.getElem?_eq_getElem (by rw [reachL_len]; exact hq)]; rfl
        rw [hq' q hq, hq1, getD_set _ _ _ _ (by omega), hgd]
        simp only [Nat.zero_le, decide_true, Bool.true_and, Bool.or_eq_true]
        simp only [Option.some.injEq] at hroad
        rw [hroad]
        constructor
        · rintro ((h | h) | ⟨k, h1, h2⟩)
          · by_cases e : n = q
            · exact .inr ⟨n, Nat.le_refl _, hn, hnn, .inl e⟩
            · rw [if_neg e] at h; exact .inl h
          · exact .inr ⟨n, Nat.le_refl _, hn, hnn, .inr h⟩
          · exact .inr ⟨k, by omega, h2⟩
        · rintro (h | ⟨k, h1, h2, h3, h4⟩)
          · left; left
            by_cases e : n = q
            · rw [if_pos e]
            · rw [if_neg e]; exact h
          · by_cases e : n = k
            · subst e
              left
              rcases h4 with h4 | h4
              · left; rw [if_pos h4]
              · exact .inr h4
            · exact .inr ⟨k, by omega, h2, h3, h4⟩

/-- Two rows are the same. -/
theorem cmp_loop (g : List (List Int)) (hl : g.length ≤ 20) (r w : List Bool) (c : Option Nat) (hr : r.length = g.length) (hw : w.length = g.length) (he : ∀ q, q < g.length → r.getD q false = w.getD q false) : ∀ (m n : Nat), m + n = g.length →
    loopW (codeW call mt md c6l2) [0, 5, 6, 10] [(0, gA g), (5, boolsA r c), (6, .own 0 0 g.length 1 (some g.length)), (10, litI .i64 n)] [.row (cellsB w) 4] =
      some (EX.exit 4, [(0, gA g), (5, boolsA r c), (6, .own 0 0 g.length 1 (some g.length)), (10, litI .i64 g.length), (85, litB false)], [.row (cellsB w) 4])
  | 0, n, h => by
    have hn : n = g.length := by omega
    subst hn
    refine loopW_out ?_ (by simp)
    simp -implicitDefEqProofs only [c6l2, codeW_seq, codeW_reg, codeW_cond, codeW_block, codeW_loop, codeW_skip, codeW_exit, codeW_ret, thenS_normal, thenS_if, thenS_ret, thenS_exit, thenS_pan, thenS_none, blockS_normal, blockS_exit, blockS_ret, blockS_pan, blockS_if, condS_some, ifS_true, ifS_false, opS_val, opS_new, opS_wr, opS_fz, opS_pan, bindO_some, runS_nil, runS_cons, runS_guard, gS_t, gS_f, gS_undef, asG_lit, asG_undef, core_mv, core_pick, core_alloc, core_load, core_store, core_clr, core_nilck, core_bin, core_binb, core_un, core_fadr, core_iadr, core_sli, core_len, core_lenS, core_idxS, core_app, core_mki, core_call, core_extV, core_fld, core_mks, wrO_some, valO_some, lenV_sl, lenV_own, bin_eql, bin_neq, bin_lss, bin_leq, bin_gtr, bin_geq, bin_add, bin_sub, bin_mul, unop_not, asBool_lit, pickV_lit, load_ip, iadr_sl, iadr_own, ev_s, ev_k, get_cons, get_nil, put_cons, put_nil, putD_some, putD_none, keep_cons, keep_nil, initFr, Nat.reduceEqDiff, Nat.reduceLT, Nat.reduceAdd, if_true, if_false, List.mem_cons, List.not_mem_nil, or_false, false_or, or_true, true_or, or_self, ↓reduceIte, Nat.zero_add, decide_false, decide_true, Nat.reduceBEq, beq_self_eq_true, BEq.rfl, Option.map_some, Option.map_none, List.head?_cons, List.map_cons, List.map_nil, List.append_nil, List.nil_append, List.cons_append, Bool.not_true, Bool.not_false, cond_true, cond_false, Int.natCast_nonneg, Int.toNat_natCast, Int.ofNat_toNat, core_bslice1, bsV_int, codeW_drawn, headS_cons, headS_nil, headS_guard, hS_val, hS_new, tailS_nil, tailS_cons, tailS_guard, tlS_val, tlS_new, tlS_wr, tlS_fz, tlS_pan, anyMk_cons, anyMk_nil, makes, binb_eql, binb_neq, List.isEmpty_nil, List.isEmpty_cons, Bool.or_false, Bool.false_or, Bool.or_true, Bool.true_or, pickV_t, pickV_f, lenV_g, Int.lt_irrefl]
  | m + 1, n, h => by
    have hn : n < g.length := by omega
    have hlt : (n : Int) < g.length := by omega
    have h0 : (0 : Int) ≤ n := by omega
    have hw1 := wrap1 (show n < 4611686018427387904 by omega)
    have hR : [AO.row (cellsB w) 4][0]? = some (.row (cellsB w) 4) := rfl
    have hwn : (cellsB w)[n]? = some (litB (w.getD n false)) := by rw [cellsB_get, getD_some (by omega)]; rfl
    have hrn : r[n]? = some (w.getD n false) := by rw [getD_some (by omega), he n hn]
    refine loopW_round ?_ (cmp_loop g hl r w c hr hw he m (n + 1) (by omega))
    simp -implicitDefEqProofs only [c6l2, codeW_seq, codeW_reg, codeW_cond, codeW_block, codeW_loop, codeW_skip, codeW_exit, codeW_ret, thenS_normal, thenS_if, thenS_ret, thenS_exit, thenS_pan, thenS_none, blockS_normal, blockS_exit, blockS_ret, blockS_pan, blockS_if, condS_some, ifS_true, ifS_false, opS_val, opS_new, opS_wr, opS_fz, opS_pan, bindO_some, runS_nil, runS_cons, runS_guard, gS_t, gS_f, gS_undef, asG_lit, asG_undef, core_mv, core_pick, core_alloc, core_load, core_store, core_clr, core_nilck, core_bin, core_binb, core_un, core_fadr, core_iadr, core_sli, core_len, core_lenS, core_idxS, core_app, core_mki, core_call, core_extV, core_fld, core_mks, wrO_some, valO_some, lenV_sl, lenV_own, bin_eql, bin_neq, bin_lss, bin_leq, bin_gtr, bin_geq, bin_add, bin_sub, bin_mul, unop_not, asBool_lit, pickV_lit, load_ip, iadr_sl, iadr_own, ev_s, ev_k, get_cons, get_nil, put_cons, put_nil, putD_some, putD_none, keep_cons, keep_nil, initFr, Nat.reduceEqDiff, Nat.reduceLT, Nat.reduceAdd, if_true, if_false, List.mem_cons, List.not_mem_nil, or_false, false_or, or_true, true_or, or_self, ↓reduceIte, Nat.zero_add, decide_false, decide_true, Nat.reduceBEq, beq_self_eq_true, BEq.rfl, Option.map_some, Option.map_none, List.head?_cons, List.map_cons, List.map_nil, List.append_nil, List.nil_append, List.cons_append, Bool.not_true, Bool.not_false, cond_true, cond_false, Int.natCast_nonneg, Int.toNat_natCast, Int.ofNat_toNat, core_bslice1, bsV_int, codeW_drawn, headS_cons, headS_nil, headS_guard, hS_val, hS_new, tailS_nil, tailS_cons, tailS_guard, tlS_val, tlS_new, tlS_wr, tlS_fz, tlS_pan, anyMk_cons, anyMk_nil, makes, binb_eql, binb_neq, List.isEmpty_nil, List.isEmpty_cons, Bool.or_false, Bool.false_or, Bool.or_true, Bool.true_or, pickV_t, pickV_f, lenV_g, hlt, h0, and_self, load_ptr hR, hwn, iadr_bools, hrn, Nat.mul_one, hw1]

theorem rem_place (i : Int) {n : Nat} (h : 0 < n) (hn : n ≤ 20) : ∃ k : Nat, k < n ∧ (i.tmod n + n).tmod n = k ∧ IntKind.wrap .i64 (i.tmod n + n) = i.tmod n + n := by
  have h1 : i.tmod n < n := Int.tmod_lt_of_pos i (by omega)
  have h2 : -(n : Int) < i.tmod n := by
    have := Int.lt_tmod_of_pos i (b := n) (by omega)
    exact this
  refine ⟨((i.tmod n + n).tmod n).toNat, ?_, ?_, by rw [wrap_small] <;> omega⟩
  · have h3 : (i.tmod n + n).tmod n < n := Int.tmod_lt_of_pos _ (by omega)
    omega
  · have h4 : 0 ≤ (i.tmod n + n).tmod n := Int.tmod_nonneg _ (by omega)
    omega

theorem road_lt {g : List (List Int)} {i k : Nat} (r : Road g i k) : k < g.length := by
  induction r with
  | one h => have := need_rng _ _ h; omega
  | more _ _ ih => exact ih

theorem law_tells (g : List (List Int)) (i : Int) : ∃ H', cw 6 [gA g, litI .i64 i] [] = some (.ret (litB true), H') := by
  cases hf : fewG g with
  | false =>
    refine ⟨[], cw_of fn6 (c := c6) rfl rfl rfl rfl ?_⟩
    simp -implicitDefEqProofs only [c6, codeW_seq, codeW_reg, codeW_cond, codeW_block, codeW_loop, codeW_skip, codeW_exit, codeW_ret, thenS_normal, thenS_if, thenS_ret, thenS_exit, thenS_pan, thenS_none, blockS_normal, blockS_exit, blockS_ret, blockS_pan, blockS_if, condS_some, ifS_true, ifS_false, opS_val, opS_new, opS_wr, opS_fz, opS_pan, bindO_some, runS_nil, runS_cons, runS_guard, gS_t, gS_f, gS_undef, asG_lit, asG_undef, core_mv, core_pick, core_alloc, core_load, core_store, core_clr, core_nilck, core_bin, core_binb, core_un, core_fadr, core_iadr, core_sli, core_len, core_lenS, core_idxS, core_app, core_mki, core_call, core_extV, core_fld, core_mks, wrO_some, valO_some, lenV_sl, lenV_own, bin_eql, bin_neq, bin_lss, bin_leq, bin_gtr, bin_geq, bin_add, bin_sub, bin_mul, unop_not, asBool_lit, pickV_lit, load_ip, iadr_sl, iadr_own, ev_s, ev_k, get_cons, get_nil, put_cons, put_nil, putD_some, putD_none, keep_cons, keep_nil, initFr, Nat.reduceEqDiff, Nat.reduceLT, Nat.reduceAdd, if_true, if_false, List.mem_cons, List.not_mem_nil, or_false, false_or, or_true, true_or, or_self, ↓reduceIte, Nat.zero_add, decide_false, decide_true, Nat.reduceBEq, beq_self_eq_true, BEq.rfl, Option.map_some, Option.map_none, List.head?_cons, List.map_cons, List.map_nil, List.append_nil, List.nil_append, List.cons_append, Bool.not_true, Bool.not_false, cond_true, cond_false, Int.natCast_nonneg, Int.toNat_natCast, Int.ofNat_toNat, core_bslice1, bsV_int, codeW_drawn, headS_cons, headS_nil, headS_guard, hS_val, hS_new, tailS_nil, tailS_cons, tailS_guard, tlS_val, tlS_new, tlS_wr, tlS_fz, tlS_pan, anyMk_cons, anyMk_nil, makes, binb_eql, binb_neq, List.isEmpty_nil, List.isEmpty_cons, Bool.or_false, Bool.false_or, Bool.or_true, Bool.true_or, pickV_t, pickV_f, few_call, hf]
    rfl
  | true =>
    by_cases hn : g.length = 0
    · refine ⟨[], cw_of fn6 (c := c6) rfl rfl rfl rfl ?_⟩
      have : ((g.length : Int) == 0) = true := by simp [hn]
      simp -implicitDefEqProofs only [c6, codeW_seq, codeW_reg, codeW_cond, codeW_block, codeW_loop, codeW_skip, codeW_exit, codeW_ret, thenS_normal, thenS_if, thenS_ret, thenS_exit, thenS_pan, thenS_none, blockS_normal, blockS_exit, blockS_ret, blockS_pan, blockS_if, condS_some, ifS_true, ifS_false, opS_val, opS_new, opS_wr, opS_fz, opS_pan, bindO_some, runS_nil, runS_cons, runS_guard, gS_t, gS_f, gS_undef, asG_lit, asG_undef, core_mv, core_pick, core_alloc, core_load, core_store, core_clr, core_nilck, core_bin, core_binb, core_un, core_fadr, core_iadr, core_sli, core_len, core_lenS, core_idxS, core_app, core_mki, core_call, core_extV, core_fld, core_mks, wrO_some, valO_some, lenV_sl, lenV_own, bin_eql, bin_neq, bin_lss, bin_leq, bin_gtr, bin_geq, bin_add, bin_sub, bin_mul, unop_not, asBool_lit, pickV_lit, load_ip, iadr_sl, iadr_own, ev_s, ev_k, get_cons, get_nil, put_cons, put_nil, putD_some, putD_none, keep_cons, keep_nil, initFr, Nat.reduceEqDiff, Nat.reduceLT, Nat.reduceAdd, if_true, if_false, List.mem_cons, List.not_mem_nil, or_false, false_or, or_true, true_or, or_self, ↓reduceIte, Nat.zero_add, decide_false, decide_true, Nat.reduceBEq, beq_self_eq_true, BEq.rfl, Option.map_some, Option.map_none, List.head?_cons, List.map_cons, List.map_nil, List.append_nil, List.nil_append, List.cons_append, Bool.not_true, Bool.not_false, cond_true, cond_false, Int.natCast_nonneg, Int.toNat_natCast, Int.ofNat_toNat, core_bslice1, bsV_int, codeW_drawn, headS_cons, headS_nil, headS_guard, hS_val, hS_new, tailS_nil, tailS_cons, tailS_guard, tlS_val, tlS_new, tlS_wr, tlS_fz, tlS_pan, anyMk_cons, anyMk_nil, makes, binb_eql, binb_neq, List.isEmpty_nil, List.isEmpty_cons, Bool.or_false, Bool.false_or, Bool.or_true, Bool.true_or, pickV_t, pickV_f, few_call, hf, lenV_g, this]
      rfl
    · have h20 := few_len hf
      have hz : ((g.length : Int) == 0) = false := by rw [beq_eq_false_iff_ne]; omega
      have hnz : (g.length : Int) ≠ 0 := by omega
      obtain ⟨k, hk, e1, e2⟩ := rem_place i (n := g.length) (by omega) h20
      have hm := mksV_ok (id := 0) (e := 1) (bytes := 1) (z := [litB false]) (t := 4) (n := g.length) (by omega) (by omega)
      rw [cells_rep] at hm
      have hne : ((g.length : Int) != g.length) = false := by simp
      obtain ⟨w, L1, hw, hq⟩ := want_loop g hf k hk (boolsA (reachL g k) (some g.length)) g.length 0 (List.replicate g.length false) (by omega) (by simp)
      rw [show ((0 : Nat) : Int) = 0 from rfl] at L1
      have he : ∀ q, q < g.length → (reachL g k).getD q false = w.getD q false := by
        intro q hql
        have h1 := hq q hql
        have h2 := reachL_road hf k q hql
        rw [getD_some (by rw [reachL_len]; exact hql), Option.some.injEq] at h2
        rw [Bool.eq_iff_iff, h1, h2]
        have h3 : (List.replicate g.length false).getD q false = false := by simp [List.getD_eq_getElem?_getD, List.getElem?_replicate, hql]
        rw [h3]
        constructor
        · intro r
          right
          cases r with
          | one h => exact ⟨q, by omega, hql, h, .inl rfl⟩
          | more h r => exact ⟨_, by omega, by have := need_rng _ _ h; omega, h, .inr r⟩
        · rintro (h | ⟨j, _, _, h, rfl | r⟩)
          · cases h
          · exact .one h
          · exact .more h r
      have L2 := cmp_loop (call := cw) (mt := lookM mtl) (md := mds) g h20 (reachL g k) w (some g.length) (reachL_len g k) hw he g.length 0 (by omega)
      rw [show ((0 : Nat) : Int) = 0 from rfl] at L2
      refine ⟨[.row (cellsB w) 4], cw_of fn6 (c := c6) rfl rfl rfl rfl ?_⟩
      simp -implicitDefEqProofs only [c6, codeW_seq, codeW_reg, codeW_cond, codeW_block, codeW_loop, codeW_skip, codeW_exit, codeW_ret, thenS_normal, thenS_if, thenS_ret, thenS_exit, thenS_pan, thenS_none, blockS_normal, blockS_exit, blockS_ret, blockS_pan, blockS_if, condS_some, ifS_true, ifS_false, opS_val, opS_new, opS_wr, opS_fz, opS_pan, bindO_some, runS_nil, runS_cons, runS_guard, gS_t, gS_f, gS_undef, asG_lit, asG_undef, core_mv, core_pick, core_alloc, core_load, core_store, core_clr, core_nilck, core_bin, core_binb, core_un, core_fadr, core_iadr, core_sli, core_len, core_lenS, core_idxS, core_app, core_mki, core_call, core_extV, core_fld, core_mks, wrO_some, valO_some, lenV_sl, lenV_own, bin_eql, bin_neq, bin_lss, bin_leq, bin_gtr, bin_geq, bin_add, bin_sub, bin_mul, unop_not, asBool_lit, pickV_lit, load_ip, iadr_sl, iadr_own, ev_s, ev_k, get_cons, get_nil, put_cons, put_nil, putD_some, putD_none, keep_cons, keep_nil, initFr, Nat.reduceEqDiff, Nat.reduceLT, Nat.reduceAdd, if_true, if_false, List.mem_cons, List.not_mem_nil, or_false, false_or, or_true, true_or, or_self, ↓reduceIte, Nat.zero_add, decide_false, decide_true, Nat.reduceBEq, beq_self_eq_true, BEq.rfl, Option.map_some, Option.map_none, List.head?_cons, List.map_cons, List.map_nil, List.append_nil, List.nil_append, List.cons_append, Bool.not_true, Bool.not_false, cond_true, cond_false, Int.natCast_nonneg, Int.toNat_natCast, Int.ofNat_toNat, core_bslice1, bsV_int, codeW_drawn, headS_cons, headS_nil, headS_guard, hS_val, hS_new, tailS_nil, tailS_cons, tailS_guard, tlS_val, tlS_new, tlS_wr, tlS_fz, tlS_pan, anyMk_cons, anyMk_nil, makes, binb_eql, binb_neq, List.isEmpty_nil, List.isEmpty_cons, Bool.or_false, Bool.false_or, Bool.or_true, Bool.true_or, pickV_t, pickV_f, few_call, hf, lenV_g, hz, bin_rem .i64 hnz, e1, e2, reach_call g hf k hk, lenV_bools, reachL_len, hne, List.length_nil, hm, L1, L2, awake_call]
      rfl
end Go.Proofs.Ytoemnjclhheeoaa.Ai
